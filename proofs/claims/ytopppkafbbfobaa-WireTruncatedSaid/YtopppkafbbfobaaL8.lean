/- For every integer and every tail of at most 2000 bytes, decoding the encoding with the tail behind it returns the integer and the encoding's length, from 1 to 9: the walk. -/
import Derived.Test.YtopppkafbbfobaaC18
import Derived.Test.YtopppkafbbfobaaB3
namespace Go.Proofs.Ytopppkafbbfobaa.W
open Go.RowKit

/-- What a statement leaves. -/
def Yes (w : World) (e : Ending) (w' : World) : Prop := e = .returned (.bool true) ∧ Below w.heap.size w w'

theorem ret_bool {a b : Bool} (h : a = b) : Ending.returned (.bool a) = .returned (.bool b) := by rw [h]

set_option maxRecDepth 100000 in
set_option maxHeartbeats 1000000 in
theorem intRound_long (n : Int) (A : Option Addr) (m c : Nat) (w : World) (hm : m ≤ 9223372036854775807) (h : 2000 < m) :
    Calls Try.prog 8 #[.int .i64 n, .slice A m c] w (Yes w) := by
  go_enter Try.func8, Try.ntmps8
  go_wp2_with fail
  refine (sanity_any w).mono ?_
  rintro e w' ⟨rfl, hb⟩
  go_wp2
  go_ret
  exact ⟨rfl, hb⟩

set_option maxRecDepth 100000 in
set_option maxHeartbeats 1000000 in
theorem intRound_short (n : Int) (hn : I64 n) (A : Option Addr) (t : List UInt8) (m c : Nat) (w : World) (hmt : Hid (m = t.length)) (hR : Rd w A (bv t)) (h : m ≤ 2000) :
    Calls Try.prog 8 #[.int .i64 n, .slice A m c] w (Yes w) := by
  have hnn : (n == n) = true := by simp
  go_enter Try.func8, Try.ntmps8
  go_wp2_with fail
  refine (int_any n hn w).mono ?_
  rintro e w1 ⟨v, rfl, ho, hB1⟩
  obtain ⟨A1, c1, rfl, hR1, hc1⟩ := own_open ho (by rw [bv_length]; have := encInt_le9 n; omega)
  have h9 := encInt_le9 n
  have h1 : 1 ≤ (encInt n).length := by rw [encInt_length]; omega
  have hcut := run_cut3 Try.underlying28 cel5 ino5 A1 (encInt n).length c1 ((encInt n).length : Int) ((encInt n).length : Int) (by omega) (by omega) (by omega)
  rw [Int.toNat_natCast] at hcut
  have hRt := hR.below hB1
  have hX := bv_length (encInt n)
  have HX := hide hX
  have HR1 := hide hR1
  have hdec := dec_enc n hn t
  have HD := hide hdec
  clear ho hX hR1 hR hdec
  generalize hk : (encInt n).length = k at *
  have HK := hide hk
  clear hk
  go_wp2_with (at_builtin; (refine wp_appf rfl (.tmp 21) (.tmp 22) 28 rfl 5 (.int .u8 0) 1 1 Try.underlying28 inf5 (by decide) A1 k (bv (encInt n)) rfl HR1.out (by rw [HX.out, Nat.mul_one]) h1 A m c (bv t) rfl (by rw [bv_length, hmt.out, Nat.mul_one]) hRt (by omega) (by omega) (by omega) ?_); intro A2 c2 w2 hR2 hc2 hB2)
  rw [← bv_append] at hR2
  refine (getInt_any A2 (encInt n ++ t) (k + m) c2 w2 (by rw [List.length_append, HK.out, hmt.out]) hc2 hR2).mono ?_
  rw [HD.out]
  rintro e w' ⟨rfl, rfl⟩
  simp only [resI]
  go_wp2_with fail
  refine (sanity_any w2).mono ?_
  rintro e w3 ⟨rfl, hB3⟩
  go_wp2
  go_ret
  exact ⟨ret_bool (decide_eq_true (by omega)), below_trans (below_trans hB1 hB2 hB1.size) hB3 (by have := hB1.size; have := hB2.size; omega)⟩
end Go.Proofs.Ytopppkafbbfobaa.W
