/- The reference's count, Bytes and GetBytes. -/
import Derived.Test.YtopppkafbbfobaaC31
import Derived.Test.YtopppkafbbfobaaC22
namespace Go.Proofs.Ytopppkafbbfobaa.W
open Go.RowKit

/-- What the reference's count leaves. -/
def CntAns (r : Except Nat (Nat × Nat)) (w : World) (e : Ending) (w' : World) : Prop :=
  Below w.heap.size w w' ∧ match r with
    | .error k => ∃ a b : Int, e = .returned (.tuple #[.int .i64 a, .int .i64 b, .int .i64 (k : Int)])
    | .ok (n, u) => e = .returned (.tuple #[.int .i64 (n : Int), .int .i64 (u : Int), .int .i64 0])

set_option maxRecDepth 100000 in
set_option maxHeartbeats 400000 in
theorem rcount_err (A : Option Addr) (l : List UInt8) (n c size k : Nat) (w : World) (hn : n = l.length) (hnc : n ≤ c) (hR : Rd w A (bv l)) (hd : Hid (decInt l = .error k)) (hk : ((k : Int) != 0) = true) :
    Calls Try.prog 65 #[.slice A n c, .int .i64 (size : Int)] w (CntAns (.error k) w) := by
  have HN := hide hn
  clear hn
  go_enter Try.func65, Try.ntmps65
  go_wp2_with (go_at_call 31; refine (refGetInt_any A l n c _ HN.out hnc hR).mono ?_; rintro e w' ⟨rfl, hB⟩; rw [hd.out]; simp only [resI])
  go_ret3
  exact ⟨hB, 0, 0, rfl⟩

set_option maxRecDepth 100000 in
set_option maxHeartbeats 400000 in
theorem rcount_neg (A : Option Addr) (l : List UInt8) (n c size u : Nat) (m : Int) (w : World) (hn : n = l.length) (hnc : n ≤ c) (hR : Rd w A (bv l)) (hd : Hid (decInt l = .ok (m, u))) (hneg : m < 0) :
    Calls Try.prog 65 #[.slice A n c, .int .i64 (size : Int)] w (CntAns (.error 2) w) := by
  have HN := hide hn
  clear hn
  go_enter Try.func65, Try.ntmps65
  go_wp2_with (go_at_call 31; refine (refGetInt_any A l n c _ HN.out hnc hR).mono ?_; rintro e w' ⟨rfl, hB⟩; rw [hd.out]; simp only [resI])
  go_ret3
  exact ⟨hB, _, _, rfl⟩

set_option maxRecDepth 100000 in
set_option maxHeartbeats 400000 in
theorem rcount_most (A : Option Addr) (l : List UInt8) (n c size u : Nat) (m : Nat) (w : World) (hn : n = l.length) (hnc : n ≤ c) (hR : Rd w A (bv l)) (hd : Hid (decInt l = .ok ((m : Int), u))) (hlt : n < m) :
    Calls Try.prog 65 #[.slice A n c, .int .i64 (size : Int)] w (CntAns (.error 3) w) := by
  have HN := hide hn
  clear hn
  go_enter Try.func65, Try.ntmps65
  go_wp2_with (go_at_call 31; refine (refGetInt_any A l n c _ HN.out hnc hR).mono ?_; rintro e w' ⟨rfl, hB⟩; rw [hd.out]; simp only [resI])
  go_ret3
  exact ⟨hB, _, _, rfl⟩

set_option maxRecDepth 100000 in
set_option maxHeartbeats 400000 in
theorem rcount_more (A : Option Addr) (l : List UInt8) (n c size u p : Nat) (m : Nat) (w : World) (hn : n = l.length) (hnc : n ≤ c) (hR : Rd w A (bv l)) (hm : n ≤ 9223372036854775807) (hd : Hid (decInt l = .ok ((m : Int), u))) (hun : u ≤ n) (hle : m ≤ n) (hp : (m : Int) * (size : Int) = (p : Int)) (hp6 : p ≤ 9223372036854775807) (hlt : n - u < p) :
    Calls Try.prog 65 #[.slice A n c, .int .i64 (size : Int)] w (CntAns (.error 3) w) := by
  have HN := hide hn
  clear hn
  go_enter Try.func65, Try.ntmps65
  go_wp2_with (go_at_call 31; refine (refGetInt_any A l n c _ HN.out hnc hR).mono ?_; rintro e w' ⟨rfl, hB⟩; rw [hd.out]; simp only [resI])
  go_ret3
  exact ⟨hB, _, _, rfl⟩

set_option maxRecDepth 100000 in
set_option maxHeartbeats 400000 in
theorem rcount_ok (A : Option Addr) (l : List UInt8) (n c size u p : Nat) (m : Nat) (w : World) (hn : n = l.length) (hnc : n ≤ c) (hR : Rd w A (bv l)) (hm : n ≤ 9223372036854775807) (hd : Hid (decInt l = .ok ((m : Int), u))) (hun : u ≤ n) (hle : m ≤ n) (hp : (m : Int) * (size : Int) = (p : Int)) (hp6 : p ≤ 9223372036854775807) (hlt : p ≤ n - u) :
    Calls Try.prog 65 #[.slice A n c, .int .i64 (size : Int)] w (CntAns (.ok (m, u)) w) := by
  have HN := hide hn
  clear hn
  go_enter Try.func65, Try.ntmps65
  go_wp2_with (go_at_call 31; refine (refGetInt_any A l n c _ HN.out hnc hR).mono ?_; rintro e w' ⟨rfl, hB⟩; rw [hd.out]; simp only [resI])
  go_ret3
  exact ⟨hB, rfl⟩

/-- The reference's count. -/
theorem rcount_any (A : Option Addr) (l : List UInt8) (n c size : Nat) (w : World) (hn : n = l.length) (hnc : n ≤ c) (hR : Rd w A (bv l)) (hs0 : 0 < size) (hs : size ≤ 16) (hb : n ≤ 576460752303423487) :
    Calls Try.prog 65 #[.slice A n c, .int .i64 (size : Int)] w (CntAns (cnt l size) w) := by
  have hm : n ≤ 9223372036854775807 := by omega
  unfold cnt
  cases hd : decInt l with
  | error k =>
    have := dec_err hd
    exact rcount_err A l n c size k w hn hnc hR (hide hd) (by rw [bne_iff_ne]; omega)
  | ok r =>
    obtain ⟨m, u⟩ := r
    obtain ⟨hb, h1, h9, hu⟩ := dec_bounds hd
    show Calls _ _ _ _ (CntAns (if m < 0 then _ else _) w)
    by_cases hneg : m < 0
    · rw [if_pos hneg]
      exact rcount_neg A l n c size u m w hn hnc hR (hide hd) hneg
    · rw [if_neg hneg]
      obtain ⟨q, rfl⟩ := Int.eq_ofNat_of_zero_le (show 0 ≤ m by omega)
      rw [Int.toNat_natCast]
      by_cases hgt : n < q
      · have hlt : (l.length - u) / size < q := Nat.lt_of_le_of_lt (Nat.div_le_self _ _) (by omega)
        rw [if_pos hlt]
        exact rcount_most A l n c size u q w hn hnc hR (hide hd) hgt
      have hq16 : q * size ≤ q * 16 := Nat.mul_le_mul_left q hs
      by_cases hlt : (l.length - u) / size < q
      · rw [if_pos hlt]
        exact rcount_more A l n c size u (q * size) q w hn hnc hR hm (hide hd) (by omega) (by omega) (by simp) (by omega) (by rw [hn]; exact (Nat.div_lt_iff_lt_mul hs0).1 hlt)
      · rw [if_neg hlt]
        have := (Nat.le_div_iff_mul_le hs0).1 (Nat.not_lt.1 hlt)
        exact rcount_ok A l n c size u (q * size) q w hn hnc hR hm (hide hd) (by omega) (by omega) (by simp) (by omega) (by rw [hn]; exact this)

set_option maxRecDepth 100000 in
set_option maxHeartbeats 400000 in
theorem rgetBytes_err (A : Option Addr) (l : List UInt8) (n c k : Nat) (w : World) (hn : n = l.length) (hnc : n ≤ c) (hR : Rd w A (bv l)) (hb : n ≤ 576460752303423487) (hd : Hid (cnt l 1 = .error k)) (hk : ((k : Int) != 0) = true) :
    Calls Try.prog 33 #[.slice A n c] w (Ans w (.tuple #[str [], .int .i64 0, .int .i64 (k : Int)])) := by
  have HN := hide hn
  clear hn
  go_enter Try.func33, Try.ntmps33
  go_wp2_with fail
  refine (rcount_any A l n c 1 _ HN.out hnc hR (by omega) (by omega) hb).mono ?_
  rw [hd.out]
  rintro e w' ⟨hB, a, b, rfl⟩
  go_wp2
  go_ret3
  exact ⟨rfl, hB⟩

set_option maxRecDepth 100000 in
set_option maxHeartbeats 400000 in
theorem rgetBytes_ok (A : Option Addr) (l : List UInt8) (n c m u : Nat) (w : World) (hn : n = l.length) (hnc : n ≤ c) (hR : Rd w A (bv l)) (hb : n ≤ 576460752303423487) (hd : Hid (cnt l 1 = .ok (m, u))) (hmu : u + m ≤ n) :
    Calls Try.prog 33 #[.slice A n c] w (Ans w (.tuple #[str ((l.drop u).take m), .int .i64 ((u : Int) + (m : Int)), .int .i64 0])) := by
  have HN := hide hn
  have hcut := run_cut Try.underlying28 cel5 ino5 A n c (u : Int) ((u : Int) + (m : Int)) (by omega) (by omega) (by omega)
  have hR' := hR.cut (sz := 1) (n := n) (by rw [bv_length]; omega) hnc u (u + m) hmu
  rw [Nat.mul_one, Nat.mul_one, Nat.add_sub_cancel_left, show ((bv l).drop u).take m = bv ((l.drop u).take m) from by simp [bv, List.map_take, List.map_drop]] at hR'
  have e1 : ((u : Int) + (m : Int)).toNat - (u : Int).toNat = m := by omega
  rw [e1, Int.toNat_natCast] at hcut
  clear e1
  have hRh := hide hR'
  have hlen : m = ((l.drop u).take m).length := by simp; omega
  clear hn hR'
  generalize cutAt A c u 1 = A' at *
  generalize (l.drop u).take m = L at *
  go_enter Try.func33, Try.ntmps33
  go_wp2_with fail
  refine (rcount_any A l n c 1 _ HN.out hnc hR (by omega) (by omega) hb).mono ?_
  rw [hd.out]
  rintro e w' ⟨hB, rfl⟩
  have hcv := run_tostr A' L m (c - u) (hRh.out.below hB) hlen
  clear hlen
  go_wp2
  go_ret3
  exact ⟨rfl, hB⟩

/-- The reference's GetBytes. -/
theorem rgetBytes_any (A : Option Addr) (l : List UInt8) (n c : Nat) (w : World) (hn : n = l.length) (hnc : n ≤ c) (hR : Rd w A (bv l)) (hb : n ≤ 576460752303423487) :
    Calls Try.prog 33 #[.slice A n c] w (Ans w (resB (decBytes l))) := by
  unfold decBytes
  cases hd : cnt l 1 with
  | error k =>
    have := cnt_err hd
    exact rgetBytes_err A l n c k w hn hnc hR hb (hide hd) (by rw [bne_iff_ne]; omega)
  | ok r =>
    obtain ⟨m, u⟩ := r
    obtain ⟨h1, h2⟩ := cnt_ok hd
    obtain ⟨_, _, _, hu⟩ := dec_bounds h1
    rw [Nat.div_one] at h2
    refine (rgetBytes_ok A l n c m u w hn hnc hR hb (hide hd) (by omega)).mono ?_
    rintro e w' ⟨rfl, hB⟩
    refine ⟨?_, hB⟩
    rw [resB, Int.natCast_add]
end Go.Proofs.Ytopppkafbbfobaa.W
