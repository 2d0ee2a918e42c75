/- The reference's Few and Around. -/
import Derived.Test.YtopppkafbbfobaaM4
import Derived.Test.YtopppkafbbfobaaC68
namespace Go.Proofs.Ytopppkafbbfobaa.W
open Go.RowKit
set_option maxRecDepth 100000 in
set_option maxHeartbeats 400000 in
theorem few_b (A : Option Addr) (l : List UInt8) (n c most : Nat) (w : World) (hn : n = l.length) (hc : n ≤ c) (hR : Rd w A (bv l)) (hm : most ≤ 100000000000000) :
    Calls Try.prog 44 #[.slice A n c, .int .i64 (most : Int)] w (RetB w (l.take most)) := by
  have hl := hR.len
  rw [bv_length, ← hn] at hl
  have key : ∀ q : Nat, q = min n most → Rd w A (bv (l.take q)) ∧ l.take q = l.take most ∧ (l.take q).length = q := fun q hq => by
    refine ⟨?_, ?_, ?_⟩
    · refine ⟨by rw [bv_length, List.length_take]; omega, fun h0 => ?_⟩
      rw [bv_length, List.length_take] at h0
      obtain ⟨b, off, e, hcell⟩ := hR.2 (by rw [bv_length]; omega)
      refine ⟨b, off, e, fun j u hu => hcell j u ?_⟩
      have hj := (List.getElem?_eq_some_iff.1 hu).1
      rw [bv_length, List.length_take] at hj
      rw [← hu]
      simp [bv, show j < q by omega]
    · rw [List.take_eq_take_iff]; omega
    · rw [List.length_take]; omega
  have HK := hide key
  clear key
  by_cases hlt : most < n
  · have hlt' : (most : Int) < (n : Int) := by omega
    have hcut := run_cut_to Try.underlying28 cel5 ino5 A n c (most : Int) (by omega) (by omega)
    rw [cutAt_zero, Int.toNat_natCast] at hcut
    obtain ⟨hR1, he, hlq⟩ := HK.out most (by omega)
    have HE := hide he
    have HL := hide hlq
    have hown : w.ownsRow w.heap.size 5 1 (.slice none 0 0) 0 [] := World.ownsRow_nil _ _ _ _
    clear he hlq hn hR
    go_enter Try.func44, Try.ntmps44
    go_wp2_with (at_builtin; refine wp_app (w0 := w) rfl (.tmp 6) (.tmp 12) 28 rfl w.heap.size 5 (.int .u8 0) 1 1 Try.underlying28 inf5 rfl (by decide) _ 0 [] rfl hown A most c (bv (l.take most)) rfl (by rw [bv_length, Nat.mul_one]; exact HL.out) hR1 (bv_one _) (by omega) (by omega) (Nat.le_refl _) (Below.refl _ _) ?_; intro v' w' ho' hB' _ _)
    go_ret
    exact ⟨_, rfl, by rw [HL.out]; simpa using ho', hB'⟩
  · have hlt' : decide ((most : Int) < (n : Int)) = false := by rw [decide_eq_false_iff_not]; omega
    have hlt2 : decide (most < n) = false := by rw [decide_eq_false_iff_not]; omega
    have hcut := run_cut_to Try.underlying28 cel5 ino5 A n c (n : Int) (by omega) (by omega)
    rw [cutAt_zero, Int.toNat_natCast] at hcut
    obtain ⟨hR1, he, hlq⟩ := HK.out n (by omega)
    have HE := hide he
    have HL := hide hlq
    have hown : w.ownsRow w.heap.size 5 1 (.slice none 0 0) 0 [] := World.ownsRow_nil _ _ _ _
    clear he hlq hn hR
    go_enter Try.func44, Try.ntmps44
    go_wp2_with (at_builtin; refine wp_app (w0 := w) rfl (.tmp 6) (.tmp 12) 28 rfl w.heap.size 5 (.int .u8 0) 1 1 Try.underlying28 inf5 rfl (by decide) _ 0 [] rfl hown A n c (bv (l.take n)) rfl (by rw [bv_length, Nat.mul_one]; exact HL.out) hR1 (bv_one _) (by omega) (by omega) (Nat.le_refl _) (Below.refl _ _) ?_; intro v' w' ho' hB' _ _)
    go_ret
    exact ⟨_, rfl, by rw [← HE.out, HL.out]; simpa using ho', hB'⟩
set_option maxRecDepth 100000 in
set_option maxHeartbeats 400000 in
theorem around_any (n : Int) (hn : I64 n) (most : Nat) (h0 : 0 < most) (h1 : most ≤ 1000000000000) (w : World) :
    Calls Try.prog 45 #[.int .i64 n, .int .i64 (most : Int)] w fun e w' => e = .returned (.int .i64 ((mag n % most : Nat) : Int)) ∧ w = w' := by
  obtain ⟨h2, h3⟩ := hn
  have hmc := mag_cast n
  by_cases hneg : n < 0
  · rw [if_pos hneg] at hmc
    have HC := hide hmc
    clear hmc
    have hp : 0 ≤ -(n + 1) := by omega
    go_enter Try.func45, Try.ntmps45
    go_wp2
    go_ret
    exact ⟨ret_int (by rw [← Int.neg_tmod, Int.tmod_eq_emod_of_nonneg hp, show -(n + 1) = ((mag n : Nat) : Int) from by rw [HC.out]; omega]; rfl), rfl⟩
  · rw [if_neg hneg] at hmc
    have HC := hide hmc
    clear hmc
    have hd : decide (n < 0) = false := by simpa using hneg
    have hp : 0 ≤ n := by omega
    go_enter Try.func45, Try.ntmps45
    go_wp2
    go_ret
    exact ⟨ret_int (by rw [HC.out]), rfl⟩
end Go.Proofs.Ytopppkafbbfobaa.W
