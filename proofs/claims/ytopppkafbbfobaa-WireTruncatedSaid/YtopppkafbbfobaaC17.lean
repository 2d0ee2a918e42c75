/- few: whether a list of texts is short. -/
import Derived.Test.YtopppkafbbfobaaL8
namespace Go.Proofs.Ytopppkafbbfobaa.W
open Go.RowKit

/-- How many letters and texts. -/
def tot (l : List (List UInt8)) : Nat := l.length + (l.map (·.length)).sum
theorem sum_take (l : List (List UInt8)) (k : Nat) (h : k < l.length) : ((l.take (k + 1)).map (·.length)).sum = ((l.take k).map (·.length)).sum + (l.getD k []).length := by
  rw [take_succ_get l k [] h, List.map_append, List.sum_append]
  simp
theorem sum_take_le (l : List (List UInt8)) (k : Nat) : ((l.take k).map (·.length)).sum ≤ (l.map (·.length)).sum := by
  conv => rhs; rw [← List.take_append_drop k l, List.map_append, List.sum_append]
  omega

set_option maxRecDepth 100000 in
set_option maxHeartbeats 1000000 in
theorem few_any (A : Option Addr) (l : List (List UInt8)) (n c : Nat) (w : World) (hn : n = l.length) (hR : Rd w A (tv l)) (hb : tot l ≤ 9223372036854775807) :
    Calls Try.prog 17 #[.slice A n c] w fun e w' => e = .returned (.bool (decide (tot l ≤ 2000))) ∧ w = w' := by
  have HN := hide hn
  have HR := hide hR
  have HT := hide (show tot l = n + (l.map (·.length)).sum from by rw [hn]; rfl)
  have hb1 : n + (l.map (·.length)).sum ≤ 9223372036854775807 := by rw [← HT.out]; exact hb
  have HS := hide (sum_take_le l)
  have HF := hide (show ((l.take n).map (·.length)).sum = (l.map (·.length)).sum from by rw [hn, List.take_length])
  clear hn hR hb
  generalize hS : (l.map (·.length)).sum = S at *
  clear hS
  go_enter Try.func17, Try.ntmps17
  go_wp2_with fail
  go_loop [3, 10] (fun a i => ∃ k : Nat, k ≤ n ∧ i = .int .i64 (k : Int) ∧ a = .int .i64 ((n + ((l.take k).map (·.length)).sum : Nat) : Int)) (fun _ i => n - (intOf i).toNat)
  case atStart => exact ⟨0, Nat.zero_le _, rfl, by simp⟩
  case round =>
    obtain ⟨k, hk, rfl, rfl⟩ := hrel
    by_cases hkn : k < n
    · obtain ⟨b, off, rfl, hc⟩ := HR.out.2 (by rw [tv_length, ← HN.out]; omega)
      have hc1 := hc k _ (tv_getElem? l k (by rw [← HN.out]; exact hkn))
      unfold str at hc1
      have h1 := HS.out (k + 1)
      rw [sum_take l k (by rw [← HN.out]; exact hkn)] at h1
      have HX := hide (sum_take l k (by rw [← HN.out]; exact hkn))
      generalize l.getD k [] = x at *
      generalize hq : ((l.take k).map (·.length)).sum = q at *
      clear hq hc
      go_wp2
      go_round
      case rel => exact ⟨k + 1, by omega, by go_num, by rw [HX.out]; go_num⟩
      case measure => simp [intOf]; omega
    · obtain rfl : k = n := by omega
      rw [HF.out]
      go_wp2
      go_ret
      refine ⟨ret_bool ?_, rfl⟩
      rw [HT.out, Bool.eq_iff_iff, decide_eq_true_eq, decide_eq_true_eq]
      omega
end Go.Proofs.Ytopppkafbbfobaa.W
