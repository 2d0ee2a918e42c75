/- Encodings compare as the integers do: the walk. -/
import Derived.Test.YtopppkafbbfobaaL8
import Derived.Test.YtopppkafbbfobaaC31
import Derived.Test.YtopppkafbbfobaaA1
import Derived.Deep.RegionWith
import Derived.Deep.RegionHeld3
import Derived.Deep.DrawnRows
namespace Go.Proofs.Ytopppkafbbfobaa.W
open Go.RowKit
attribute [local go_sem ↓] Go.wp_at_zero Go.wp_at_succ

theorem run_cut_str (l : List UInt8) (k : Nat) (hk : k ≤ l.length) (W : World) : (Instr.sliceAt 9 (.string ⟨l.toArray⟩) none (some (.int .i64 (k : Int))) none).run Try.prog W = .ok (.string ⟨(l.take k).toArray⟩) W := by
  have hs : (k : Int) ≤ ((⟨l.toArray⟩ : ByteArray).size : Int) := by simp only [ByteArray.size, List.size_toArray]; omega
  rw [run_sliceAt_string W 9 _ _ _ _ Try.underlying9, run_slice_string_h W 9 ⟨l.toArray⟩ Try.underlying9 .i64 (k : Int) (by omega) hs]
  congr 2
  apply ByteArray.ext
  simp [ByteArray.data_extract]
set_option maxRecDepth 100000 in
set_option maxHeartbeats 2000000 in
theorem order_any (n m : Int) (hn : I64 n) (hm : I64 m) (w : World) : Calls Try.prog 5 #[.int .i64 n, .int .i64 m] w (Yes w) := by
  have hN := hide hn
  have hM := hide hm
  go_enter Try.func5, Try.ntmps5
  go_wp2_with fail
  go_region_with (first
    | (go_at_call_of 20 n; refine (int_any n hn _).mono ?_; rintro e w1 ⟨v, rfl, ho, hB1⟩; obtain ⟨A1, c1, rfl, hR1, hc1⟩ := own_open ho (by rw [bv_length]; have := encInt_le9 n; omega); have hcv1 := run_tostr A1 (encInt n) (encInt n).length c1 hR1 rfl; unfold str at hcv1; have hRa := hide hR1; clear ho hR1)
    | (go_at_call_of 20 m; refine (int_any m hm _).mono ?_; rintro e w2 ⟨v, rfl, ho, hB2⟩; obtain ⟨A2, c2, rfl, hR2, hc2⟩ := own_open ho (by rw [bv_length]; have := encInt_le9 m; omega); have hcv2 := run_tostr A2 (encInt m) (encInt m).length c2 hR2 rfl; unfold str at hcv2; have hcv1' := run_tostr A1 (encInt n) (encInt n).length c1 (hRa.out.below hB2) rfl; unfold str at hcv1'; clear ho hR2))
  all_goals
    have hBB : Below w.heap.size w w2 := below_of_drew (below_trans hB1 hB2 hB1.size)
    clear hcv1 hcv2 hcv1' hRa hc1 hc2 hB1 hB2
    have l1 := encInt_le9 n
    have l2 := encInt_le9 m
    have o1 := enc_order hn hm
    have o2 := enc_eq hn hm
    have o3 := enc_min hn hm
    generalize encInt n = X at *
    generalize encInt m = Y at *
    generalize hk : min X.length Y.length = k at *
    go_wp2_with fail
  all_goals
    have hkx : k ≤ X.length := by omega
    have hky : k ≤ Y.length := by omega
    have hc1 := fun W => run_cut_str X k hkx W
    have hc2 := fun W => run_cut_str Y k hky W
    generalize X.take k = X' at *
    generalize Y.take k = Y' at *
    first
      | (have e : Y.length = k := by omega
         rw [e]
         clear e hkx hky hk h l1 l2)
      | (have e : X.length = k := by omega
         rw [e]
         clear e hkx hky hk h l1 l2)
    rcases Int.lt_trichotomy n m with ht | ht | ht
    · have e1 : (n == m) = false := by rw [beq_eq_false_iff_ne]; omega
      rw [decide_eq_true ht] at o1
      rw [decide_eq_false (by omega : ¬ n = m)] at o2 o3
      go_region_held3 (fun _ => True) (trivial) ((go_at_call 18; refine (sanity_any _).mono ?_; rintro e w3 ⟨rfl, hB3⟩))
      go_wp2
      go_ret
      exact ⟨rfl, below_trans hBB (below_of_drew hB3) hBB.size⟩
    · have e1 : (n == m) = true := by rw [beq_iff_eq]; exact ht
      rw [decide_eq_false (by omega : ¬ n < m)] at o1
      rw [decide_eq_true ht] at o2 o3
      have e0 : decide (n < m) = false := decide_eq_false (by omega)
      clear ht
      go_region_held3 (fun _ => True) (trivial) ((go_at_call 18; refine (sanity_any _).mono ?_; rintro e w3 ⟨rfl, hB3⟩))
      go_wp2
      go_ret
      exact ⟨rfl, below_trans hBB (below_of_drew hB3) hBB.size⟩
    · have e1 : (n == m) = false := by rw [beq_eq_false_iff_ne]; omega
      rw [decide_eq_false (by omega : ¬ n < m)] at o1
      rw [decide_eq_false (by omega : ¬ n = m)] at o2 o3
      have e0 : decide (n < m) = false := decide_eq_false (by omega)
      clear ht
      go_region_held3 (fun _ => True) (trivial) ((go_at_call 18; refine (sanity_any _).mono ?_; rintro e w3 ⟨rfl, hB3⟩))
      go_wp2
      go_ret
      exact ⟨rfl, below_trans hBB (below_of_drew hB3) hBB.size⟩
end Go.Proofs.Ytopppkafbbfobaa.W
