/- slices.Grow of nil, slices.Concat, slices.Clone at rows of bytes. -/
import Derived.Test.YtopppkafbbfobaaM0
import Derived.Lib.AppendZeros
import Derived.Test.YtopppkafbbfobaaB3
namespace Go.Proofs.Ytopppkafbbfobaa.W
open Go.RowKit
set_option maxRecDepth 100000 in
set_option maxHeartbeats 400000 in
theorem grow_zero (w : World) : Calls Try.prog 78 #[.slice none 0 0, .int .i64 0] w (RetB w []) := by
  go_enter Try.func78, Try.ntmps78
  go_wp2
  go_ret
  exact ⟨_, rfl, World.ownsRow_nil _ _ _ _, Below.refl _ _⟩
theorem zero_size (n cap : Nat) (h : n ≤ cap) : (Builtin.zeroCells (Value.int .u8 0).cells n ++ Builtin.zeroCells (Value.int .u8 0).cells (cap - n)).size = cap * 1 := by
  have h1 : ∀ m, (Builtin.zeroCells (Value.int .u8 0).cells m).size = m := fun m => by simp [Builtin.zeroCells, Value.cells]
  rw [Array.size_append, h1, h1]
  omega
set_option maxRecDepth 100000 in
set_option maxHeartbeats 400000 in
theorem grow_some (n : Nat) (h0 : 0 < n) (hn : n ≤ 140737488355328) (w : World) : Calls Try.prog 78 #[.slice none 0 0, .int .i64 (n : Int)] w (RetB w []) := by
  obtain ⟨i, hi, hz, hs, hb⟩ := info_parts inf5
  have hr := Lib.run_append_nil_zeros (P := Try.prog) w 28 3 28 5 i (.int .u8 0) .i64 .i64 Try.underlying28 Try.underlying3 hi hz n h0 (by omega) (by omega) (by rw [hb]; omega)
  obtain ⟨cap, hcap⟩ : ∃ cap, cap = grownCap w n 0 5 := ⟨_, rfl⟩
  have hge : n ≤ cap := by rw [hcap]; exact grownCap_ge _ _ _ _
  have hle : cap ≤ maxLen := by rw [hcap]; exact grownCap_le_maxLen _ _ _ _ (by unfold maxLen; omega)
  rw [← hcap] at hr
  clear hcap
  have hcut := run_cut_to Try.underlying28 cel5 ino5 (some ⟨w.heap.size, 0, none⟩) n cap 0 (by omega) (by omega)
  rw [cutAt_zero] at hcut
  go_enter Try.func78, Try.ntmps78
  go_wp2_with (at_builtin; refine Lib.wpList_append_run _ rfl (.tmp 20) (.tmp 21) 28 3 rfl _ _ rfl rfl _ _ hr ?_)
  go_ret
  exact ⟨_, rfl, World.ownsRow_made (base := w.heap.size) (e := 5) (size := 1) w _ cap (Nat.le_refl _) hle (zero_size n cap hge), below_alloc_drew w _⟩
theorem grow_any (n : Nat) (hn : n ≤ 140737488355328) (w : World) : Calls Try.prog 78 #[.slice none 0 0, .int .i64 (n : Int)] w (RetB w []) := by
  rcases Nat.eq_zero_or_pos n with h | h
  · subst h; exact grow_zero w
  · exact grow_some n h hn w

theorem flat_len_take (ls : List Bs) (k : Nat) : (ls.take k).flatten.length ≤ ls.flatten.length := by
  conv => rhs; rw [← List.take_append_drop k ls, List.flatten_append, List.length_append]
  omega
theorem flat_step (ls : List Bs) (k : Nat) (h : k < ls.length) : (ls.take (k + 1)).flatten = (ls.take k).flatten ++ ls.getD k [] := by
  rw [take_succ_get ls k [] h, List.flatten_append]
  simp
set_option maxRecDepth 100000 in
set_option maxHeartbeats 800000 in
theorem concat_any (A : Option Addr) (vs : List Value) (ls : List Bs) (n c : Nat) (w : World) (hn : n = ls.length) (hR : Rd w A vs) (hE : Each (fun _ => True) w vs ls) (hl : ls.flatten.length ≤ 140737488355000) :
    Calls Try.prog 68 #[.slice A n c] w (RetB w ls.flatten) := by
  have hm : n ≤ 9223372036854775807 := by have := hR.len; rw [hE.1] at this; omega
  have HN := hide hn
  have HR := hide hR
  have HE := hide hE
  have HL := hide hl
  clear hn hR hE hl
  go_enter Try.func68, Try.ntmps68
  go_wp2
  go_loop [3, 11] (fun s i => ∃ k : Nat, k ≤ n ∧ i = .int .i64 (k : Int) ∧ s = .int .i64 (((ls.take k).flatten.length : Nat) : Int)) (fun _ i => n - (intOf i).toNat)
  case atStart => exact ⟨0, Nat.zero_le _, rfl, rfl⟩
  case round =>
    obtain ⟨k, hk, rfl, rfl⟩ := hrel
    have hT := flat_len_take ls k
    have hT1 := flat_len_take ls (k + 1)
    have hL := HL.out
    by_cases hkn : k < n
    · obtain ⟨b, off, rfl, hc⟩ := HR.out.2 (by rw [HE.out.1, ← HN.out]; omega)
      obtain ⟨A1, c1, e1, hc1, hR1⟩ := HE.out.2 k (by rw [← HN.out]; exact hkn)
      have hcell := hc k (.slice A1 (ls.getD k []).length c1) (by rw [List.getElem?_eq_getElem (by rw [HE.out.1, ← HN.out]; exact hkn), ← e1]; simp [List.getD_eq_getElem?_getD, List.getElem?_eq_getElem (show k < vs.length from by rw [HE.out.1, ← HN.out]; exact hkn)])
      have HS := flat_step ls k (by rw [← HN.out]; exact hkn)
      have hS := congrArg List.length HS
      rw [List.length_append] at hS
      clear HS hc hR1 e1
      generalize (ls.getD k []).length = m at *
      have HS := hide hS
      have hb : ((ls.take k).flatten.length + m) ≤ 140737488355000 := by omega
      clear hS hT1
      generalize (ls.take k).flatten.length = t at *
      have hneg : decide ((t : Int) + (m : Int) < 0) = false := by rw [decide_eq_false_iff_not]; omega
      go_wp2
      go_round
      case rel => exact ⟨k + 1, by omega, by go_num, val_int (by rw [HS.out]; omega)⟩
      case measure => simp [intOf]; omega
    · obtain rfl : k = n := by omega
      have HT := hide (List.take_of_length_le (l := ls) (i := k) (by rw [HN.out]; exact Nat.le_refl _))
      have hb : (ls.take k).flatten.length ≤ 140737488355328 := by omega
      clear hT hT1 hL
      generalize (ls.take k).flatten.length = t at *
      go_wp2_with fail
      refine (grow_any t hb _).mono ?_
      rintro e w1 ⟨v, rfl, ho, hB⟩
      go_wp2
      go_loopw [6, 27] (fun v i wr => ∃ j : Nat, j ≤ k ∧ i = .int .i64 (j : Int) ∧ wr.ownsRow w.heap.size 5 1 v (ls.take j).flatten.length (bv (ls.take j).flatten) ∧ Below w.heap.size w wr)
        (fun _ i _ => k - (intOf i).toNat)
      case atStart => exact ⟨0, Nat.zero_le _, rfl, by simpa using ho, hB⟩
      case round =>
        obtain ⟨j, hj, rfl, hown, hBr⟩ := hrel
        have hbz := hBr.size
        by_cases hjk : j < k
        · obtain ⟨b, off, rfl, hc⟩ := HR.out.2 (by rw [HE.out.1, ← HN.out]; omega)
          obtain ⟨A1, c1, e1, hc1, hR1⟩ := HE.out.2 j (by rw [← HN.out]; exact hjk)
          have hcell := hc j (.slice A1 (ls.getD j []).length c1) (by rw [List.getElem?_eq_getElem (by rw [HE.out.1, ← HN.out]; exact hjk), ← e1]; simp [List.getD_eq_getElem?_getD, List.getElem?_eq_getElem (show j < vs.length from by rw [HE.out.1, ← HN.out]; exact hjk)])
          have hcell2 := (hBr.cell (World.block_lt_of_cell? w _ hcell)).trans hcell
          have HS := hide (flat_step ls j (by rw [← HN.out]; exact hjk))
          have hR2 : Rd wr A1 (bv (ls.getD j [])) := hR1.rd.below hBr
          have hb : (ls.take j).flatten.length + (ls.getD j []).length ≤ 140737488355328 := by
            have h1 := flat_len_take ls (j + 1)
            rw [HS.out, List.length_append] at h1
            have := HL.out
            omega
          clear hcell hc e1 hR1 ho hB
          go_wp2_with (at_builtin; refine wp_app (w0 := w) rfl (.tmp 31) (.tmp 32) 28 rfl w.heap.size 5 (.int .u8 0) 1 1 Try.underlying28 inf5 rfl (by decide) _ (ls.take j).flatten.length (bv (ls.take j).flatten) rfl hown A1 (ls.getD j []).length c1 (bv (ls.getD j [])) rfl (by rw [bv_length, Nat.mul_one]) hR2 (bv_one _) hb (by omega) hbz hBr ?_; intro v' w' ho' hB' _ _)
          go_roundw
          case rel => exact ⟨j + 1, by omega, by go_num, by rw [HS.out, bv_append, List.length_append]; exact ho', hB'⟩
          case measure => simp [intOf]; omega
        · obtain rfl : j = k := by omega
          go_wp2
          go_ret
          exact ⟨_, rfl, by rw [HT.out] at hown; exact hown, hBr⟩

theorem run_eql_nil28 (W : World) (a : Option Addr) (n c : Nat) : (binOp .eql 28 (.slice a n c) (.slice none 0 0)).run Try.prog W = .ok (.bool a.isNone) W := Lib.run_eql_slice_nil W 28 5 a n c 0 0 Try.underlying28
set_option maxRecDepth 100000 in
set_option maxHeartbeats 400000 in
theorem clone_nil (c : Nat) (w : World) : Calls Try.prog 69 #[.slice none 0 c] w (RetB w []) := by
  have hq := fun W => run_eql_nil28 W none 0 c
  go_enter Try.func69, Try.ntmps69
  go_wp2
  go_ret
  exact ⟨_, rfl, World.ownsRow_nil _ _ _ _, Below.refl _ _⟩
set_option maxRecDepth 100000 in
set_option maxHeartbeats 400000 in
theorem clone_some (a : Addr) (l : List UInt8) (n c : Nat) (w : World) (hn : n = l.length) (hR : Rd w (some a) (bv l)) (hl : l.length ≤ 140737488355328) :
    Calls Try.prog 69 #[.slice (some a) n c] w (RetB w l) := by
  have HN := hide hn
  have hn' : n ≤ 140737488355328 := by omega
  have hq := fun W => run_eql_nil28 W (some a) n c
  have hb : Below w.heap.size w (w.alloc (.cells #[] 5)) := (Below.refl _ _).alloc (Nat.le_refl _) _
  have ho : (w.alloc (.cells #[] 5)).ownsRow w.heap.size 5 1 (.slice (some ⟨w.heap.size, 0, none⟩) 0 0) 0 [] := World.ownsRow_made w #[] 0 (Nat.le_refl _) (Nat.zero_le _) rfl
  have hR2 := hR.below hb
  clear hn
  go_enter Try.func69, Try.ntmps69
  go_wp2_with (at_builtin; refine wp_app (w0 := w) rfl (.tmp 5) (.tmp 6) 28 rfl w.heap.size 5 (.int .u8 0) 1 1 Try.underlying28 inf5 rfl (by decide) _ 0 [] rfl ho (some a) n c (bv l) rfl (by rw [bv_length, Nat.mul_one]; exact HN.out.symm) hR2 (bv_one _) (by omega) (by omega) hb.size hb ?_; intro v' w' ho' hB' _ _)
  go_ret
  exact ⟨_, rfl, by rw [Nat.zero_add, List.nil_append, HN.out] at ho'; exact ho', hB'⟩
/-- slices.Clone. -/
theorem clone_any (A : Option Addr) (l : List UInt8) (n c : Nat) (w : World) (hn : n = l.length) (hR : Rd w A (bv l)) (hl : l.length ≤ 140737488355328) :
    Calls Try.prog 69 #[.slice A n c] w (RetB w l) := by
  cases A with
  | some a => exact clone_some a l n c w hn hR hl
  | none =>
    rcases Nat.eq_zero_or_pos l.length with h | h
    · have := List.eq_nil_of_length_eq_zero h
      subst this
      subst hn
      exact clone_nil c w
    · obtain ⟨_, _, h, _⟩ := hR.2 (by rw [bv_length]; exact h)
      cases h
end Go.Proofs.Ytopppkafbbfobaa.W
