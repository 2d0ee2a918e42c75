/- link.New, Waiting and Forged. -/
import Derived.Test.YtopppkafbbfobaaM2
namespace Go.Proofs.Ytopppkafbbfobaa.W
open Go.RowKit
/-- A new end. -/
def NewPost (w : World) (win key : Nat) (e : Ending) (w' : World) : Prop :=
  ∃ g, e = .returned (.tuple #[.pointer (some ⟨g, 0, none⟩), .int .i64 0]) ∧ IsEnd (fun k => w.heap.size ≤ k) w' g (St.new win key) ∧ Below w.heap.size w w'
set_option maxRecDepth 100000 in
set_option maxHeartbeats 400000 in
theorem new_bad (win : Int) (key : Nat) (w : World) (h : win < 1 ∨ 16 < win) :
    Calls Try.prog 47 #[.int .i64 win, .int .u64 (key : Int)] w fun e w' => e = .returned (.tuple #[.pointer none, .int .i64 1]) ∧ w = w' := by
  by_cases h1 : win < 1
  · go_enter Try.func47, Try.ntmps47
    go_wp2
    go_ret2
    exact ⟨rfl, rfl⟩
  · have h1' : decide (win < 1) = false := by simpa using h1
    have h2 : 16 < win := by omega
    go_enter Try.func47, Try.ntmps47
    go_wp2
    go_ret2
    exact ⟨rfl, rfl⟩
theorem new_end (w : World) (win key : Nat) : IsEnd (fun k => w.heap.size ≤ k) ((w.alloc (.map #[] 0)).alloc (.cells #[.int .i64 (win : Int), .int .u64 (key : Int), .slice none 0 0, .int .i64 0, .int .i64 0, .map (some w.heap.size), .bool false, .int .i64 0] 101)) (w.heap.size + 1) (St.new win key) := by
  have h := heap_alloc_new (w.alloc (.map #[] 0)) (.cells #[.int .i64 (win : Int), .int .u64 (key : Int), .slice none 0 0, .int .i64 0, .int .i64 0, .map (some w.heap.size), .bool false, .int .i64 0] 101)
  rw [show (w.alloc (.map #[] 0)).heap.size = w.heap.size + 1 from by simp] at h
  exact ⟨.slice none 0 0, w.heap.size, [], [], Nat.le_succ _, h, World.ownsRow_nil _ _ _ _, (fun k h => by cases h), Each.nil _ _, Nat.le_refl _, by omega, (HeldAt.made w).stays (Below.heap_alloc _ _ _ (by simp)), trivial⟩
set_option maxRecDepth 100000 in
set_option maxHeartbeats 400000 in
theorem new_ok (win key : Nat) (w : World) (h0 : 1 ≤ win) (h1 : win ≤ 16) :
    Calls Try.prog 47 #[.int .i64 (win : Int), .int .u64 (key : Int)] w (NewPost w win key) := by
  have hmm := @run_makeMap Try.prog
  have g1 : decide ((win : Int) < 1) = false := by rw [decide_eq_false_iff_not]; omega
  have g2 : decide ((16 : Int) < (win : Int)) = false := by rw [decide_eq_false_iff_not]; omega
  go_enter Try.func47, Try.ntmps47
  go_wp2
  go_ret2
  exact ⟨w.heap.size + 1, rfl, new_end w win key, ((Below.refl _ _).alloc (Nat.le_refl _) _).alloc (by simp) _⟩
set_option maxRecDepth 100000 in
set_option maxHeartbeats 400000 in
theorem waiting_any (D : Nat → Prop) (g : Nat) (S : St) (w : World) (hS : S.Ok) (h : IsEnd D w g S) :
    Calls Try.prog 56 #[.pointer (some ⟨g, 0, none⟩)] w fun e w' => e = .returned (.int .i64 (S.waiting : Int)) ∧ w = w' := by
  obtain ⟨wv, mb, ws, L, h⟩ := h
  obtain ⟨_, _, c2, _⟩ := h.cells
  have hl : S.raw.wait.length = S.waiting := by simp [St.raw, St.waiting]
  have hs := hS.sent
  obtain ⟨A, c, rfl, _, _⟩ := h.wait_slice (by rw [hl]; unfold St.waiting; omega)
  rw [hl] at c2
  clear h
  go_enter Try.func56, Try.ntmps56
  go_wp2
  go_ret
  exact ⟨rfl, rfl⟩
set_option maxRecDepth 100000 in
set_option maxHeartbeats 400000 in
theorem forged_any (D : Nat → Prop) (g : Nat) (S : St) (w : World) (h : IsEnd D w g S) :
    Calls Try.prog 52 #[.pointer (some ⟨g, 0, none⟩)] w fun e w' => e = .returned (.int .i64 (S.forged : Int)) ∧ w = w' := by
  obtain ⟨wv, mb, ws, L, h⟩ := h
  obtain ⟨_, _, _, _, _, _, _, c7⟩ := h.cells
  have e7 : S.raw.forged = S.forged := rfl
  rw [e7] at c7
  clear h e7
  go_enter Try.func52, Try.ntmps52
  go_wp2
  go_ret
  exact ⟨rfl, rfl⟩
end Go.Proofs.Ytopppkafbbfobaa.W
