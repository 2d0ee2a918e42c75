/- link's Send. -/
import Derived.Test.YtopppkafbbfobaaM4
import Derived.Test.YtopppkafbbfobaaC73
namespace Go.Proofs.Ytopppkafbbfobaa.W
open Go.RowKit
attribute [local go_sem ↓] Go.wp_at_zero Go.wp_at_succ
/-- What Send leaves. -/
def SendPost (D : Nat → Prop) (w : World) (g : Nat) (S : St) (b : Bs) (e : Ending) (w' : World) : Prop :=
  if S.full b = true then e = .returned (.int .i64 4) ∧ w = w' else e = .returned (.int .i64 0) ∧ IsEnd (Plus D w) w' g (S.send b) ∧ Keeps D w w'
set_option maxRecDepth 100000 in
set_option maxHeartbeats 400000 in
theorem send_long (g : Nat) (A : Option Addr) (n c : Nat) (w : World) (h : 65536 < n) :
    Calls Try.prog 54 #[.pointer (some ⟨g, 0, none⟩), .slice A n c] w fun e w' => e = .returned (.int .i64 4) ∧ w = w' := by
  have h1 : (65536 : Int) < (n : Int) := by omega
  go_enter Try.func54, Try.ntmps54
  go_wp2
  go_ret
  exact ⟨rfl, rfl⟩
set_option maxRecDepth 100000 in
set_option maxHeartbeats 400000 in
theorem send_full (g : Nat) (A B : Option Addr) (n c m d : Nat) (w : World) (h : n ≤ 65536) (hm : 1000 ≤ m) (c2 : w.cell? ⟨g, 2, none⟩ = some (.slice B m d)) :
    Calls Try.prog 54 #[.pointer (some ⟨g, 0, none⟩), .slice A n c] w fun e w' => e = .returned (.int .i64 4) ∧ w = w' := by
  have h1 : decide ((65536 : Int) < (n : Int)) = false := by rw [decide_eq_false_iff_not]; omega
  have h2 : (1000 : Int) ≤ (m : Int) := by omega
  go_enter Try.func54, Try.ntmps54
  go_wp2
  go_ret
  exact ⟨rfl, rfl⟩
set_option maxRecDepth 100000 in
set_option maxHeartbeats 800000 in
theorem send_ok (D : Nat → Prop) (g mb : Nat) (R : Raw) (B : Option Addr) (d m : Nat) (ws : List Value) (L : List (Nat × Value)) (A : Option Addr) (b : Bs) (n c : Nat) (w : World) (h : EndAt D w g R (.slice B m d) mb ws L) (hm : m < 1000) (hml : m = ws.length) (hn : n = b.length) (hl : n ≤ 65536) (hR : Rd w A (bv b)) :
    Calls Try.prog 54 #[.pointer (some ⟨g, 0, none⟩), .slice A n c] w fun e w' => e = .returned (.int .i64 0) ∧ (∃ v' ws', EndAt (Plus D w) w' g { R with wait := R.wait ++ [b] } v' mb ws' L) ∧ Keeps D w w' := by
  have h1 : decide ((65536 : Int) < (n : Int)) = false := by rw [decide_eq_false_iff_not]; omega
  have h2 : decide ((1000 : Int) ≤ (m : Int)) = false := by rw [decide_eq_false_iff_not]; omega
  obtain ⟨_, _, c2, _⟩ := h.cells
  have f2 := h.free 2
  have hrow := h.own
  rw [← hml] at hrow
  have hbl : b.length ≤ 65536 := by omega
  have hbl1 : b.length ≤ 140737488355328 := by omega
  have hbl2 : b.length ≤ 9223372036854775807 := by omega
  have hm1 : m ≤ 1000000000 := by omega
  have hbl3 := hide hbl
  have HN := hide hn
  have HML := hide hml
  have HE := hide h
  have hgm := World.block_lt_of_cell? _ _ c2
  have hne : Value.ownBlock (.slice B m d) ≠ some g := fun e => (h.dw g e).2.1 rfl
  simp only at hgm
  clear hn hml h
  go_enter Try.func54, Try.ntmps54
  go_wp2_with fail

  go_region_law (first
    | (go_simp; go_at_call 69; refine (clone_any A b n c w.drew HN.out (rd_drew' hR) hbl1).mono ?_; rintro e w1 ⟨vc, rfl, hc, hB⟩; have hB1 := below_undrew' hB; obtain ⟨A1, c1, rfl, hc1, hR1⟩ := Bt.own hc hbl2; have hown1 := own_kept hrow hB1; have c21 := (hB1.cell (p := ⟨g, 2, none⟩) hgm).trans c2; have lt21 := Nat.lt_of_lt_of_le hgm hB1.size)
    | (refine step_grow1 (by rfl) _ _ (by rfl) _ m ws (by rfl) hown1 (by rfl) (by rfl) hm1 ?_; intro gg cap w2 ho hg hat hlt; have c22 : w2.cell? ⟨g, 2, none⟩ = some (.slice B m d) := (hg.cell_far ⟨g, 2, none⟩ (Nat.lt_of_lt_of_le hgm hB1.size) (fun e => hne e.symm)).trans c21; have f22 : w2.frozen? ⟨g, 2, none⟩ = false := (hg.frozen_far ⟨g, 2, none⟩ (Nat.lt_of_lt_of_le hgm hB1.size) (fun e => hne e.symm)).trans ((hB1.frozen (p := ⟨g, 2, none⟩) hgm).trans f2)))
  all_goals go_wp2
  all_goals go_ret
  all_goals
    obtain ⟨h5, h6⟩ := HE.out.pushWait (v' := .slice (some ⟨gg, 0, none⟩) (m + 1) cap) hB1 hc hbl3.out (by rw [← HML.out]; exact ho) hg (hat.imp (fun h => h) fun h => ⟨_, rfl, Nat.le_of_lt h⟩)
    exact ⟨rfl, ⟨_, _, h5⟩, h6⟩
/-- link's Send. -/
theorem send_any (D : Nat → Prop) (g : Nat) (S : St) (A : Option Addr) (b : Bs) (n c : Nat) (w : World) (hS : S.Ok) (h : IsEnd D w g S) (hn : n = b.length) (hl : n ≤ 140737488355000) (hR : Rd w A (bv b)) :
    Calls Try.prog 54 #[.pointer (some ⟨g, 0, none⟩), .slice A n c] w (SendPost D w g S b) := by
  obtain ⟨wv, mb, ws, L, h⟩ := h
  have hs := hS.sent
  obtain ⟨B, d, rfl, _, _⟩ := h.wait_slice (by rw [St.raw_len]; unfold St.waiting; omega)
  have hws : S.raw.wait.length = ws.length := h.each.1.symm
  have hf : S.full b = true ↔ (65536 < b.length ∨ 1000 ≤ S.waiting) := by simp [St.full]
  by_cases h1 : 65536 < b.length
  · exact (send_long g A n c w (by omega)).mono fun e w' h => by unfold SendPost; rw [if_pos (hf.2 (.inl h1))]; exact h
  by_cases h2 : 1000 ≤ S.waiting
  · obtain ⟨_, _, c2, _⟩ := h.cells
    exact (send_full g A B n c _ d w (by omega) (by rw [St.raw_len]; exact h2) c2).mono fun e w' h => by unfold SendPost; rw [if_pos (hf.2 (.inr h2))]; exact h
  · refine (send_ok D g mb S.raw B d _ ws L A b n c w h (by rw [St.raw_len]; omega) hws hn (by omega) hR).mono ?_
    rintro e w' ⟨he, ⟨v', ws', h5⟩, h6⟩
    unfold SendPost
    rw [if_neg (fun h => by have := hf.1 h; omega)]
    refine ⟨he, ⟨v', mb, ws', L, ?_⟩, h6⟩
    have e1 : (S.send b).raw = { S.raw with wait := S.raw.wait ++ [b] } := by
      have := hS.acked
      simp [St.send, St.raw, List.drop_append, Nat.sub_eq_zero_of_le this]
    rw [e1]
    exact h5
end Go.Proofs.Ytopppkafbbfobaa.W
