/- link's Copy. -/
import Derived.Test.YtopppkafbbfobaaM4
import Derived.Maps.RangeRun
import Derived.Test.YtopppkafbbfobaaC73
import Derived.Test.YtopppkafbbfobaaC50
import Derived.Deep.DeepCutAuto
namespace Go.Proofs.Ytopppkafbbfobaa.W
open Go.RowKit
open Go.ChangeMaps (setBlock)
open Go.MapKept (Stamped stamped_iff)
/-- The range begins. -/
theorem held_range {w : World} {b : Nat} {L : List (Nat × Value)} (h : HeldAt w b L) :
    ∃ es clock, w.heap[b]? = some (.map es clock) ∧ Stamped es clock ∧ es.toList.map (fun x => (x.key, x.val)) = L.map ent ∧ (Instr.range 99 (.map (some b))).run Try.prog w = .ok (.pointer (some ⟨w.heap.size, 0, none⟩)) (w.alloc (.mapIter (some b) clock #[] clock)) := by
  obtain ⟨es, clock, hb, hs, hE, _⟩ := h
  exact ⟨es, clock, hb, hs, hE, run_range_map w 99 3 28 b es clock Try.underlying99 hb⟩
/-- Nothing is left. -/
theorem held_next_none {w : World} {r b since c0 : Nat} {seen : Array Nat} {es : Array MapEntry} {clock : Nat} (ty : TypeId) (hr : w.heap[r]? = some (.mapIter (some b) since seen c0)) (hb : w.heap[b]? = some (.map es clock))
    (hold : ∀ x ∈ es.toList, x.born < since) (hsc : since ≤ c0) (h0 : leftOf es seen = #[]) : (Instr.next (.pointer (some ⟨r, 0, none⟩)) false ty).run Try.prog w = .ok (.tuple #[.bool false]) w := by
  rcases run_next_at (P := Try.prog) w ty r b since c0 seen es clock hr hb hold hsc with ⟨_, h⟩ | ⟨e, he, _⟩
  · exact h
  · rw [h0] at he; simp at he
/-- One entry is left. -/
theorem held_next_one {w : World} {r b since c0 : Nat} {es : Array MapEntry} {clock : Nat} {e0 : MapEntry} (ty : TypeId) (hr : w.heap[r]? = some (.mapIter (some b) since #[] c0)) (hb : w.heap[b]? = some (.map es clock)) (hes : es = #[e0])
    (hold : ∀ x ∈ es.toList, x.born < since) (hsc : since ≤ c0) :
    ∃ w1 : World, (w1 = w ∨ w1 = w.drew) ∧ (Instr.next (.pointer (some ⟨r, 0, none⟩)) false ty).run Try.prog w = .ok (.tuple #[.bool true, e0.key, e0.val]) (setBlock w1 r (.mapIter (some b) since (#[].push e0.born) clock)) := by
  rcases run_next_at (P := Try.prog) w ty r b since c0 #[] es clock hr hb hold hsc with ⟨h, _⟩ | ⟨e, he, w1, h1, h2⟩
  · subst hes; simp [leftOf] at h
  · have : e = e0 := by subst hes; simpa [leftOf] using he
    subst this
    exact ⟨w1, h1, h2⟩
end Go.Proofs.Ytopppkafbbfobaa.W
namespace Go.Proofs.Ytopppkafbbfobaa.W
open Go.RowKit
attribute [local go_sem ↓] Go.wp_at_zero Go.wp_at_succ
theorem run_eql_nil63 (W : World) (a : Option Addr) (n c : Nat) : (binOp .eql 63 (.slice a n c) (.slice none 0 0)).run Try.prog W = .ok (.bool a.isNone) W := Lib.run_eql_slice_nil W 63 28 a n c 0 0 Try.underlying63
/-- A copied row of the call's own: the same slices. -/
def CloneRow (w : World) (vs : List Value) (e : Ending) (w' : World) : Prop := ∃ v, e = .returned v ∧ w'.ownsRow w.heap.size 28 1 v vs.length vs ∧ Below w.heap.size w w'
set_option maxRecDepth 100000 in
set_option maxHeartbeats 400000 in
theorem cloneRow_nil (c : Nat) (w : World) : Calls Try.prog 74 #[.slice none 0 c] w (CloneRow w []) := by
  have hq := fun W => run_eql_nil63 W none 0 c
  go_enter Try.func74, Try.ntmps74
  go_wp2
  go_ret
  exact ⟨_, rfl, World.ownsRow_nil _ _ _ _, Below.refl _ _⟩
set_option maxRecDepth 100000 in
set_option maxHeartbeats 400000 in
theorem cloneRow_some (a : Addr) (vs : List Value) (n c : Nat) (w : World) (hn : n = vs.length) (hR : Rd w (some a) vs) (h1 : ∀ u ∈ vs, u.oneCell' = true) (hl : vs.length ≤ 1000000000) :
    Calls Try.prog 74 #[.slice (some a) n c] w (CloneRow w vs) := by
  have HN := hide hn
  have hn' : n ≤ 1000000000 := by omega
  have hq := fun W => run_eql_nil63 W (some a) n c
  have hb : Below w.heap.size w (w.alloc (.cells #[] 28)) := (Below.refl _ _).alloc (Nat.le_refl _) _
  have ho : (w.alloc (.cells #[] 28)).ownsRow w.heap.size 28 1 (.slice (some ⟨w.heap.size, 0, none⟩) 0 0) 0 [] := World.ownsRow_made w #[] 0 (Nat.le_refl _) (Nat.zero_le _) rfl
  have hR2 := hR.below hb
  clear hn
  go_enter Try.func74, Try.ntmps74
  go_wp2_with (at_builtin; refine wp_app (w0 := w) rfl (.tmp 5) (.tmp 6) 63 rfl w.heap.size 28 (.slice none 0 0) 1 24 Try.underlying63 inf28 rfl (by decide) _ 0 [] rfl ho (some a) n c vs rfl (by rw [Nat.mul_one]; exact HN.out.symm) hR2 h1 (by omega) (by omega) hb.size hb ?_; intro v' w' ho' hB' _ _)
  go_ret
  exact ⟨_, rfl, by rw [Nat.zero_add, List.nil_append, HN.out] at ho'; exact ho', hB'⟩
/-- slices.Clone. -/
theorem cloneRow_any (A : Option Addr) (vs : List Value) (n c : Nat) (w : World) (hn : n = vs.length) (hR : Rd w A vs) (h1 : ∀ u ∈ vs, u.oneCell' = true) (hl : vs.length ≤ 1000000000) :
    Calls Try.prog 74 #[.slice A n c] w (CloneRow w vs) := by
  cases A with
  | some a => exact cloneRow_some a vs n c w hn hR h1 hl
  | none =>
    rcases Nat.eq_zero_or_pos vs.length with h | h
    · have := List.eq_nil_of_length_eq_zero h
      subst this
      subst hn
      exact cloneRow_nil c w
    · obtain ⟨_, _, h, _⟩ := hR.2 h
      cases h
end Go.Proofs.Ytopppkafbbfobaa.W
namespace Go.Proofs.Ytopppkafbbfobaa.W
open Go.RowKit
attribute [local go_sem ↓] Go.wp_at_zero Go.wp_at_succ
open Go.ChangeMaps (setBlock)
/-- The copy: an end of its own, that shares the messages. -/
theorem copy_end {D : Nat → Prop} {g mb g2 mb2 B1 : Nat} {S : St} {wv v2 : Value} {ws : List Value} {L : List (Nat × Value)} {w W : World} (h : EndAt (fun k => D k ∧ k < w.heap.size) w g S.raw wv mb ws L) (hB : Below w.heap.size w W)
    (hN : W.heap[g2]? = some (.cells (endCells S.raw v2 mb2) 101 (0, 0))) (hO : W.ownsRow B1 28 1 v2 ws.length ws) (hOm : ∀ k, v2.ownBlock = some k → w.heap.size ≤ k ∧ k ≠ g2 ∧ k ≠ mb2) (hg : w.heap.size ≤ g2) (hgm : g2 < mb2) (hH : HeldAt W mb2 L) :
    EndAt (fun k => Own D g mb wv k ∨ w.heap.size ≤ k) W g2 S.raw v2 mb2 ws L := by
  have hE := h.stays (Stays.of_below hB fun k _ e => e.2)
  have hm : ∀ k, k < W.heap.size → Own (fun k => D k ∧ k < w.heap.size) g mb wv k → Own (fun k => Own D g mb wv k ∨ w.heap.size ≤ k) g2 mb2 v2 k := fun k _ e =>
    ⟨.inl ⟨e.1.1, e.2⟩, by have := e.1.2; omega, by have := e.1.2; omega, fun e' => by have := (hOm k e').1; have := e.1.2; omega⟩
  exact ⟨.inr hg, hN, own_rebase hO (Nat.zero_le _), fun k e => ⟨.inr (hOm k e).1, (hOm k e).2⟩, hE.each.mono hm, .inr (by omega), by omega, hH, hE.hb.mono hm⟩
theorem one_entry {es : Array MapEntry} {k : Nat} {v : Value} (h : es.toList.map (fun x => (x.key, x.val)) = [(k, v)].map ent) : ∃ e0, es = #[e0] ∧ e0.key = .int .i64 (k : Int) ∧ e0.val = v := by
  obtain ⟨l⟩ := es
  cases l with
  | nil => simp at h
  | cons e0 l =>
    cases l with
    | cons => simp at h
    | nil => exact ⟨e0, rfl, by simpa [ent] using h⟩
theorem set_same {w : World} {b : Nat} {o' : Obj} (h : w.heap[b]? = some o') (o : Obj) : (setBlock w b o).heap[b]? = some o := by
  simp [setBlock, lt_of_block h]
theorem set_other {w : World} {b i : Nat} (o : Obj) (h : i ≠ b) : (setBlock w b o).heap[i]? = w.heap[i]? := by
  simp only [setBlock]
  rw [Array.getElem?_setIfInBounds_ne (fun e => h e.symm)]
/-- What Copy leaves. -/
def CopyPost (D : Nat → Prop) (g mb : Nat) (S : St) (wv : Value) (ws : List Value) (L : List (Nat × Value)) (w : World) (e : Ending) (w' : World) : Prop :=
  ∃ g2 mb2 wv2, e = .returned (.pointer (some ⟨g2, 0, none⟩)) ∧ w.heap.size ≤ g2 ∧ w.heap.size ≤ mb2 ∧ (∀ k, wv2.ownBlock = some k → w.heap.size ≤ k) ∧ EndAt (fun k => Own D g mb wv k ∨ w.heap.size ≤ k) w' g2 S.raw wv2 mb2 ws L ∧ Below w.heap.size w w'
set_option maxRecDepth 100000 in
set_option maxHeartbeats 800000 in
theorem copy_walk (D : Nat → Prop) (g mb : Nat) (S : St) (hS : S.Ok) (wv : Value) (ws : List Value) (L : List (Nat × Value)) (w : World) (h : EndAt D w g S.raw wv mb ws L) (hL : L.length ≤ 1) :
    Calls Try.prog 55 #[.pointer (some ⟨g, 0, none⟩)] w (CopyPost D g mb S wv ws L w) := by
  have hgm := lt_of_block h.blk
  have hwl : S.raw.wait.length ≤ 1000000000 := by rw [St.raw_len]; have := hS.sent; unfold St.waiting; omega
  have hwe := h.each.1
  obtain ⟨A, c, e, hRw, hcw⟩ := h.wait_slice (by omega)
  have hE := hide e
  have HE := hide h
  have HE0 := hide (h.mono (D' := fun k => D k ∧ k < w.heap.size) fun k hk e => ⟨e, hk⟩)
  have hcl : ∀ j u, (endCells S.raw wv mb).toList[j]? = some u → w.cell? ⟨g, 0 + j, none⟩ = some u := fun j u hu => by
    rw [Nat.zero_add, h.cell j, ← Array.getElem?_toList]; exact hu
  have HC := hide hcl
  have hi101 : (Try.prog.info? 101).map (·.size) = some (endCells S.raw wv mb).toList.length := by
    show _ = some 8
    kernel_rfl
  have HI := hide hi101
  have HI2 := hide (show (Try.prog.info? 101).map (·.size) = some (endCells S.raw wv mb).size from by show _ = some 8; kernel_rfl)
  have HO : Hid ((endCells S.raw wv mb).all (·.oneCell') = true) := by
    show _ = true
    rw [e]
    simp [endCells, Value.oneCell']
  have HW := hide hwl
  have HWE := hide hwe
  clear h hcl hi101 e hwl hwe
  go_enter Try.func55, Try.ntmps55
  go_upto_region 2 with (first | (with_reducible show wpList _ _ _ (⟨some 8, _, _, _, _, _⟩ :: _) _ _; refine wp_load_agg rfl 101 (.tmp 7) rfl g 0 rfl (endCells S.raw wv mb).toList _ HC.out Try.underlying101 rfl HI.out ?_) | (with_reducible show wpList _ _ _ (⟨none, .store 101 _ _, _, _, _, _⟩ :: _) _ _; refine wp_store_new rfl 101 (.tmp 3) (.tmp 8) rfl (endCells S.raw wv mb) rfl rfl HI2.out rfl HO.out ?_) | fail)
  have hB1 : Hid (Below w.heap.size w (w.alloc (.cells (endCells S.raw wv mb) 101))) := (Below.refl _ _).alloc (Nat.le_refl _) _
  have hE1 : Hid (EndAt D (w.alloc (.cells (endCells S.raw wv mb) 101)) g S.raw wv mb ws L) := HE.out.stays (Stays.of_new hB1.out)
  have hN1 : Hid ((w.alloc (.cells (endCells S.raw wv mb) 101)).heap[w.heap.size]? = some (.cells (endCells S.raw wv mb) 101 (0, 0))) := heap_alloc_new w _
  generalize w.alloc (.cells (endCells S.raw wv mb) 101) = W1 at *
  obtain ⟨g2, hg2⟩ : ∃ g2, g2 = w.heap.size := ⟨_, rfl⟩
  rw [← hg2] at hN1 ⊢
  have HG2 := hide hg2
  have hwA := hE.out
  subst hwA
  have hc2 := hE1.out.cells.2.2.1
  have hcl2 := cloneRow_any A ws S.raw.wait.length c W1 HWE.out.symm (hRw.rd.below hB1.out) hE1.out.each.ones (by rw [HWE.out]; exact HW.out)
  clear hg2 HE HC
  go_wp2_with fail
  with_reducible refine hcl2.mono ?_
  rintro e W2 ⟨v2, rfl, ho2, hB2⟩
  obtain ⟨A2, d2, rfl, hR2, hd2⟩ := RdIn.of_own ho2 (by have := HWE.out; have := HW.out; omega)
  have HO2 := hide ho2
  have hlt1 := lt_of_block hN1.out
  have hN2 := hide ((hB2.block g2 hlt1).trans hN1.out)
  have hc22 : W2.cell? ⟨g2, 2, none⟩ = some (.slice A S.raw.wait.length c) := cell_of_row W2 g2 2 _ 101 (0, 0) hN2.out
  have hf22 := frozen_of_row W2 g2 2 _ 101 hN2.out
  have hE2 : Hid (EndAt D W2 g S.raw (.slice A S.raw.wait.length c) mb ws L) := hE1.out.stays (Stays.of_new hB2)
  have hB02 := hide (since_call hB1.out hB2)
  clear hcl2 hc2
  clear ho2
  go_upto_region 3 with fail
  have hN3 : Hid ((W2.setCell ⟨g2, 2, none⟩ (.slice A2 ws.length d2)).heap[g2]? = some (.cells (endCells S.raw (.slice A2 ws.length d2) mb) 101 (0, 0))) := heap_setCell_at hN2.out _
  have hB03 : Hid (Below w.heap.size w (W2.setCell ⟨g2, 2, none⟩ (.slice A2 ws.length d2))) := hB02.out.setCell (p := ⟨g2, 2, none⟩) (by show w.heap.size ≤ g2; have := HG2.out; omega) _
  have hO3 : Hid ((W2.setCell ⟨g2, 2, none⟩ (.slice A2 ws.length d2)).ownsRow W1.heap.size 28 1 (.slice A2 ws.length d2) ws.length ws) := own_stays HO2.out (Stays.setCell fun k _ e => by have := (HO2.out.lt k e).1; have := lt_of_block hN1.out; show k ≠ g2; omega)
  have hlt2 := lt_of_block hN3.out
  generalize W2.setCell ⟨g2, 2, none⟩ (.slice A2 ws.length d2) = W3 at *
  clear hc22 hf22
  have hE3 := hide (HE0.out.stays (Stays.of_below hB03.out fun k _ e => e.2))
  have hf35 := frozen_of_row (W3.alloc (.map #[] 0)) g2 5 _ 101 (((Go.MapKept.heap_alloc W3 _).2 g2 hlt2).trans hN3.out)
  have hc35 : (W3.alloc (.map #[] 0)).cell? ⟨g2, 5, none⟩ = some (.map (some mb)) := cell_of_row (W3.alloc (.map #[] 0)) g2 5 _ 101 (0, 0) (((Go.MapKept.heap_alloc W3 _).2 g2 hlt2).trans hN3.out)
  have hmm := @run_makeMap Try.prog
  go_upto_region 4 with fail
  obtain ⟨mb2, hm2⟩ : ∃ mb2, mb2 = W3.heap.size := ⟨_, rfl⟩
  rw [← hm2]
  have hsz : (W3.setCell ⟨g2, 5, none⟩ (.map (some mb2))).heap.size = mb2 := by rw [hm2]; simp [World.setCell]
  have hN4 : Hid (((W3.setCell ⟨g2, 5, none⟩ (.map (some mb2))).alloc (.map #[] 0)).heap[g2]? = some (.cells (endCells S.raw (.slice A2 ws.length d2) mb2) 101 (0, 0))) := ((Go.MapKept.heap_alloc _ _).2 g2 (by rw [hsz]; omega)).trans (heap_setCell_at hN3.out _)
  have hB04 : Hid (Below w.heap.size w ((W3.setCell ⟨g2, 5, none⟩ (.map (some mb2))).alloc (.map #[] 0))) := since_alloc (hB03.out.setCell (p := ⟨g2, 5, none⟩) (by show w.heap.size ≤ g2; have := HG2.out; omega) _) _
  have hH4 : Hid (HeldAt ((W3.setCell ⟨g2, 5, none⟩ (.map (some mb2))).alloc (.map #[] 0)) mb2 []) := by
    have := HeldAt.made (W3.setCell ⟨g2, 5, none⟩ (.map (some mb2)))
    rw [hsz] at this
    exact this
  have hO4 : Hid (((W3.setCell ⟨g2, 5, none⟩ (.map (some mb2))).alloc (.map #[] 0)).ownsRow W1.heap.size 28 1 (.slice A2 ws.length d2) ws.length ws) := (own_stays hO3.out (Stays.setCell fun k _ e => by have := (hO3.out.lt k e).1; have := lt_of_block hN1.out; show k ≠ g2; omega)).alloc _
  have hOm : Hid (∀ k, (Value.slice A2 ws.length d2).ownBlock = some k → w.heap.size ≤ k ∧ k ≠ g2 ∧ k ≠ mb2) := fun k e => by have h1 := hO3.out.lt k e; have h2 := lt_of_block hN1.out; have := HG2.out; omega
  have hgm2 := hide (show g2 < mb2 from by omega)
  clear hsz
  generalize (W3.setCell ⟨g2, 5, none⟩ (.map (some mb2))).alloc (.map #[] 0) = W4 at *
  have hE4 := hide (HE0.out.stays (Stays.of_below hB04.out fun k _ e => e.2))
  obtain ⟨es, clock, hes, hst, hel, hrun⟩ := held_range hE4.out.held
  have hc5 := hE4.out.cells.2.2.2.2.2.1
  go_upto_region 5 with fail
  obtain ⟨r, hr⟩ : ∃ r, r = W4.heap.size := ⟨_, rfl⟩
  rw [← hr]
  have hlt4 := lt_of_block hN4.out
  have hm4 := hH4.out.lt
  have hm4' := lt_of_block hes
  have hI5 : Hid ((W4.alloc (.mapIter (some mb) clock #[] clock)).heap[r]? = some (.mapIter (some mb) clock #[] clock)) := by rw [hr]; exact heap_alloc_new W4 _
  have hold := fun k hk => (Go.MapKept.heap_alloc W4 (.mapIter (some mb) clock #[] clock)).2 k hk
  have hN5 := hide ((hold g2 hlt4).trans hN4.out)
  have hH5 := hide (hH4.out.stays (hold mb2 hm4))
  have hes5 := hide ((hold mb hm4').trans hes)
  have hB05 : Hid (Below w.heap.size w (W4.alloc (.mapIter (some mb) clock #[] clock))) := since_alloc hB04.out _
  have hO5 := hide (hO4.out.alloc (.mapIter (some mb) clock #[] clock))
  have hmbw : mb < w.heap.size := HE0.out.held.lt
  have hrw := hide (show mb < r ∧ mb2 < r ∧ w.heap.size ≤ r ∧ g2 < r from ⟨by omega, by omega, by have := hB04.out.size; omega, by omega⟩)
  have hO1 := hide fun k e => (hO4.out.lt k e).2
  rw [← hr] at hO1
  generalize W4.alloc (.mapIter (some mb) clock #[] clock) = W5 at *
  have hG := hide (show w.heap.size ≤ g2 from by have := HG2.out; omega)
  have hst2 := (Go.MapKept.stamped_iff es clock).1 hst
  clear hold hlt4 hm4 hm4' hes hc5 hrun hmm hc35 hf35 hr hm2
  cases L with
  | nil =>
    have he0 : es = #[] := by
      have : es.toList = [] := by simpa using hel
      simpa using this
    subst he0
    have hnx := held_next_none 0 hI5.out hes5.out (by simp) (Nat.le_refl _) (by simp [leftOf])
    have hfin := copy_end HE0.out hB05.out hN5.out hO5.out hOm.out hG.out hgm2.out hH5.out
    refine wp_loop_rounds 1 ?_
    rw [rounds_succ]
    go_wp2
    go_ret
    exact ⟨g2, mb2, _, rfl, hG.out, by have := hG.out; have := hgm2.out; omega, fun k e => (hOm.out k e).1, hfin, hB05.out⟩
  | cons p L' =>
    have hL' : L' = [] := by cases L' with
      | nil => rfl
      | cons q L' => simp at hL
    subst hL'
    obtain ⟨k, v⟩ := p
    obtain ⟨e0, rfl, hk0, hv0⟩ := one_entry hel
    obtain ⟨w1, hw1, hnx⟩ := held_next_one 0 hI5.out hes5.out rfl (by simpa using hst2.1) (Nat.le_refl _)
    rw [hk0, hv0] at hnx
    have hI5' : w1.heap[r]? = some (.mapIter (some mb) clock #[] clock) := by rcases hw1 with rfl | rfl <;> exact hI5.out
    have hK6 : Hid (Keeps (· = r) W5 (setBlock w1 r (.mapIter (some mb) clock (#[].push e0.born) clock))) := by
      have hk : Keeps (· = r) w1 (setBlock w1 r (.mapIter (some mb) clock (#[].push e0.born) clock)) := ⟨rfl, rfl, rfl, by simp [setBlock], fun k _ hk => set_other _ hk⟩
      rcases hw1 with rfl | rfl
      · exact hk
      · exact ⟨hk.os, hk.tape, hk.output, hk.size, hk.block⟩
    have hI6 := hide (set_same hI5' (.mapIter (some mb) clock (#[].push e0.born) clock))
    generalize setBlock w1 r (.mapIter (some mb) clock (#[].push e0.born) clock) = W6 at *
    obtain ⟨hr1, hr2, hr3, hr4⟩ := hrw.out
    have hes6 := (hK6.out.block mb (lt_of_block hes5.out) (by omega)).trans hes5.out
    have hN6 := hide ((hK6.out.block g2 (lt_of_block hN5.out) (by omega)).trans hN5.out)
    have hH6 := hide (hH5.out.stays (hK6.out.block mb2 hH5.out.lt (by omega)))
    have hO6 := hide (own_stays hO5.out (hK6.out.stays fun k _ e e' => by have := hO1.out k e; omega))
    have hen := run_entry_at (P := Try.prog) W6 r mb clock #[] #[e0] clock e0 hI6.out hes6 (by simp) (by simp)
    rw [hk0, hv0] at hen
    have hc6 : W6.cell? ⟨g2, 5, none⟩ = some (.map (some mb2)) := cell_of_row W6 g2 5 _ 101 (0, 0) hN6.out
    have hkk : k ≤ 9223372036854775807 := by obtain ⟨_, _, _, _, _, hx⟩ := HE0.out.held; exact hx (k, v) (by simp)
    obtain ⟨W7, hput, hH7, hK7⟩ := hH6.out.put hkk (by simp) v
    have hI7 := (hK7.block r (lt_of_block hI6.out) (by omega)).trans hI6.out
    have hes7 := (hK7.block mb (lt_of_block hes6) (by have := hG.out; have := hgm2.out; omega)).trans hes6
    have hN7 := (hK7.block g2 (lt_of_block hN6.out) (by have := hgm2.out; omega)).trans hN6.out
    have hO7 := own_stays hO6.out (hK7.stays fun k _ e e' => (hOm.out k e).2.2 e')
    have hB6 : Below w.heap.size w W6 := hB05.out.trans (hK6.out.below hB05.out.size fun k e => by have e' : k = r := e; omega)
    have hB7 := hide (hB6.trans (hK7.below hB6.size fun k e => by have h1 := hG.out; have h2 := hgm2.out; have e' : k = mb2 := e; omega))
    have hnx2 := held_next_none 0 hI7 hes7 (by simpa using hst2.1) (Nat.le_refl _) (by simp [leftOf])
    have hfin := hide (copy_end HE0.out hB7.out hN7 hO7 hOm.out hG.out hgm2.out hH7)
    clear hI7 hes7 hN7 hO7 hB6 hH7 hK7 hes6 hst hst2 hel hI5' hw1 hr1 hr2 hr3 hr4 hkk hk0 hv0
    refine wp_loop_rounds 2 ?_
    rw [rounds_succ]
    go_wp2
    rw [rounds_succ]
    go_wp2
    go_ret
    exact ⟨g2, mb2, _, rfl, hG.out, by have := hG.out; have := hgm2.out; omega, fun k e => (hOm.out k e).1, hfin.out, hB7.out⟩
end Go.Proofs.Ytopppkafbbfobaa.W
