/- An end of a link in memory. -/
import Derived.Test.YtopppkafbbfobaaM1
namespace Go.Proofs.Ytopppkafbbfobaa.W
open Go.RowKit

/-- What an end's block says. -/
structure Raw where
  win : Nat
  key : Nat
  wait : List Bs
  acked : Nat
  got : Nat
  held : List (Nat × Bs)
  owing : Bool
  forged : Nat
def St.raw (S : St) : Raw := ⟨S.win, S.key, S.sent.drop S.acked, S.acked, S.got, S.held, S.owing, S.forged⟩
theorem St.raw_len {S : St} : S.raw.wait.length = S.waiting := by simp [St.raw, St.waiting]
def endCells (R : Raw) (wv : Value) (mb : Nat) : Array Value :=
  #[.int .i64 (R.win : Int), .int .u64 (R.key : Int), wv, .int .i64 (R.acked : Int), .int .i64 (R.got : Int), .map (some mb), .bool R.owing, .int .i64 (R.forged : Int)]
/-- Blocks of D that hold messages. -/
def Own (D : Nat → Prop) (g mb : Nat) (wv : Value) (k : Nat) : Prop := D k ∧ k ≠ g ∧ k ≠ mb ∧ wv.ownBlock ≠ some k
structure EndAt (D : Nat → Prop) (w : World) (g : Nat) (R : Raw) (wv : Value) (mb : Nat) (ws : List Value) (L : List (Nat × Value)) : Prop where
  dg : D g
  blk : w.heap[g]? = some (.cells (endCells R wv mb) 101 (0, 0))
  own : w.ownsRow 0 28 1 wv ws.length ws
  dw : ∀ k, wv.ownBlock = some k → D k ∧ k ≠ g ∧ k ≠ mb
  each : Each (Own D g mb wv) w ws R.wait
  dm : D mb
  ne : mb ≠ g
  held : HeldAt w mb L
  hb : HB (Own D g mb wv) w L R.held
def IsEnd (D : Nat → Prop) (w : World) (g : Nat) (S : St) : Prop := ∃ wv mb ws L, EndAt D w g S.raw wv mb ws L
section
variable {D : Nat → Prop} {w w' : World} {g mb : Nat} {R : Raw} {wv : Value} {ws : List Value} {L : List (Nat × Value)}
theorem Own.d {k : Nat} (h : Own D g mb wv k) : D k := h.1
theorem EndAt.stays (h : EndAt D w g R wv mb ws L) (hs : Stays D w w') : EndAt D w' g R wv mb ws L :=
  ⟨h.dg, (hs g (lt_of_block h.blk) h.dg).trans h.blk, own_stays h.own (fun k hk e => hs k hk (h.dw k e).1), h.dw, h.each.stays (fun k hk e => hs k hk e.1), h.dm, h.ne, h.held.stays (hs mb h.held.lt h.dm), h.hb.stays (fun k hk e => hs k hk e.1)⟩
theorem EndAt.mono {D' : Nat → Prop} (h : EndAt D w g R wv mb ws L) (hd : ∀ k, k < w.heap.size → D k → D' k) : EndAt D' w g R wv mb ws L :=
  ⟨hd g (lt_of_block h.blk) h.dg, h.blk, h.own, fun k e => ⟨hd k (h.own.lt k e).2 (h.dw k e).1, (h.dw k e).2⟩, h.each.mono (fun k hk e => ⟨hd k hk e.1, e.2⟩), hd mb h.held.lt h.dm, h.ne, h.held, h.hb.mono (fun k hk e => ⟨hd k hk e.1, e.2⟩)⟩
theorem IsEnd.stays {S : St} (h : IsEnd D w g S) (hs : Stays D w w') : IsEnd D w' g S := by
  obtain ⟨wv, mb, ws, L, h⟩ := h; exact ⟨wv, mb, ws, L, h.stays hs⟩
theorem IsEnd.mono {S : St} {D' : Nat → Prop} (h : IsEnd D w g S) (hd : ∀ k, k < w.heap.size → D k → D' k) : IsEnd D' w g S := by
  obtain ⟨wv, mb, ws, L, h⟩ := h; exact ⟨wv, mb, ws, L, h.mono hd⟩
theorem heap_setCell_at {w : World} {g i : Nat} {cs : Array Value} {t : TypeId} {fr : Nat × Nat} (h : w.heap[g]? = some (.cells cs t fr)) (u : Value) : (w.setCell ⟨g, i, none⟩ u).heap[g]? = some (.cells (cs.setIfInBounds i u) t fr) := by
  have hlt := lt_of_block h
  have h' : w.heap[g] = .cells cs t fr := by simpa [Array.getElem?_eq_getElem hlt] using h
  show (w.heap.modify g _)[g]? = _
  rw [Array.getElem?_eq_getElem (by simpa using hlt), Array.getElem_modify_self, h']
  rfl
theorem EndAt.cell (h : EndAt D w g R wv mb ws L) (i : Nat) : w.cell? ⟨g, i, none⟩ = (endCells R wv mb)[i]? := cell_of_row w g i _ 101 (0, 0) h.blk
theorem EndAt.free (h : EndAt D w g R wv mb ws L) (i : Nat) : w.frozen? ⟨g, i, none⟩ = false := frozen_of_row w g i _ 101 h.blk
/-- The cells of an end, for a walk. -/
theorem EndAt.cells (h : EndAt D w g R wv mb ws L) : w.cell? ⟨g, 0, none⟩ = some (.int .i64 (R.win : Int)) ∧ w.cell? ⟨g, 1, none⟩ = some (.int .u64 (R.key : Int)) ∧ w.cell? ⟨g, 2, none⟩ = some wv ∧ w.cell? ⟨g, 3, none⟩ = some (.int .i64 (R.acked : Int)) ∧
    w.cell? ⟨g, 4, none⟩ = some (.int .i64 (R.got : Int)) ∧ w.cell? ⟨g, 5, none⟩ = some (.map (some mb)) ∧ w.cell? ⟨g, 6, none⟩ = some (.bool R.owing) ∧ w.cell? ⟨g, 7, none⟩ = some (.int .i64 (R.forged : Int)) :=
  ⟨h.cell 0, h.cell 1, h.cell 2, h.cell 3, h.cell 4, h.cell 5, h.cell 6, h.cell 7⟩
/-- A store into an end's block that is no store of the slice nor of the map. -/
theorem EndAt.set (h : EndAt D w g R wv mb ws L) {R' : Raw} {i : Nat} {u : Value} (hc : (endCells R wv mb).setIfInBounds i u = endCells R' wv mb) (hw : R'.wait = R.wait) (hh : R'.held = R.held) :
    EndAt D (w.setCell ⟨g, i, none⟩ u) g R' wv mb ws L := by
  have hs : Stays (fun k => k ≠ g) w (w.setCell ⟨g, i, none⟩ u) := Stays.setCell fun k _ hk => hk
  refine ⟨h.dg, by rw [heap_setCell_at h.blk, hc], own_stays h.own (fun k hk e => hs k hk (h.dw k e).2.1), h.dw, ?_, h.dm, h.ne, h.held.stays (hs mb h.held.lt h.ne), ?_⟩
  · rw [hw]; exact h.each.stays (fun k hk e => hs k hk e.2.1)
  · rw [hh]; exact h.hb.stays (fun k hk e => hs k hk e.2.1)
theorem EndAt.setOwing (h : EndAt D w g R wv mb ws L) (o : Bool) : EndAt D (w.setCell ⟨g, 6, none⟩ (.bool o)) g { R with owing := o } wv mb ws L := h.set rfl rfl rfl
theorem EndAt.setForged (h : EndAt D w g R wv mb ws L) (n : Nat) : EndAt D (w.setCell ⟨g, 7, none⟩ (.int .i64 (n : Int))) g { R with forged := n } wv mb ws L := h.set rfl rfl rfl
theorem EndAt.setAcked (h : EndAt D w g R wv mb ws L) (n : Nat) : EndAt D (w.setCell ⟨g, 3, none⟩ (.int .i64 (n : Int))) g { R with acked := n } wv mb ws L := h.set rfl rfl rfl
theorem EndAt.setGot (h : EndAt D w g R wv mb ws L) (n : Nat) : EndAt D (w.setCell ⟨g, 4, none⟩ (.int .i64 (n : Int))) g { R with got := n } wv mb ws L := h.set rfl rfl rfl
/-- Another row of waiting messages, stored. -/
theorem EndAt.setWait {D0 : Nat → Prop} {w0 : World} (h : EndAt D0 w0 g R wv mb ws L) (hd0 : ∀ k, k < w0.heap.size → D0 k → D k) (hg0 : w.heap[g]? = w0.heap[g]?) (hm0 : w.heap[mb]? = w0.heap[mb]?) {wv' : Value} {ws' : List Value} {l' : List Bs}
    (ho : w.ownsRow 0 28 1 wv' ws'.length ws') (hd : ∀ k, wv'.ownBlock = some k → D k ∧ k ≠ g ∧ k ≠ mb)
    (he : Each (Own D g mb wv') w ws' l') (hb : HB (Own D g mb wv') w L R.held) : EndAt D (w.setCell ⟨g, 2, none⟩ wv') g { R with wait := l' } wv' mb ws' L := by
  have hs : Stays (fun k => k ≠ g) w (w.setCell ⟨g, 2, none⟩ wv') := Stays.setCell fun k _ hk => hk
  have hm1 : (w.setCell ⟨g, 2, none⟩ wv').heap[mb]? = w.heap[mb]? := Below.heap_setCell _ _ _ _ h.ne
  exact ⟨hd0 g (lt_of_block h.blk) h.dg, by rw [heap_setCell_at (hg0.trans h.blk)]; rfl, own_stays ho (fun k hk e => hs k hk (hd k e).2.1), hd, he.stays (fun k hk e => hs k hk e.2.1), hd0 mb h.held.lt h.dm, h.ne,
    (h.held.stays hm0).stays hm1, hb.stays (fun k hk e => hs k hk e.2.1)⟩
/-- Another list of held messages, in the map. -/
theorem EndAt.setHeld (h : EndAt D w g R wv mb ws L) {L' : List (Nat × Value)} {H' : List (Nat × Bs)} (hk : Keeps (· = mb) w w') (hm : HeldAt w' mb L') (hb : HB (Own D g mb wv) w L' H') :
    EndAt D w' g { R with held := H' } wv mb ws L' := by
  have hs : Stays (fun k => k ≠ mb) w w' := hk.stays fun k _ h => h
  exact ⟨h.dg, (hs g (lt_of_block h.blk) (Ne.symm h.ne)).trans h.blk, own_stays h.own (fun k hk e => hs k hk (h.dw k e).2.2), h.dw, h.each.stays (fun k hk e => hs k hk e.2.2.1), h.dm, h.ne, hm, hb.stays (fun k hk e => hs k hk e.2.2.1)⟩
theorem EndAt.wait_slice (h : EndAt D w g R wv mb ws L) (hl : R.wait.length ≤ 9223372036854775807) : ∃ A c, wv = .slice A R.wait.length c ∧ RdIn (fun k => wv.ownBlock = some k) w A ws ∧ R.wait.length ≤ c := by
  have := RdIn.of_own h.own (by rw [h.each.1]; exact hl)
  rwa [h.each.1] at this
end
/-- The bounds that a walk wants. -/
structure St.Ok (S : St) : Prop where
  key : S.key < 18446744073709551616
  win1 : 1 ≤ S.win
  win : S.win ≤ 16
  acked : S.acked ≤ S.sent.length
  sent : S.sent.length ≤ 1000000
  got : S.got ≤ 1000000
  forged : S.forged ≤ 1000000
  small : ∀ b ∈ S.sent, b.length ≤ 65536
  first : findH (S.got + 1) S.held = none
  keys : ∀ p ∈ S.held, p.1 ≤ 1000100 ∧ p.2.length ≤ 65536
  few : S.held.length ≤ 1000000
/-- The blocks of D, and those that are new since w. -/
def Plus (D : Nat → Prop) (w : World) (k : Nat) : Prop := D k ∨ w.heap.size ≤ k
theorem Plus.d {D : Nat → Prop} {w : World} {k : Nat} (h : D k) : Plus D w k := .inl h
/-- A message more in the waiting row, behind a copy of it. -/
theorem EndAt.pushWait {D : Nat → Prop} {w w1 w2 : World} {g mb : Nat} {R : Raw} {wv v' vc : Value} {ws : List Value} {L : List (Nat × Value)} {b : Bs} (h : EndAt D w g R wv mb ws L) (hB : Below w.heap.size w w1)
    (hc : w1.ownsRow w.heap.size 5 1 vc b.length (bv b)) (hl : b.length ≤ 65536) (ho : w2.ownsRow 0 28 1 v' (ws.length + 1) (ws ++ [vc])) (hg : w1.grownBy w2 wv.ownBlock) (hat : wv.ownBlock = v'.ownBlock ∨ ∃ q, v'.ownBlock = some q ∧ w1.heap.size ≤ q) :
    EndAt (Plus D w) (w2.setCell ⟨g, 2, none⟩ v') g { R with wait := R.wait ++ [b] } v' mb (ws ++ [vc]) L ∧ Keeps D w (w2.setCell ⟨g, 2, none⟩ v') := by
  have hglt := lt_of_block h.blk
  have hmlt := h.held.lt
  have hz := hB.size
  have hrow : ∀ k, wv.ownBlock = some k → k < w.heap.size := fun k e => (h.own.lt k e).2
  have hst : ∀ k, k < w.heap.size → wv.ownBlock ≠ some k → w2.heap[k]? = w.heap[k]? := fun k hk hn => (hg.block k (by omega) (fun e => hn e.symm)).trans (hB.block k hk)
  have hmono : ∀ k, k < w.heap.size → Own D g mb wv k → Own (Plus D w) g mb v' k := fun k hk e => ⟨.inl e.1, e.2.1, e.2.2.1, fun e' => by
    rcases hat with hat | ⟨q, hq, hq2⟩
    · exact e.2.2.2 (hat.trans e')
    · rw [hq] at e'; cases e'; omega⟩
  have hsz : w.heap.size ≤ w2.heap.size := Nat.le_trans hz hg.size
  have hst2 : Stays (fun k => Own D g mb wv k ∧ k < w.heap.size) w w2 := fun k hk e => hst k hk e.1.2.2.2
  have hcb : Bt (Own (Plus D w) g mb v') w2 vc b := by
    have h1 := Bt.of_own hc (by omega)
    have hge : ∀ k, vc.ownBlock = some k → w.heap.size ≤ k ∧ k < w1.heap.size := fun k e => hc.lt k e
    have h2 : Bt (fun k => vc.ownBlock = some k) w2 vc b := h1.stays fun k hk e => hg.block k hk (fun e' => by have := hrow k e'.symm; have := (hge k e).1; omega)
    refine h2.mono fun k _ e => ⟨.inr (hge k e).1, by have := (hge k e).1; omega, by have := (hge k e).1; omega, fun e' => ?_⟩
    have hk := hge k e
    rcases hat with hat | ⟨q, hq, hq2⟩
    · have := hrow k (hat.trans e'); omega
    · rw [hq] at e'; cases e'; omega
  refine ⟨h.setWait (D := Plus D w) (w := w2) (fun k _ e => .inl e) (hst g hglt (fun e => (h.dw g e).2.1 rfl)) (hst mb hmlt (fun e => (h.dw mb e).2.2 rfl)) (by simpa using ho) ?_ ((((h.each.mono (D' := fun k => Own D g mb wv k ∧ k < w.heap.size) fun k hk e => ⟨e, hk⟩).stays hst2).mono fun k _ e => hmono k e.2 e.1).snoc hcb)
    (((h.hb.mono (D' := fun k => Own D g mb wv k ∧ k < w.heap.size) fun k hk e => ⟨e, hk⟩).stays hst2).mono fun k _ e => hmono k e.2 e.1), ?_⟩
  · intro k e
    rcases hat with hat | ⟨q, hq, hq2⟩
    · have := h.dw k (hat.trans e)
      exact ⟨.inl this.1, this.2⟩
    · rw [hq] at e; cases e
      exact ⟨.inr (by omega), by omega, by omega⟩
  · have hk1 : Keeps D w w2 := (Keeps.of_new (D := D) hB).grown hg fun k e => (h.dw k e).1
    exact hk1.setCell h.dg _
end Go.Proofs.Ytopppkafbbfobaa.W
