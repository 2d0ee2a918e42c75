/- Owners of blocks: several ends side by side. -/
import Derived.Test.YtopppkafbbfobaaC50
namespace Go.Proofs.Ytopppkafbbfobaa.W
open Go.RowKit
/-- The blocks of an owner. -/
def Z (f : Nat → Nat) (w : World) (i k : Nat) : Prop := f k = i ∧ k < w.heap.size
/-- New blocks are given to an owner. -/
def ext (f : Nat → Nat) (w : World) (i k : Nat) : Nat := if k < w.heap.size then f k else i
section
variable {f : Nat → Nat} {w w' : World} {i j : Nat}
theorem Z.plus {k : Nat} (h : Plus (Z f w i) w k) (hk : k < w'.heap.size) : Z (ext f w i) w' i k := by
  unfold Z ext
  rcases h with h | h
  · rw [if_pos h.2]; exact ⟨h.1, hk⟩
  · rw [if_neg (by omega)]; exact ⟨rfl, hk⟩
theorem Z.fresh {k : Nat} (h : w.heap.size ≤ k) (hk : k < w'.heap.size) : Z (ext f w i) w' i k := Z.plus (.inr h) hk
theorem Z.old {k : Nat} (h : Z f w j k) (hs : w.heap.size ≤ w'.heap.size) : Z (ext f w i) w' j k := by
  unfold Z ext
  rw [if_pos h.2]
  exact ⟨h.1, by have := h.2; omega⟩
theorem Z.stays (hk : Keeps (Z f w i) w w') (hj : j ≠ i) : Stays (Z f w j) w w' := hk.stays fun _ _ h e => hj (h.1.symm.trans e.1)
theorem IsEnd.zown {g : Nat} {S : St} (h : IsEnd (Plus (Z f w i) w) w' g S) : IsEnd (Z (ext f w i) w' i) w' g S := h.mono fun _ hk e => Z.plus e hk
theorem IsEnd.zoth {g : Nat} {S : St} (h : IsEnd (Z f w j) w g S) (hk : Keeps (Z f w i) w w') (hj : j ≠ i) : IsEnd (Z (ext f w i) w' j) w' g S := (h.stays (Z.stays hk hj)).mono fun _ _ e => Z.old e hk.size
/-- An end that was left alone. -/
theorem IsEnd.znew {g : Nat} {S : St} (h : IsEnd (Z f w j) w g S) (hb : Below w.heap.size w w') : IsEnd (Z (ext f w i) w' j) w' g S := (h.stays (Stays.of_new hb)).mono fun _ _ e => Z.old e hb.size
end
/-- Slices that can be read, and what they read as. -/
def Lst (D : Nat → Prop) (w : World) (v : Value) (vs : List Value) (ls : List Bs) : Prop := ∃ A c, v = .slice A ls.length c ∧ ls.length ≤ c ∧ RdIn D w A vs ∧ Each D w vs ls
theorem Lst.stays {D : Nat → Prop} {w w' : World} {v : Value} {vs : List Value} {ls : List Bs} (h : Lst D w v vs ls) (hs : Stays D w w') : Lst D w' v vs ls := by
  obtain ⟨A, c, e, hc, hR, hE⟩ := h
  exact ⟨A, c, e, hc, hR.stays hs, hE.stays hs⟩
theorem Lst.mono {D D' : Nat → Prop} {w : World} {v : Value} {vs : List Value} {ls : List Bs} (h : Lst D w v vs ls) (hd : ∀ k, k < w.heap.size → D k → D' k) : Lst D' w v vs ls := by
  obtain ⟨A, c, e, hc, hR, hE⟩ := h
  exact ⟨A, c, e, hc, hR.mono hd, hE.mono hd⟩
theorem Rows.lst {P : Nat → Prop} {B : Nat} {w : World} {v : Value} {vs : List Value} {ls : List Bs} (h : Rows P B w v vs ls) (hl : ls.length ≤ 9223372036854775807) : Lst (fun k => P k ∨ v.ownBlock = some k) w v vs ls := by
  obtain ⟨A, c, e, hR, hc⟩ := RdIn.of_own h.1 (by rw [h.2.1]; exact hl)
  rw [h.2.1] at e hc
  exact ⟨A, c, e, hc, hR.mono fun _ _ e => .inr e, h.2.mono fun _ _ e => .inl e.1⟩
/-- A row of the call's own, all of it new. -/
theorem Rows.fresh {w w' : World} {v : Value} {vs : List Value} {ls : List Bs} (h : Rows (fun k => w.heap.size ≤ k) w.heap.size w' v vs ls) (hl : ls.length ≤ 9223372036854775807) : Lst (fun k => w.heap.size ≤ k) w' v vs ls :=
  (h.lst hl).mono fun k _ e => by
    rcases e with e | e
    · exact e
    · exact (h.1.lt k e).1
theorem Lst.zown {f : Nat → Nat} {w w' : World} {i : Nat} {v : Value} {vs : List Value} {ls : List Bs} (h : Lst (fun k => w.heap.size ≤ k) w' v vs ls) : Lst (Z (ext f w i) w' i) w' v vs ls := h.mono fun _ hk e => Z.fresh e hk
theorem Lst.zoth {f : Nat → Nat} {w w' : World} {i j : Nat} {v : Value} {vs : List Value} {ls : List Bs} (h : Lst (Z f w j) w v vs ls) (hk : Keeps (Z f w i) w w') (hj : j ≠ i) : Lst (Z (ext f w i) w' j) w' v vs ls := (h.stays (Z.stays hk hj)).mono fun _ _ e => Z.old e hk.size
theorem Lst.znew {f : Nat → Nat} {w w' : World} {i j : Nat} {v : Value} {vs : List Value} {ls : List Bs} (h : Lst (Z f w j) w v vs ls) (hb : Below w.heap.size w w') : Lst (Z (ext f w i) w' j) w' v vs ls := (h.stays (Stays.of_new hb)).mono fun _ _ e => Z.old e hb.size
/-- Another zone's change, of an end that keeps all but one block: Out. -/
theorem Keeps.zone {f : Nat → Nat} {w w' : World} {i g : Nat} (h : Keeps (· = g) w w') (hg : Z f w i g) : Keeps (Z f w i) w w' := h.mono fun k _ e => by rw [e]; exact hg
theorem IsEnd.dg {D : Nat → Prop} {w : World} {g : Nat} {S : St} (h : IsEnd D w g S) : D g := by obtain ⟨_, _, _, _, h⟩ := h; exact h.dg
theorem IsEnd.plusz {f : Nat → Nat} {w w' : World} {i g : Nat} {S : St} (h : IsEnd (Z f w i) w' g S) (hs : w.heap.size ≤ w'.heap.size) (l : Nat) : IsEnd (Z (ext f w l) w' i) w' g S := h.mono fun _ _ e => Z.old e hs
/-- An element of a list of slices, for a walk. -/
theorem Lst.at {D : Nat → Prop} {w : World} {v : Value} {vs : List Value} {ls : List Bs} (h : Lst D w v vs ls) {k : Nat} (hk : k < ls.length) : ∃ b off c A cc, v = .slice (some ⟨b, off, none⟩) ls.length c ∧ ls.length ≤ c ∧ w.cell? ⟨b, off + k, none⟩ = some (.slice A (ls.getD k []).length cc) ∧ (ls.getD k []).length ≤ cc ∧ RdIn D w A (bv (ls.getD k [])) ∧ D b := by
  obtain ⟨A, c, e, hc, hR, hE⟩ := h
  obtain ⟨b, off, rfl, hd, hcell⟩ := hR.2 (by rw [hE.1]; omega)
  obtain ⟨A1, c1, e1, hc1, hR1⟩ := hE.2 k hk
  refine ⟨b, off, c, A1, c1, e, hc, ?_, hc1, hR1, hd⟩
  have hkv : k < vs.length := by rw [hE.1]; exact hk
  rw [← e1]
  exact hcell k _ (by rw [List.getElem?_eq_getElem hkv]; simp [List.getD_eq_getElem?_getD, List.getElem?_eq_getElem hkv])
/-- All that a call does lies in new memory: the owners of what was there are nobody. -/
def Base (w0 : World) (f : Nat → Nat) (w : World) : Prop := Below w0.heap.size w0 w ∧ ∀ k, k < w0.heap.size → f k = 9
theorem Base.start (w0 : World) : Base w0 (fun _ => 9) w0 := ⟨Below.refl _ _, fun _ _ => rfl⟩
theorem Base.ext {w0 w : World} {f : Nat → Nat} (h : Base w0 f w) (i : Nat) : ∀ k, k < w0.heap.size → W.ext f w i k = 9 := fun k hk => by
  unfold W.ext
  have := h.1.size
  rw [if_pos (by omega)]
  exact h.2 k hk
theorem Base.new {w0 w w' : World} {f : Nat → Nat} (h : Base w0 f w) (hb : Below w.heap.size w w') (i : Nat) : Base w0 (W.ext f w i) w' := ⟨h.1.trans (hb.mono h.1.size), h.ext i⟩
theorem Base.step {w0 w w' : World} {f : Nat → Nat} {j : Nat} (h : Base w0 f w) (hK : Keeps (Z f w j) w w') (hj : j ≠ 9) (i : Nat) : Base w0 (W.ext f w i) w' :=
  ⟨h.1.trans (hK.below h.1.size fun k e => by
    rcases Nat.lt_or_ge k w0.heap.size with hk | hk
    · exact absurd (e.1.symm.trans (h.2 k hk)) hj
    · exact hk), h.ext i⟩
end Go.Proofs.Ytopppkafbbfobaa.W
