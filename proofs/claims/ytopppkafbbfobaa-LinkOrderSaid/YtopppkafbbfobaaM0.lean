/- Words on memory with owners: blocks outside a set are as they were; what is read lies in a set of blocks. -/
import Derived.Test.YtopppkafbbfobaaC34
import Derived.Test.YtopppkafbbfobaaA5
import Derived.OneCell
namespace Go.Proofs.Ytopppkafbbfobaa.W
open Go.RowKit

/-- Blocks that are not of D are as they were. -/
structure Keeps (D : Nat → Prop) (w w' : World) : Prop where
  os : w'.os = w.os
  tape : w'.tape = w.tape
  output : w'.output = w.output
  size : w.heap.size ≤ w'.heap.size
  block : ∀ k, k < w.heap.size → ¬ D k → w'.heap[k]? = w.heap[k]?
theorem Keeps.refl (D : Nat → Prop) (w : World) : Keeps D w w := ⟨rfl, rfl, rfl, Nat.le_refl _, fun _ _ _ => rfl⟩
theorem Keeps.trans {D D' : Nat → Prop} {a b c : World} (h : Keeps D a b) (k : Keeps D' b c) (hd : ∀ i, i < a.heap.size → D' i → D i) : Keeps D a c :=
  ⟨k.os.trans h.os, k.tape.trans h.tape, k.output.trans h.output, Nat.le_trans h.size k.size, fun i hi hn => (k.block i (Nat.lt_of_lt_of_le hi h.size) (fun hd' => hn (hd i hi hd'))).trans (h.block i hi hn)⟩
theorem Keeps.then {D : Nat → Prop} {a b c : World} (h : Keeps D a b) (k : Keeps D b c) : Keeps D a c := h.trans k fun _ _ h => h
theorem Keeps.of_below {B : Nat} {D : Nat → Prop} {w w' : World} (h : Below B w w') (hB : ∀ k, k < w.heap.size → ¬ D k → k < B) : Keeps D w w' :=
  ⟨h.os, h.tape, h.output, h.size, fun k hk hd => h.block k (hB k hk hd)⟩
theorem Keeps.of_new {D : Nat → Prop} {w w' : World} (h : Below w.heap.size w w') : Keeps D w w' := Keeps.of_below h fun _ h _ => h
theorem Keeps.mono {D D' : Nat → Prop} {w w' : World} (h : Keeps D w w') (hd : ∀ k, k < w.heap.size → D k → D' k) : Keeps D' w w' :=
  ⟨h.os, h.tape, h.output, h.size, fun k hk hn => h.block k hk (fun hD => hn (hd k hk hD))⟩
theorem Keeps.below {B : Nat} {D : Nat → Prop} {w w' : World} (h : Keeps D w w') (hB : B ≤ w.heap.size) (hd : ∀ k, D k → B ≤ k) : Below B w w' :=
  ⟨h.os, h.tape, h.output, h.size, fun k hk => h.block k (by omega) (fun hD => by have := hd k hD; omega)⟩
theorem Keeps.setCell {D : Nat → Prop} {a w : World} (h : Keeps D a w) {p : Addr} (hp : D p.block) (u : Value) : Keeps D a (w.setCell p u) :=
  h.then ⟨rfl, rfl, rfl, by simp [World.setCell], fun k _ hk => Below.heap_setCell _ _ _ _ (fun e => hk (e ▸ hp))⟩
theorem Keeps.alloc {D : Nat → Prop} {a w : World} (h : Keeps D a w) (o : Obj) : Keeps D a (w.alloc o) := h.then (Keeps.of_new ((Below.refl _ _).alloc (Nat.le_refl _) o))
theorem Keeps.drewN {D : Nat → Prop} {a w : World} (h : Keeps D a w) (n : Nat) : Keeps D a (w.drewN n) := ⟨h.os, h.tape, h.output, h.size, h.block⟩
theorem Keeps.drew {D : Nat → Prop} {a w : World} (h : Keeps D a w) : Keeps D a w.drew := ⟨h.os, h.tape, h.output, h.size, h.block⟩
theorem Keeps.grown {D : Nat → Prop} {a w w' : World} {row : Option Nat} (h : Keeps D a w) (hg : w.grownBy w' row) (hr : ∀ k, row = some k → D k) : Keeps D a w' :=
  h.then ⟨hg.os, hg.tape, hg.output, hg.size, fun k hk hn => hg.block k hk (fun e => hn (hr k e.symm))⟩
theorem Keeps.grownBy {w w' : World} {r : Nat} (h : Keeps (· = r) w w') : w.grownBy w' (some r) := ⟨h.os, h.tape, h.output, h.size, fun k hk hn => h.block k hk (fun e => hn (by rw [e]))⟩
theorem Keeps.cell {D : Nat → Prop} {w w' : World} (h : Keeps D w w') {p : Addr} (hp : p.block < w.heap.size) (hd : ¬ D p.block) : w'.cell? p = w.cell? p := World.cell?_of_block (w := w) (h.block p.block hp hd)

/-- D's blocks are as they were. -/
def Stays (D : Nat → Prop) (w w' : World) : Prop := ∀ k, k < w.heap.size → D k → w'.heap[k]? = w.heap[k]?
theorem Stays.refl (D : Nat → Prop) (w : World) : Stays D w w := fun _ _ _ => rfl
theorem Keeps.stays {D M : Nat → Prop} {w w' : World} (h : Keeps D w w') (hd : ∀ k, k < w.heap.size → M k → ¬ D k) : Stays M w w' := fun k hk hm => h.block k hk (hd k hk hm)
theorem Stays.of_below {B : Nat} {D : Nat → Prop} {w w' : World} (h : Below B w w') (hB : ∀ k, k < w.heap.size → D k → k < B) : Stays D w w' := fun k hk hd => h.block k (hB k hk hd)
theorem Stays.of_new {D : Nat → Prop} {w w' : World} (h : Below w.heap.size w w') : Stays D w w' := Stays.of_below h fun _ h _ => h
theorem Stays.grown {D : Nat → Prop} {w w' : World} {row : Option Nat} (hg : w.grownBy w' row) (hd : ∀ k, k < w.heap.size → D k → some k ≠ row) : Stays D w w' := fun k hk h => hg.block k hk (hd k hk h)
theorem Stays.setCell {D : Nat → Prop} {w : World} {p : Addr} {u : Value} (hp : ∀ k, k < w.heap.size → D k → k ≠ p.block) : Stays D w (w.setCell p u) := fun k hk h => Below.heap_setCell _ _ _ _ (hp k hk h)

/-- Cells that can be read at an address, in a block of D. -/
def RdIn (D : Nat → Prop) (w : World) (A : Option Addr) (xs : List Value) : Prop :=
  xs.length ≤ 9223372036854775807 ∧ (0 < xs.length → ∃ b off, A = some ⟨b, off, none⟩ ∧ D b ∧ ∀ j u, xs[j]? = some u → w.cell? ⟨b, off + j, none⟩ = some u)
theorem RdIn.rd {D : Nat → Prop} {w : World} {A : Option Addr} {xs : List Value} (h : RdIn D w A xs) : Rd w A xs :=
  ⟨h.1, fun h0 => by obtain ⟨b, off, e, _, hc⟩ := h.2 h0; exact ⟨b, off, e, hc⟩⟩
theorem RdIn.stays {D : Nat → Prop} {w w' : World} {A : Option Addr} {xs : List Value} (h : RdIn D w A xs) (hs : Stays D w w') : RdIn D w' A xs :=
  ⟨h.1, fun h0 => by
    obtain ⟨b, off, e, hd, hc⟩ := h.2 h0
    exact ⟨b, off, e, hd, fun j u hu => (World.cell?_of_block (w := w) (hs b (World.block_lt_of_cell? w ⟨b, off + j, none⟩ (hc j u hu)) hd)).trans (hc j u hu)⟩⟩
theorem RdIn.mono {D D' : Nat → Prop} {w : World} {A : Option Addr} {xs : List Value} (h : RdIn D w A xs) (hd : ∀ k, k < w.heap.size → D k → D' k) : RdIn D' w A xs :=
  ⟨h.1, fun h0 => by
    obtain ⟨b, off, e, hD, hc⟩ := h.2 h0
    obtain ⟨u, hu⟩ : ∃ u, xs[0]? = some u := ⟨xs[0], by rw [List.getElem?_eq_getElem h0]⟩
    exact ⟨b, off, e, hd b (World.block_lt_of_cell? w ⟨b, off + 0, none⟩ (hc 0 u hu)) hD, hc⟩⟩
theorem RdIn.nil (D : Nat → Prop) (w : World) (A : Option Addr) : RdIn D w A [] := ⟨by simp, fun h => absurd h (by simp)⟩
theorem RdIn.of_own {w : World} {base : Nat} {e : TypeId} {size n : Nat} {v : Value} {xs : List Value} (h : w.ownsRow base e size v n xs) (hn : xs.length ≤ 9223372036854775807) :
    ∃ A c, v = .slice A n c ∧ RdIn (fun k => v.ownBlock = some k) w A xs ∧ n ≤ c := by
  have h' := h
  rcases h.2 with ⟨rfl, rfl⟩ | ⟨g, cap, cur, rfl, _, _, hc, _⟩
  · have : xs = [] := List.eq_nil_of_length_eq_zero (by simpa using h.1)
    subst this
    exact ⟨none, 0, rfl, RdIn.nil _ _ _, Nat.le_refl _⟩
  · refine ⟨_, cap, rfl, ⟨hn, fun _ => ⟨g, 0, rfl, rfl, fun j u hu => ?_⟩⟩, hc⟩
    have := h'.cells (g := g) rfl j u hu
    rwa [show (⟨g, 0, none⟩ : Addr).add j = ⟨g, 0 + j, none⟩ from by unfold Addr.add; split <;> simp_all] at this

/-- A value is a slice of these bytes, in a block of D. -/
def Bt (D : Nat → Prop) (w : World) (v : Value) (l : List UInt8) : Prop := ∃ A c, v = .slice A l.length c ∧ l.length ≤ c ∧ RdIn D w A (bv l)
theorem Bt.stays {D : Nat → Prop} {w w' : World} {v : Value} {l : List UInt8} (h : Bt D w v l) (hs : Stays D w w') : Bt D w' v l := by
  obtain ⟨A, c, e, hc, hR⟩ := h; exact ⟨A, c, e, hc, hR.stays hs⟩
theorem Bt.mono {D D' : Nat → Prop} {w : World} {v : Value} {l : List UInt8} (h : Bt D w v l) (hd : ∀ k, k < w.heap.size → D k → D' k) : Bt D' w v l := by
  obtain ⟨A, c, e, hc, hR⟩ := h; exact ⟨A, c, e, hc, hR.mono hd⟩
theorem Bt.nil (D : Nat → Prop) (w : World) : Bt D w (.slice none 0 0) [] := ⟨none, 0, rfl, Nat.le_refl _, RdIn.nil _ _ _⟩
theorem Bt.of_own {w : World} {base : Nat} {v : Value} {l : List UInt8} (h : w.ownsRow base 5 1 v l.length (bv l)) (hl : l.length ≤ 9223372036854775807) : Bt (fun k => v.ownBlock = some k) w v l := by
  obtain ⟨A, c, e, hR, hc⟩ := RdIn.of_own h (by rw [bv_length]; exact hl)
  exact ⟨A, c, e, hc, hR⟩
theorem Bt.one {D : Nat → Prop} {w : World} {v : Value} {l : List UInt8} (h : Bt D w v l) : v.oneCell' = true := by
  obtain ⟨A, c, rfl, _⟩ := h; rfl
theorem Bt.len {D : Nat → Prop} {w : World} {v : Value} {l : List UInt8} (h : Bt D w v l) : l.length ≤ 9223372036854775807 := by
  obtain ⟨A, c, rfl, _, hR⟩ := h; have := hR.1; rwa [bv_length] at this

/-- Values that are slices of these byte rows, one by one. -/
def Each (D : Nat → Prop) (w : World) (vs : List Value) (ls : List (List UInt8)) : Prop := vs.length = ls.length ∧ ∀ i, i < ls.length → Bt D w (vs.getD i undef) (ls.getD i [])
theorem Each.nil (D : Nat → Prop) (w : World) : Each D w [] [] := ⟨rfl, fun _ h => absurd h (Nat.not_lt_zero _)⟩
theorem Each.stays {D : Nat → Prop} {w w' : World} {vs : List Value} {ls : List (List UInt8)} (h : Each D w vs ls) (hs : Stays D w w') : Each D w' vs ls := ⟨h.1, fun i hi => (h.2 i hi).stays hs⟩
theorem Each.mono {D D' : Nat → Prop} {w : World} {vs : List Value} {ls : List (List UInt8)} (h : Each D w vs ls) (hd : ∀ k, k < w.heap.size → D k → D' k) : Each D' w vs ls := ⟨h.1, fun i hi => (h.2 i hi).mono hd⟩
theorem Each.snoc {D : Nat → Prop} {w : World} {vs : List Value} {ls : List (List UInt8)} {v : Value} {l : List UInt8} (h : Each D w vs ls) (hv : Bt D w v l) : Each D w (vs ++ [v]) (ls ++ [l]) := by
  refine ⟨by simp [h.1], fun i hi => ?_⟩
  rw [List.getD_eq_getElem?_getD, List.getD_eq_getElem?_getD]
  by_cases h2 : i < ls.length
  · rw [List.getElem?_append_left (by rw [h.1]; exact h2), List.getElem?_append_left h2, ← List.getD_eq_getElem?_getD, ← List.getD_eq_getElem?_getD]
    exact h.2 i h2
  · have : i = ls.length := by simp at hi; omega
    subst this
    rw [← h.1, List.getElem?_concat_length, h.1, List.getElem?_concat_length]
    exact hv
theorem Each.cons {D : Nat → Prop} {w : World} {vs : List Value} {ls : List (List UInt8)} {v : Value} {l : List UInt8} (h : Each D w (v :: vs) (l :: ls)) : Bt D w v l ∧ Each D w vs ls :=
  ⟨h.2 0 (by simp), by simpa using h.1, fun i hi => by simpa using h.2 (i + 1) (by simpa using hi)⟩
theorem Each.mk_cons {D : Nat → Prop} {w : World} {vs : List Value} {ls : List (List UInt8)} {v : Value} {l : List UInt8} (h1 : Bt D w v l) (h : Each D w vs ls) : Each D w (v :: vs) (l :: ls) :=
  ⟨by simp [h.1], fun i hi => by
    cases i with
    | zero => exact h1
    | succ i => simpa using h.2 i (by simpa using hi)⟩
theorem Each.drop {D : Nat → Prop} {w : World} {vs : List Value} {ls : List (List UInt8)} (h : Each D w vs ls) (k : Nat) : Each D w (vs.drop k) (ls.drop k) := by
  refine ⟨by simp [h.1], fun i hi => ?_⟩
  have := h.2 (k + i) (by simp at hi; omega)
  simpa [List.getD_eq_getElem?_getD, List.getElem?_drop] using this
theorem Each.take {D : Nat → Prop} {w : World} {vs : List Value} {ls : List (List UInt8)} (h : Each D w vs ls) (k : Nat) : Each D w (vs.take k) (ls.take k) := by
  refine ⟨by simp [h.1], fun i hi => ?_⟩
  have h1 : i < k ∧ i < ls.length := by simp at hi; omega
  have := h.2 i h1.2
  simpa [List.getD_eq_getElem?_getD, List.getElem?_take, h1.1] using this
theorem Each.ones {D : Nat → Prop} {w : World} {vs : List Value} {ls : List (List UInt8)} (h : Each D w vs ls) : ∀ u ∈ vs, u.oneCell' = true := by
  intro u hu
  obtain ⟨i, hi, rfl⟩ := List.getElem_of_mem hu
  have := (h.2 i (by rw [← h.1]; exact hi)).one
  rwa [List.getD_eq_getElem?_getD, List.getElem?_eq_getElem hi] at this
theorem own_stays {w w' : World} {base : Nat} {e : TypeId} {size n : Nat} {v : Value} {xs : List Value} (h : w.ownsRow base e size v n xs) (hs : Stays (fun k => v.ownBlock = some k) w w') : w'.ownsRow base e size v n xs := by
  refine ⟨h.1, ?_⟩
  rcases h.2 with h2 | ⟨g, cap, cur, hv, hg, hh, r⟩
  · exact .inl h2
  · refine .inr ⟨g, cap, cur, hv, hg, ?_, r⟩
    rw [hs g (Array.getElem?_eq_some_iff.1 hh).1 (by rw [hv]; rfl)]
    exact hh
theorem own_up {w : World} {base base' : Nat} {e : TypeId} {size n : Nat} {v : Value} {xs : List Value} (h : w.ownsRow base e size v n xs) (hb : ∀ k, v.ownBlock = some k → base' ≤ k) : w.ownsRow base' e size v n xs := by
  refine ⟨h.1, ?_⟩
  rcases h.2 with h2 | ⟨g, cap, cur, hv, hg, hr⟩
  · exact .inl h2
  · exact .inr ⟨g, cap, cur, hv, hb g (by rw [hv]; rfl), hr⟩
theorem inf28 : (Try.prog.info? 28).map (fun i => (i.zero, i.size, i.bytes)) = some (some (.slice none 0 0), 1, 24) := by kernel_rfl
end Go.Proofs.Ytopppkafbbfobaa.W
