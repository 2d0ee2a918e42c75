/- Rows of slices that a call makes, and what came since its start. -/
import Derived.Test.YtopppkafbbfobaaM3
namespace Go.Proofs.Ytopppkafbbfobaa.W
open Go.RowKit
/-- A row of slices of the call's own, and what they read as. -/
def Rows (P : Nat → Prop) (B : Nat) (w : World) (v : Value) (vs : List Value) (ls : List Bs) : Prop :=
  w.ownsRow B 28 1 v vs.length vs ∧ Each (fun k => P k ∧ v.ownBlock ≠ some k) w vs ls
theorem Rows.nil (P : Nat → Prop) (B : Nat) (w : World) : Rows P B w (.slice none 0 0) [] [] := ⟨World.ownsRow_nil _ _ _ _, Each.nil _ _⟩
theorem Rows.stays {P : Nat → Prop} {B : Nat} {w w' : World} {v : Value} {vs : List Value} {ls : List Bs} (h : Rows P B w v vs ls) (hs : Stays (fun k => P k ∨ v.ownBlock = some k) w w') : Rows P B w' v vs ls :=
  ⟨own_stays h.1 fun k hk e => hs k hk (.inr e), h.2.stays fun k hk e => hs k hk (.inl e.1)⟩
theorem Rows.below {P : Nat → Prop} {B : Nat} {w w' : World} {v : Value} {vs : List Value} {ls : List Bs} (h : Rows P B w v vs ls) (hb : Below w.heap.size w w') : Rows P B w' v vs ls :=
  h.stays (Stays.of_new hb)
theorem Rows.mono {P P' : Nat → Prop} {B : Nat} {w : World} {v : Value} {vs : List Value} {ls : List Bs} (h : Rows P B w v vs ls) (hp : ∀ k, k < w.heap.size → P k → P' k) : Rows P' B w v vs ls :=
  ⟨h.1, h.2.mono fun k hk e => ⟨hp k hk e.1, e.2⟩⟩
/-- One slice more. -/
theorem Rows.push {P : Nat → Prop} {B g cap : Nat} {w w2 : World} {v vn : Value} {vs : List Value} {ls : List Bs} {b : Bs} (h : Rows P B w v vs ls) (hn : Bt (fun k => P k ∧ v.ownBlock ≠ some k) w vn b)
    (ho : w2.ownsRow 0 28 1 (.slice (some ⟨g, 0, none⟩) (vs.length + 1) cap) (vs.length + 1) (vs ++ [vn])) (hg : w.grownBy w2 v.ownBlock) (hat : v.ownBlock = some g ∨ w.heap.size < g) (hB : B ≤ w.heap.size) :
    Rows P B w2 (.slice (some ⟨g, 0, none⟩) (vs.length + 1) cap) (vs ++ [vn]) (ls ++ [b]) := by
  have hst : Stays (fun k => (P k ∧ v.ownBlock ≠ some k) ∧ k < w.heap.size) w w2 := fun k hk e => hg.block k hk (fun e' => e.1.2 e'.symm)
  have hmono : ∀ k, k < w2.heap.size → ((P k ∧ v.ownBlock ≠ some k) ∧ k < w.heap.size) → (P k ∧ Value.ownBlock (.slice (some ⟨g, 0, none⟩) (vs.length + 1) cap) ≠ some k) := fun k _ e => ⟨e.1.1, fun e' => by
    simp only [Value.ownBlock, Option.some.injEq] at e'
    rcases hat with hat | hat
    · exact e.1.2 (by rw [hat, e'])
    · omega⟩
  have hup : w2.ownsRow B 28 1 (.slice (some ⟨g, 0, none⟩) (vs.length + 1) cap) (vs.length + 1) (vs ++ [vn]) := own_up ho fun k e => by
    simp only [Value.ownBlock, Option.some.injEq] at e
    rcases hat with hat | hat
    · exact (h.1.lt k (by rw [hat, e])).1
    · omega
  exact ⟨by simpa using hup, ((h.2.mono (fun k hk e => ⟨e, hk⟩)).stays hst).mono hmono |>.snoc (((hn.mono (fun k hk e => ⟨e, hk⟩)).stays hst).mono hmono)⟩
theorem rd_drew' {w : World} {A : Option Addr} {xs : List Value} (h : Rd w A xs) : Rd w.drew A xs := h
theorem below_undrew' {B : Nat} {w w' : World} (h : Below B w.drew w') : Below B w w' := ⟨h.os, h.tape, h.output, h.size, h.block⟩
theorem since_grown {w0 w w2 : World} {row : Option Nat} (h : Below w0.heap.size w0 w) (hg : w.grownBy w2 row) (hr : ∀ k, row = some k → w0.heap.size ≤ k) : Below w0.heap.size w0 w2 := h.grown hg h.size hr
theorem since_call {w0 w w2 : World} (h : Below w0.heap.size w0 w) (k : Below w.heap.size w w2) : Below w0.heap.size w0 w2 := below_trans h k h.size
theorem since_alloc {w0 w : World} (h : Below w0.heap.size w0 w) (o : Obj) : Below w0.heap.size w0 (w.alloc o) := h.alloc h.size o
theorem since_dr {w0 w : World} (h : Below w0.heap.size w0 w) : Below w0.heap.size w0 w.drew := ⟨h.os, h.tape, h.output, h.size, h.block⟩
/-- Bytes of a call's own, in new memory. -/
theorem Bt.fresh {w : World} {v : Value} {l : Bs} {B : Nat} (h : w.ownsRow B 5 1 v l.length (bv l)) (hl : l.length ≤ 9223372036854775807) : Bt (fun k => B ≤ k) w v l :=
  (Bt.of_own h hl).mono fun k _ e => (h.lt k e).1
end Go.Proofs.Ytopppkafbbfobaa.W
