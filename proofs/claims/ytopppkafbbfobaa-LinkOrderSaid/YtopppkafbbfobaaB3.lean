/- Words on memory: appends onto a slice without spare room. -/
import Derived.Test.YtopppkafbbfobaaB2
namespace Go.Proofs.Ytopppkafbbfobaa.W
open Go.RowKit
theorem cutAt_zero (A : Option Addr) (c sz : Nat) : cutAt A c 0 sz = A := by
  unfold cutAt
  split
  · rfl
  · cases A with
    | none => rfl
    | some a => simp [Addr.add]
section
variable {P : Program} {t e : TypeId} {sz : Nat} (ht : P.underlying t = some (.slice e)) (hsz : P.cellsOf e = sz) (hi0 : (P.info? e).isSome = true)
include ht hsz hi0
/-- x[:h:m]. -/
theorem run_cut3 (A : Option Addr) (n c : Nat) (h m : Int) (h0 : 0 ≤ h) (h1 : h ≤ m) (h2 : m ≤ c) (W : World) :
    (Instr.sliceAt t (.slice A n c) none (some (.int .i64 h)) (some (.int .i64 m))).run P W = .ok (.slice A h.toNat m.toNat) W := by
  have he : P.elem t = e := by simp [Program.elem, ht]
  have ht' : P.underlying t = some (.slice (P.elem t)) := by rw [he]; exact ht
  rw [run_sliceAt_slice W t _ _ _ _ ht', run_slice_hm W t A n c ht' _ _ h m h0 h1 h2, he, run_sizeOf hsz hi0]
  have := cutAt_zero A m.toNat sz
  unfold cutAt at this
  simp only [Result.andThen_ok, sliced, this, Nat.sub_zero]
end
theorem below_alloc_drew (w : World) (o : Obj) : Below w.heap.size w (w.drew.alloc o) := (Below.refl _ _).drew.alloc (Nat.le_refl _) o
section
variable {P : Program}
theorem run_appf {w : World} (t ty e : TypeId) (z : Value) (size bytes : Nat) (ht : P.underlying t = some (.slice e))
    (hinfo : (P.info? e).map (fun i => (i.zero, i.size, i.bytes)) = some (some z, size, bytes)) (hsz : 0 < size) (A : Option Addr) (n : Nat) (xs : List Value) (hx : Rd w A xs) (hxl : xs.length = n * size) (hn : 0 < n)
    (B : Option Addr) (m c : Nat) (news : List Value) (hl : news.length = m * size) (hR : Rd w B news) (hm : n + m ≤ 140737488355328) (hbytes : (n + m) * bytes ≤ 140737488355328) (hcells : (n + m) * size ≤ 9223372036854775807) :
    ∃ A' c' w', (Builtin.append_ #[t, t] ty #[.slice A n n, .slice B m c]).run P w = .ok (.slice A' (n + m) c') w' ∧ Rd w' A' (xs ++ news) ∧ n + m ≤ c' ∧ Below w.heap.size w w' := by
  obtain ⟨i, hi, hz, hs, hb⟩ := info_parts hinfo
  have hpos : 0 < xs.length := by rw [hxl]; exact Nat.mul_pos hn hsz
  rcases Nat.eq_zero_or_pos m with h0 | h0
  · subst h0
    have : news = [] := List.eq_nil_of_length_eq_zero (by simpa using hl)
    subst this
    obtain ⟨b, off, rfl, _⟩ := hx.2 hpos
    refine ⟨_, n, w, ?_, by simpa using hx, by omega, Below.refl _ _⟩
    cases B <;> simp [Builtin.append_, run_underlying ht, sizeOf, typeInfo, hi, Builtin.lenOf, Builtin.firstCells, storeCells, loadCells, loadCellsFrom]
  · have hposn : 0 < news.length := by rw [hl]; exact Nat.mul_pos h0 hsz
    obtain ⟨b, off, rfl, hc⟩ := hx.2 hpos
    obtain ⟨b2, off2, rfl, hc2⟩ := hR.2 hposn
    have had : ∀ (b off j : Nat), (⟨b, off, none⟩ : Addr).add j = ⟨b, off + j, none⟩ := fun b off j => by unfold Addr.add; split <;> simp_all
    have hr := run_append_grow (P := P) w t ty e i z ht hi hz ⟨b, off, none⟩ n n xs (by rw [hs]; exact hxl) (fun j u hu => by rw [had]; exact hc j u hu) ⟨b2, off2, none⟩ m c news (by rw [hs]; exact hl) (fun j u hu => by rw [had]; exact hc2 j u hu)
      (by omega) (by omega) (growslice_fits (by omega) (by rw [hb]; exact hbytes))
    have hlen : (xs ++ news).length ≤ 9223372036854775807 := by
      rw [List.length_append, hxl, hl, ← Nat.add_mul]
      exact hcells
    refine ⟨_, _, _, hr, ⟨hlen, fun _ => ⟨w.heap.size, 0, rfl, fun j u hu => ?_⟩⟩, grownCap_ge _ _ _ _, below_alloc_drew w _⟩
    rw [cell_of_row _ w.heap.size (0 + j) _ e (0, 0) (heap_alloc_new w.drew _)]
    have hj := (List.getElem?_eq_some_iff.1 hu).1
    rw [Nat.zero_add]
    rw [Array.getElem?_append_left (by simpa using hj)]
    simpa using hu
/-- append onto a slice without spare room, in the walk. -/
theorem wp_appf {ops : Array Oper} {rest : List Oper} {o : Oper} {a : Act} {Q : Exit → Act → World → Prop} {w : World} (hgd : Region.wanted o (yielded ops a.tmps) = true) (s x : Operand) (t : TypeId)
    (ho : o.op = .call { callee := .builtin .append, args := #[s, x], argTypes := #[t, t] })
    (e : TypeId) (z : Value) (size bytes : Nat) (ht : P.underlying t = some (.slice e))
    (hinfo : (P.info? e).map (fun i => (i.zero, i.size, i.bytes)) = some (some z, size, bytes)) (hsz : 0 < size)
    (A : Option Addr) (n : Nat) (xs : List Value) (hs : a.eval s = .slice A n n) (hX : Rd w A xs) (hxl : xs.length = n * size) (hn : 0 < n)
    (B : Option Addr) (m c : Nat) (news : List Value) (hx : a.eval x = .slice B m c) (hl : news.length = m * size) (hR : Rd w B news)
    (hm : n + m ≤ 140737488355328) (hbytes : (n + m) * bytes ≤ 140737488355328) (hcells : (n + m) * size ≤ 9223372036854775807)
    (h : ∀ A' c' w', Rd w' A' (xs ++ news) → n + m ≤ c' → Below w.heap.size w w' → wpList P ops Q rest (a.put o.dst (.slice A' (n + m) c')) w') : wpList P ops Q (o :: rest) a w := by
  obtain ⟨A', c', w', hr, h2, h3, h4⟩ := run_appf (P := P) t o.type e z size bytes ht hinfo hsz A n xs hX hxl hn B m c news hl hR hm hbytes hcells
  refine wpList_wanted hgd fun K hK => ?_
  unfold Oper.wp execOp
  simp only [ho, resolve, invoke, builtin, Sem.run_bind, Sem.run_pure, Result.andThen_ok, List.map_toArray, List.map_cons, List.map_nil, hs, hx, hr]
  exact hK _ _ (h A' c' w' h2 h3 h4)
end
end Go.Proofs.Ytopppkafbbfobaa.W
