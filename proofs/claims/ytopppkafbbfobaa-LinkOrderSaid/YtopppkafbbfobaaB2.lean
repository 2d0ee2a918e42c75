/- Words on memory: whole arrays and structs read and written. -/
import Derived.Test.YtopppkafbbfobaaB1
import Derived.Deep.WholeRow
namespace Go.Proofs.Ytopppkafbbfobaa.W
open Go.RowKit
def aggD : TypeDesc → Bool
  | .struct _ | .array _ _ => true
  | _ => false
section
variable {P : Program}
/-- A whole array or struct, read wherever it lies. -/
theorem run_loadVar_agg (w : World) (b off : Nat) (ty : TypeId) (cs : List Value) (d : TypeDesc) (hc : ∀ j u, cs[j]? = some u → w.cell? ⟨b, off + j, none⟩ = some u)
    (hu : P.underlying ty = some d) (hd : aggD d = true) (hi : (P.info? ty).map (·.size) = some cs.length) :
    (loadVar ty ⟨b, off, none⟩).run P w = .ok (.agg cs.toArray) w := by
  have hl : (loadCells ⟨b, off, none⟩ cs.length).run P w = .ok cs.toArray w :=
    run_loadCells_list (P := P) w ⟨b, off, none⟩ cs (fun j v hv => by
      have hadd : (⟨b, off, none⟩ : Addr).add j = ⟨b, off + j, none⟩ := by unfold Addr.add; split <;> simp_all
      rw [hadd]
      exact hc j v hv)
  cases hq : P.info? ty with
  | none => simp [hq] at hi
  | some i =>
    have hs : i.size = cs.length := by simpa [hq] using hi
    have hagg : (isAgg ty).run P w = .ok true w := by
      unfold isAgg
      rw [Sem.run_bind, run_underlying hu w]
      cases d <;> simp_all [aggD]
    simp [loadVar, Sem.run_bind, hagg, sizeOf, typeInfo, hq, hs, hl]
theorem wp_load_agg {ops : Array Oper} {rest : List Oper} {o : Oper} {a : Act} {w : World} {Q : Exit → Act → World → Prop} (hgd : Region.wanted o (yielded ops a.tmps) = true) (ty : TypeId) (x : Operand) (ho : o.op = .load ty x)
    (b off : Nat) (hx : a.eval x = .pointer (some ⟨b, off, none⟩)) (cs : List Value) (d : TypeDesc) (hc : ∀ j u, cs[j]? = some u → w.cell? ⟨b, off + j, none⟩ = some u)
    (hu : P.underlying ty = some d) (hd : aggD d = true) (hi : (P.info? ty).map (·.size) = some cs.length)
    (h : wpList P ops Q rest (a.put o.dst (.agg cs.toArray)) w) : wpList P ops Q (o :: rest) a w := by
  refine wpList_wanted hgd fun K hK => ?_
  unfold Oper.wp execOp
  simp only [ho, hx, Instr.loadAt, Instr.sureAddr, Sem.run_bind, Sem.run_pure, Result.andThen_ok, run_loadVar_agg w b off ty cs d hc hu hd hi]
  exact hK _ _ h
/-- A whole array or struct, stored into a block that has just been made. -/
theorem wp_store_new {ops : Array Oper} {rest : List Oper} {o : Oper} {a : Act} {w : World} {e : TypeId} {old : Array Value} {Q : Exit → Act → World → Prop} (hgd : Region.wanted o (yielded ops a.tmps) = true) (ty : TypeId) (x y : Operand) (ho : o.op = .store ty x y)
    (cells : Array Value) (hx : a.eval x = .pointer (some ⟨w.heap.size, 0, none⟩)) (hy : a.eval y = .agg cells)
    (hi : (P.info? ty).map (·.size) = some cells.size) (hold : old.size = cells.size) (h1 : cells.all (·.oneCell') = true)
    (h : wpList P ops Q rest (a.put o.dst undef) (w.alloc (.cells cells e))) : wpList P ops Q (o :: rest) a (w.alloc (.cells old e)) := by
  refine wpList_wanted hgd fun K hK => wp_store_row ty x y ho w.heap.size cells hx hy e old (heap_alloc_new w _) hi hold h1 ?_
  rw [World.setRow_alloc_new]
  exact hK _ _ h
end
theorem fold_set (l : List Value) : ∀ (k : Nat) (z : Array Value), k + l.length ≤ z.size →
    ((l.zipIdx k).foldl (fun (cs : Array Value) (p : Value × Nat) => cs.setIfInBounds p.2 p.1) z).size = z.size ∧
    ∀ i, ((l.zipIdx k).foldl (fun (cs : Array Value) (p : Value × Nat) => cs.setIfInBounds p.2 p.1) z)[i]? = if k ≤ i ∧ i < k + l.length then l[i - k]? else z[i]? := by
  induction l with
  | nil => intro k z _; simp; intro i h1 h2; omega
  | cons a l ih =>
    intro k z hz
    simp only [List.length_cons] at hz
    obtain ⟨h1, h2⟩ := ih (k + 1) (z.setIfInBounds k a) (by simp; omega)
    simp only [List.zipIdx_cons, List.foldl_cons]
    refine ⟨by rw [h1]; simp, fun i => ?_⟩
    rw [h2 i, List.length_cons]
    by_cases hik : i = k
    · subst hik
      rw [if_neg (by omega), if_pos (by omega), Array.getElem?_setIfInBounds_self_of_lt (by omega)]
      simp
    · rw [Array.getElem?_setIfInBounds_ne (by omega)]
      by_cases hc : k + 1 ≤ i ∧ i < k + 1 + l.length
      · rw [if_pos hc, if_pos (by omega)]
        obtain ⟨q, hq⟩ : ∃ q, i - k = q + 1 := ⟨i - k - 1, by omega⟩
        rw [hq, List.getElem?_cons_succ]
        congr 1
        omega
      · rw [if_neg hc, if_neg (by omega)]
theorem fold_all (cells z : Array Value) (h : z.size = cells.size) : (cells.zipIdx).foldl (fun (cs : Array Value) (p : Value × Nat) => cs.setIfInBounds (0 + p.2) p.1) z = cells := by
  obtain ⟨h1, h2⟩ := fold_set cells.toList 0 z (by simp [h])
  have e : (cells.zipIdx).foldl (fun (cs : Array Value) (p : Value × Nat) => cs.setIfInBounds (0 + p.2) p.1) z = (cells.toList.zipIdx 0).foldl (fun (cs : Array Value) (p : Value × Nat) => cs.setIfInBounds p.2 p.1) z := by
    rw [← Array.foldl_toList]
    simp
  rw [e]
  apply Array.ext_getElem?
  intro i
  rw [h2 i]
  by_cases hi : i < cells.size
  · rw [if_pos (by simp; omega)]; simp
  · rw [if_neg (by simp; omega), Array.getElem?_eq_none (by omega), Array.getElem?_eq_none (by omega)]
section
variable {P : Program}
/-- The making of a slice of one array or struct. -/
theorem wp_slice1 {ops : Array Oper} {rest : List Oper} {o : Oper} {a : Act} {w : World} {Q : Exit → Act → World → Prop} (hgd : Region.wanted o (yielded ops a.tmps) = true) (t e : TypeId) (x : Operand) (ho : o.op = .buildSlice t 1 #[(0, x)])
    (cells : Array Value) (hx : a.eval x = .agg cells) (z : Value) (bytes : Nat) (hu : P.underlying t = some (.slice e))
    (hinfo : (P.info? e).map (fun i => (i.zero, i.size, i.bytes)) = some (some z, cells.size, bytes)) (h0 : 0 < cells.size) (hs : cells.size ≤ 16777216)
    (h : wpList P ops Q rest (a.put o.dst (.slice (some ⟨w.heap.size, 0, none⟩) 1 1)) (w.alloc (.cells cells e))) : wpList P ops Q (o :: rest) a w := by
  refine wpList_wanted hgd fun K hK => ?_
  obtain ⟨i, hi, hz1, hz2, hz3⟩ := info_parts hinfo
  have hf : Instr.fill (fun j => some (j * i.size, i.size)) ((Array.range (1 * i.size)).map (z.cells[· % z.cells.size]!)) [(0, Value.agg cells)] = some cells := by
    rw [Instr.fill]
    simp only [Nat.zero_mul, Value.cells]
    rw [if_neg (by simp [hz2])]
    rw [Instr.fill]
    congr 1
    exact fold_all cells _ (by simp [hz2])
  have hr : (Instr.buildSlice t 1 #[(0, Value.agg cells)]).run P w = .ok (.slice (some ⟨w.heap.size, 0, none⟩) 1 1) (w.alloc (.cells cells e)) := by
    simp only [Instr.buildSlice, Sem.run_bind, run_underlying hu]
    simp only [Nat.one_mul] at hf
    have hn1 : ¬ i.size = 0 := by omega
    have hn2 : ¬ 2 ^ 24 < i.size := by omega
    simp [sizeOf, typeInfo, zeroValue, hi, hz1, hn1, hn2, hf, newRow]
  unfold Oper.wp execOp
  simp only [ho, List.map_toArray, List.map_cons, List.map_nil, hx, Sem.run_bind, hr, Result.andThen_ok]
  exact hK _ _ h
/-- A slice taken for an array. -/
theorem wp_arr {ops : Array Oper} {rest : List Oper} {o : Oper} {a : Act} {w : World} {Q : Exit → Act → World → Prop} (hgd : Region.wanted o (yielded ops a.tmps) = true) (t : TypeId) (x : Operand) (ho : o.op = .sliceToArrayPointer t x)
    (A : Option Addr) (len c n : Nat) (e : TypeId) (hx : a.eval x = .slice A len c) (hu : P.underlying t = some (.array n e)) (hl : n ≤ len)
    (h : wpList P ops Q rest (a.put o.dst (.pointer A)) w) : wpList P ops Q (o :: rest) a w := by
  refine wpList_wanted hgd fun K hK => ?_
  have hr : (Instr.arrayAt t (.slice A len c)).run P w = .ok (.pointer A) w := by
    have hn : ¬ len < n := by omega
    simp [Instr.arrayAt, run_underlying hu, hn]
  unfold Oper.wp execOp
  simp only [ho, hx, Sem.run_bind, hr, Result.andThen_ok]
  exact hK _ _ h
end
theorem rd_block (W : World) (cs : List Value) (e : TypeId) (h : cs.length ≤ 9223372036854775807) : Rd (W.alloc (.cells cs.toArray e)) (some ⟨W.heap.size, 0, none⟩) cs := by
  refine ⟨h, fun _ => ⟨W.heap.size, 0, rfl, fun j u hu => ?_⟩⟩
  have := World.cell?_alloc_at (w := W) cs.toArray e W.heap.size j rfl
  rw [Nat.zero_add, this]
  simpa using hu
theorem bv_all (l : List UInt8) : (bv l).toArray.all (·.oneCell') = true := by
  rw [Array.all_eq_true_iff_forall_mem]
  intro u hu
  exact bv_one l u (by simpa using hu)
/-- The cells of digests. -/
def dv (l : List (List UInt8)) : List Value := bv l.flatten
def D16 (l : List (List UInt8)) : Prop := ∀ d ∈ l, d.length = 16
theorem flatten16 (l : List (List UInt8)) (h : D16 l) : l.flatten.length = l.length * 16 := by
  induction l with
  | nil => rfl
  | cons a l ih =>
    have h1 := h a (List.mem_cons_self ..)
    have h2 := ih (fun d hd => h d (List.mem_cons_of_mem _ hd))
    simp only [List.flatten_cons, List.length_append, List.length_cons]
    omega
theorem dv_length (l : List (List UInt8)) (h : D16 l) : (dv l).length = l.length * 16 := by rw [dv, bv_length, flatten16 l h]
theorem dv_append (a b : List (List UInt8)) : dv (a ++ b) = dv a ++ dv b := by simp [dv, bv]
theorem dv_at (l : List (List UInt8)) (h : D16 l) (k : Nat) (hk : k < l.length) : ∀ j u, (bv (l.getD k []))[j]? = some u → (dv l)[k * 16 + j]? = some u := by
  intro j u hu
  have hlen : (l.getD k []).length = 16 := h _ (by rw [List.getD_eq_getElem?_getD, List.getElem?_eq_getElem hk]; exact List.getElem_mem _)
  have hj : j < 16 := by
    have := (List.getElem?_eq_some_iff.1 hu).1
    rw [bv_length, hlen] at this
    exact this
  have hsplit : dv l = dv (l.take k) ++ (bv (l.getD k []) ++ dv (l.drop (k + 1))) := by
    conv => lhs; rw [← List.take_append_drop k l, dv_append, List.drop_eq_getElem_cons hk]
    rw [show l.getD k [] = l[k] from by simp [List.getD_eq_getElem?_getD, List.getElem?_eq_getElem hk]]
    simp only [dv, List.flatten_cons, bv_append]
  have ht : (dv (l.take k)).length = k * 16 := by
    rw [dv_length _ (fun d hd => h d (List.mem_of_mem_take hd)), List.length_take, Nat.min_eq_left (by omega)]
  rw [hsplit, List.getElem?_append_right (by omega), ht, Nat.add_sub_cancel_left, List.getElem?_append_left (by rw [bv_length, hlen]; exact hj)]
  exact hu
theorem info90 : (Try.prog.info? 90).map (fun i => (i.zero, i.size, i.bytes)) = some (some (.agg #[.int .u8 0, .int .u8 0, .int .u8 0, .int .u8 0, .int .u8 0, .int .u8 0, .int .u8 0, .int .u8 0, .int .u8 0, .int .u8 0, .int .u8 0, .int .u8 0, .int .u8 0, .int .u8 0, .int .u8 0, .int .u8 0]), 16, 16) := by kernel_rfl
theorem inf90 : (Try.prog.info? 90).map (·.size) = some 16 := by kernel_rfl
end Go.Proofs.Ytopppkafbbfobaa.W
