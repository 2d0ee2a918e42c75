/- The held messages of an end: a map of integers to slices, entry by entry. -/
import Derived.Test.YtopppkafbbfobaaM0
import Derived.Maps.Keyed
import Derived.Maps.Range
namespace Go.Proofs.Ytopppkafbbfobaa.W
open Go.RowKit
open Go.ChangeMaps (setBlock)
open Go.MapKept (Stamped stamped_iff)

/-- Held messages in memory, one by one: the number and the bytes. -/
def HB (D : Nat → Prop) (w : World) : List (Nat × Value) → List (Nat × Bs) → Prop
  | [], [] => True
  | p :: L, q :: H => p.1 = q.1 ∧ Bt D w p.2 q.2 ∧ HB D w L H
  | _, _ => False
theorem HB.stays {D : Nat → Prop} {w w' : World} : ∀ {L : List (Nat × Value)} {H : List (Nat × Bs)}, HB D w L H → Stays D w w' → HB D w' L H
  | [], [], _, _ => trivial
  | _ :: _, _ :: _, h, s => ⟨h.1, h.2.1.stays s, h.2.2.stays s⟩
  | [], _ :: _, h, _ => h.elim
  | _ :: _, [], h, _ => h.elim
theorem HB.mono {D D' : Nat → Prop} {w : World} : ∀ {L : List (Nat × Value)} {H : List (Nat × Bs)}, HB D w L H → (∀ k, k < w.heap.size → D k → D' k) → HB D' w L H
  | [], [], _, _ => trivial
  | _ :: _, _ :: _, h, s => ⟨h.1, h.2.1.mono s, h.2.2.mono s⟩
  | [], _ :: _, h, _ => h.elim
  | _ :: _, [], h, _ => h.elim
theorem HB.snoc {D : Nat → Prop} {w : World} {k : Nat} {v : Value} {b : Bs} (hv : Bt D w v b) : ∀ {L : List (Nat × Value)} {H : List (Nat × Bs)}, HB D w L H → HB D w (L ++ [(k, v)]) (H ++ [(k, b)])
  | [], [], _ => ⟨rfl, hv, trivial⟩
  | _ :: _, _ :: _, h => ⟨h.1, h.2.1, HB.snoc hv h.2.2⟩
  | [], _ :: _, h => h.elim
  | _ :: _, [], h => h.elim
theorem HB.drop {D : Nat → Prop} {w : World} (k : Nat) : ∀ {L : List (Nat × Value)} {H : List (Nat × Bs)}, HB D w L H → HB D w (L.eraseP fun p => p.1 == k) (dropH k H)
  | [], [], _ => trivial
  | p :: L, q :: H, h => by
    unfold dropH
    rw [List.eraseP_cons, List.eraseP_cons, h.1]
    cases q.1 == k
    · exact ⟨h.1, h.2.1, HB.drop k h.2.2⟩
    · exact h.2.2
  | [], _ :: _, h => h.elim
  | _ :: _, [], h => h.elim
theorem HB.find {D : Nat → Prop} {w : World} (k : Nat) : ∀ {L : List (Nat × Value)} {H : List (Nat × Bs)}, HB D w L H →
    (findH k H = none ∧ L.find? (fun p => p.1 == k) = none) ∨ ∃ b v, findH k H = some b ∧ L.find? (fun p => p.1 == k) = some (k, v) ∧ Bt D w v b
  | [], [], _ => .inl ⟨rfl, rfl⟩
  | p :: L, q :: H, h => by
    unfold findH
    rw [List.find?_cons, List.find?_cons, h.1]
    cases hk : q.1 == k
    · simpa [findH] using HB.find k h.2.2
    · refine .inr ⟨q.2, p.2, rfl, ?_, h.2.1⟩
      have : p.1 = k := by rw [h.1]; simpa using hk
      rw [← this]
  | [], _ :: _, h => h.elim
  | _ :: _, [], h => h.elim
theorem HB.length {D : Nat → Prop} {w : World} : ∀ {L : List (Nat × Value)} {H : List (Nat × Bs)}, HB D w L H → L.length = H.length
  | [], [], _ => rfl
  | _ :: _, _ :: _, h => by rw [List.length_cons, List.length_cons, h.2.2.length]
  | [], _ :: _, h => h.elim
  | _ :: _, [], h => h.elim
theorem HB.keys {D : Nat → Prop} {w : World} : ∀ {L : List (Nat × Value)} {H : List (Nat × Bs)}, HB D w L H → L.map (·.1) = H.map (·.1)
  | [], [], _ => rfl
  | _ :: _, _ :: _, h => by rw [List.map_cons, List.map_cons, h.1, h.2.2.keys]
  | [], _ :: _, h => h.elim
  | _ :: _, [], h => h.elim

def ent (p : Nat × Value) : Value × Value := (.int .i64 (p.1 : Int), p.2)
/-- Block b is a map with these entries. -/
def HeldAt (w : World) (b : Nat) (L : List (Nat × Value)) : Prop :=
  ∃ es clock, w.heap[b]? = some (.map es clock) ∧ Stamped es clock ∧ es.toList.map (fun x => (x.key, x.val)) = L.map ent ∧ ∀ p ∈ L, p.1 ≤ 9223372036854775807
theorem HeldAt.stays {w w' : World} {b : Nat} {L : List (Nat × Value)} (h : HeldAt w b L) (hs : w'.heap[b]? = w.heap[b]?) : HeldAt w' b L := by
  obtain ⟨es, clock, hb, r⟩ := h
  exact ⟨es, clock, hs.trans hb, r⟩
theorem HeldAt.lt {w : World} {b : Nat} {L : List (Nat × Value)} (h : HeldAt w b L) : b < w.heap.size := by
  obtain ⟨es, clock, hb, _⟩ := h
  exact lt_of_block hb
theorem stamped_nil : Stamped #[] 0 := by rw [MapKept.stamped_iff]; simp
theorem HeldAt.made (w : World) : HeldAt (w.alloc (.map #[] 0)) w.heap.size [] := ⟨#[], 0, heap_alloc_new w _, stamped_nil, rfl, by simp⟩
theorem K3 : Go.Maps.Keyed Try.prog 3 := Go.Maps.int_keyed Try.underlying3
theorem key3 {k : Nat} (h : k ≤ 9223372036854775807) : ∃ l, keyOf Try.prog 3 (.int .i64 (k : Int)) = some l := by
  have h1 : IntKind.i64.min = -9223372036854775808 := by decide
  have h2 : IntKind.i64.max = 9223372036854775807 := by decide
  exact ⟨_, Go.Maps.keyOf_int_mk Try.underlying3 (by simp [Lit.wf, h1, h2]; omega)⟩
theorem ent_mem {es : List MapEntry} {L : List (Nat × Value)} (h : es.map (fun x => (x.key, x.val)) = L.map ent) {x : MapEntry} (hx : x ∈ es) : ∃ p ∈ L, x.key = .int .i64 (p.1 : Int) ∧ x.val = p.2 := by
  have : (x.key, x.val) ∈ L.map ent := by rw [← h]; exact List.mem_map.2 ⟨x, hx, rfl⟩
  obtain ⟨p, hp, e⟩ := List.mem_map.1 this
  unfold ent at e
  simp only [Prod.mk.injEq] at e
  exact ⟨p, hp, e.1.symm, e.2.symm⟩
theorem mem_ent {es : List MapEntry} {L : List (Nat × Value)} (h : es.map (fun x => (x.key, x.val)) = L.map ent) {p : Nat × Value} (hp : p ∈ L) : ∃ x ∈ es, x.key = .int .i64 (p.1 : Int) ∧ x.val = p.2 := by
  have : ent p ∈ es.map (fun x => (x.key, x.val)) := by rw [h]; exact List.mem_map.2 ⟨p, hp, rfl⟩
  obtain ⟨x, hx, e⟩ := List.mem_map.1 this
  unfold ent at e
  simp only [Prod.mk.injEq] at e
  exact ⟨x, hx, e.1, e.2⟩
theorem ent_keys {es : Array MapEntry} {L : List (Nat × Value)} (h : es.toList.map (fun x => (x.key, x.val)) = L.map ent) (hL : ∀ p ∈ L, p.1 ≤ 9223372036854775807) : ∀ e ∈ es.toList, ∃ l, keyOf Try.prog 3 e.key = some l := fun e he => by
  obtain ⟨p, hp, e1, _⟩ := ent_mem h he
  rw [e1]
  exact key3 (hL p hp)
/-- The look-up: nothing there. -/
theorem HeldAt.look_none {w : World} {b : Nat} {L : List (Nat × Value)} (h : HeldAt w b L) {k : Nat} (hk : k ≤ 9223372036854775807) (hf : L.find? (fun p => p.1 == k) = none) :
    (Instr.lookup 99 (.map (some b)) (.int .i64 (k : Int)) true).run Try.prog w = .ok (.tuple #[.slice none 0 0, .bool false]) w := by
  obtain ⟨es, clock, hb, hs, hE, hL⟩ := h
  obtain ⟨l, hl⟩ := key3 hk
  rcases K3.find w hl es.toList (ent_keys hE hL) with ⟨h1, h2⟩ | ⟨j, e0, h1, h2, h3⟩
  · have hz : (zeroValue 28).run Try.prog w = .ok (.slice none 0 0) w := by kernel_rfl
    simp [Instr.lookup, run_underlying Try.underlying99, MapKept.run_getObj_map hb, K3.check w _ hl, h1, hz, Result.andThen]
  · obtain ⟨p, hp, e1, _⟩ := ent_mem hE (List.mem_of_getElem? h2)
    have := List.find?_eq_none.1 hf p hp
    rw [h3] at e1
    simp only [Value.int.injEq, true_and] at e1
    exact absurd (by simpa using (Int.ofNat.inj e1).symm) this
theorem HeldAt.look_some {w : World} {b : Nat} {L : List (Nat × Value)} (h : HeldAt w b L) {k : Nat} (hk : k ≤ 9223372036854775807) {v : Value} (hf : L.find? (fun p => p.1 == k) = some (k, v)) :
    (Instr.lookup 99 (.map (some b)) (.int .i64 (k : Int)) true).run Try.prog w = .ok (.tuple #[v, .bool true]) w := by
  obtain ⟨es, clock, hb, hs, hE, hL⟩ := h
  obtain ⟨l, hl⟩ := key3 hk
  obtain ⟨x, hx, e1, e2⟩ := mem_ent hE (List.mem_of_find?_eq_some hf)
  rcases K3.find w hl es.toList (ent_keys hE hL) with ⟨h1, h2⟩ | ⟨j, e0, h1, h2, h3⟩
  · exact absurd e1 (h2 x hx)
  · have := Go.entry_eq_of_key ((MapKept.stamped_iff es clock).1 hs).2.2 hx (List.mem_of_getElem? h2) (e1.trans h3.symm)
    subst this
    simp [Instr.lookup, run_underlying Try.underlying99, MapKept.run_getObj_map hb, K3.check w _ hl, h1, e2, Result.andThen]
theorem keeps_block {w : World} {b : Nat} {es : Array MapEntry} {clock : Nat} (hb : w.heap[b]? = some (.map es clock)) (o : Obj) : Keeps (· = b) w (setBlock w b o) :=
  ⟨rfl, rfl, rfl, by simp [setBlock], fun k _ hk => Go.ChangeMaps.heap_setBlock_other hb o hk⟩
/-- A new entry. -/
theorem HeldAt.put {w : World} {b : Nat} {L : List (Nat × Value)} (h : HeldAt w b L) {k : Nat} (hk : k ≤ 9223372036854775807) (hf : L.find? (fun p => p.1 == k) = none) (v : Value) :
    ∃ w', (Instr.mapUpdate 99 (.map (some b)) (.int .i64 (k : Int)) v).run Try.prog w = .ok () w' ∧ HeldAt w' b (L ++ [(k, v)]) ∧ Keeps (· = b) w w' := by
  obtain ⟨es, clock, hb, hs, hE, hL⟩ := h
  obtain ⟨l, hl⟩ := key3 hk
  rcases K3.find w hl es.toList (ent_keys hE hL) with ⟨h1, h2⟩ | ⟨j, e0, h1, h2, h3⟩
  · refine ⟨setBlock w b (.map (es.push ⟨.int .i64 (k : Int), v, clock⟩) (clock + 1)), ?_, ⟨_, _, Go.ChangeMaps.heap_setBlock_same hb _, MapKept.stamped_push hs h2, ?_, ?_⟩, keeps_block hb _⟩
    · simp [Instr.mapUpdate, run_underlying Try.underlying99, MapKept.run_getObj_map hb, K3.check w false hl, h1, MapKept.run_setObj_map _ hb, Result.andThen, setBlock]
    · simp [hE, ent]
    · intro p hp
      rcases List.mem_append.1 hp with hp | hp
      · exact hL p hp
      · simp at hp; subst hp; exact hk
  · obtain ⟨p, hp, e1, _⟩ := ent_mem hE (List.mem_of_getElem? h2)
    have := List.find?_eq_none.1 hf p hp
    rw [h3] at e1
    simp only [Value.int.injEq, true_and] at e1
    exact absurd (by simpa using (Int.ofNat.inj e1).symm) this
theorem eraseP_at {α : Type} (p : α → Bool) : ∀ (l : List α) (j : Nat) (x : α), l[j]? = some x → p x = true → (∀ i y, i < j → l[i]? = some y → p y = false) → l.eraseP p = l.eraseIdx j
  | [], j, x, h, _, _ => by simp at h
  | a :: l, 0, x, h, hp, _ => by
    simp at h
    subst h
    rw [List.eraseP_cons, hp]
    rfl
  | a :: l, j + 1, x, h, hp, hn => by
    have h0 := hn 0 a (by omega) rfl
    rw [List.eraseP_cons, h0]
    simp only [cond_false, List.eraseIdx_cons_succ]
    rw [eraseP_at p l j x (by simpa using h) hp (fun i y hi hy => hn (i + 1) y (by omega) (by simpa using hy))]
def isK (k : Int) : Value → Bool
  | .int .i64 a => a == k
  | _ => false
theorem isK_iff {k : Int} {v : Value} : isK k v = true ↔ v = .int .i64 k := by
  constructor
  · intro h
    unfold isK at h
    split at h
    · rw [beq_iff_eq] at h; rw [h]
    · cases h
  · intro h
    rw [h]
    simp [isK]
/-- The entry with a number, deleted. -/
theorem HeldAt.drop {w : World} {b : Nat} {L : List (Nat × Value)} (h : HeldAt w b L) {k : Nat} (hk : k ≤ 9223372036854775807) (ty : TypeId) {v : Value} (hf : L.find? (fun p => p.1 == k) = some (k, v)) :
    ∃ w', (Builtin.delete_ #[99, 3] ty #[.map (some b), .int .i64 (k : Int)]).run Try.prog w = .ok (.tuple #[]) w' ∧ HeldAt w' b (L.eraseP fun p => p.1 == k) ∧ Keeps (· = b) w w' := by
  obtain ⟨es, clock, hb, hs, hE, hL⟩ := h
  obtain ⟨l, hl⟩ := key3 hk
  obtain ⟨x, hx, e1, e2⟩ := mem_ent hE (List.mem_of_find?_eq_some hf)
  rcases K3.find w hl es.toList (ent_keys hE hL) with ⟨h1, h2⟩ | ⟨j, e0, h1, h2, h3⟩
  · exact absurd e1 (h2 x hx)
  · have hjl : j < es.toList.length := (List.getElem?_eq_some_iff.1 h2).1
    have hjs : j < es.size := by simpa using hjl
    have hsub : (es.eraseIdxIfInBounds j).toList = es.toList.eraseIdx j := by
      unfold Array.eraseIdxIfInBounds
      rw [dif_pos hjs]
      simp
    have hpw := ((MapKept.stamped_iff es clock).1 hs).2.2
    have hmap : (es.toList.eraseIdx j).map (fun x => (x.key, x.val)) = (L.eraseP fun p => p.1 == k).map ent := by
      rw [← eraseP_at (fun x : MapEntry => isK (k : Int) x.key) es.toList j e0 h2 (isK_iff.2 h3) (fun i y hi hy => ?_)]
      · clear hsub hjl hjs h1 h2 h3 hpw hx e1 e2 hs hL hf
        generalize es.toList = el at hE
        induction L generalizing el with
        | nil =>
          have : el = [] := by simpa using hE
          subst this
          rfl
        | cons p L ih =>
          cases el with
          | nil => simp at hE
          | cons y el =>
            simp only [List.map_cons, List.cons.injEq] at hE
            obtain ⟨hy, hE⟩ := hE
            rw [List.eraseP_cons, List.eraseP_cons]
            have hyk : y.key = .int .i64 (p.1 : Int) := congrArg Prod.fst hy
            have hb : isK (k : Int) y.key = (p.1 == k) := by
              rw [hyk]
              show ((p.1 : Int) == (k : Int)) = _
              by_cases hpk : p.1 = k
              · rw [hpk]; simp
              · rw [beq_eq_false_iff_ne.2 hpk, beq_eq_false_iff_ne.2 (by omega)]
            rw [hb]
            cases p.1 == k
            · simp only [cond_false, List.map_cons, hy, ih el hE]
            · exact hE
      · rw [← Bool.not_eq_true]
        intro hk''
        have hk' := isK_iff.1 hk''
        have hil : i < es.toList.length := (List.getElem?_eq_some_iff.1 hy).1
        have := List.pairwise_iff_getElem.1 hpw i j hil hjl hi
        rw [List.getElem?_eq_getElem hil, Option.some.injEq] at hy
        rw [List.getElem?_eq_getElem hjl, Option.some.injEq] at h2
        rw [hy, h2] at this
        exact this (hk'.trans h3.symm)
    refine ⟨setBlock w b (.map (es.eraseIdxIfInBounds j) clock), ?_, ⟨_, _, Go.ChangeMaps.heap_setBlock_same hb _, MapKept.stamped_erase hs j, ?_, ?_⟩, keeps_block hb _⟩
    · simp [Builtin.delete_, run_underlying Try.underlying99, MapKept.run_getObj_map hb, K3.check w _ hl, h1, MapKept.run_setObj_map _ hb, Result.andThen, setBlock]
    · rw [hsub]; exact hmap
    · intro p hp
      exact hL p (List.mem_of_mem_eraseP hp)
end Go.Proofs.Ytopppkafbbfobaa.W
