/- Rows of an owner that grow: slices of bytes, and integers. -/
import Derived.Test.YtopppkafbbfobaaM8
namespace Go.Proofs.Ytopppkafbbfobaa.W
open Go.RowKit
/-- A row of slices of owner j, and what they read as. -/
def RowZ (f : Nat → Nat) (w : World) (j : Nat) (v : Value) (vs : List Value) (ls : List Bs) : Prop :=
  w.ownsRow 0 28 1 v vs.length vs ∧ (∀ k, v.ownBlock = some k → Z f w j k) ∧ Each (fun k => Z f w j k ∧ v.ownBlock ≠ some k) w vs ls
section
variable {f : Nat → Nat} {w w' : World} {i j : Nat} {v : Value} {vs : List Value} {ls : List Bs}
theorem RowZ.nil (f : Nat → Nat) (w : World) (j : Nat) : RowZ f w j (.slice none 0 0) [] [] := ⟨World.ownsRow_nil _ _ _ _, fun k e => (by cases e), Each.nil _ _⟩
theorem RowZ.new (h : RowZ f w j v vs ls) (hb : Below w.heap.size w w') (l : Nat) : RowZ (ext f w l) w' j v vs ls :=
  ⟨own_kept h.1 hb, fun k e => Z.old (h.2.1 k e) hb.size, (h.2.2.stays (Stays.of_new hb)).mono fun _ _ e => ⟨Z.old e.1 hb.size, e.2⟩⟩
theorem RowZ.oth (h : RowZ f w j v vs ls) (hK : Keeps (Z f w i) w w') (hj : j ≠ i) (l : Nat) : RowZ (ext f w l) w' j v vs ls :=
  ⟨own_stays h.1 fun k hk e => Z.stays hK hj k hk (h.2.1 k e), fun k e => Z.old (h.2.1 k e) hK.size, (h.2.2.stays fun k hk e => Z.stays hK hj k hk e.1).mono fun _ _ e => ⟨Z.old e.1 hK.size, e.2⟩⟩
/-- What a growing row leaves of its owner's other blocks. -/
theorem push_stays (hg : w.grownBy w' v.ownBlock) : Stays (fun k => Z f w j k ∧ v.ownBlock ≠ some k) w w' := fun k hk e => hg.block k hk fun e' => e.2 e'.symm
theorem push_mono {g n cap : Nat} (hg : w.grownBy w' v.ownBlock) (hat : v.ownBlock = some g ∨ w.heap.size < g) (k : Nat) (e : Z f w j k ∧ v.ownBlock ≠ some k) : Z (ext f w j) w' j k ∧ Value.ownBlock (.slice (some ⟨g, 0, none⟩) n cap) ≠ some k := by
  refine ⟨Z.old e.1 hg.size, fun e' => ?_⟩
  simp only [Value.ownBlock, Option.some.injEq] at e'
  rcases hat with hat | hat
  · exact e.2 (by rw [hat, e'])
  · have := e.1.2; omega
theorem push_keeps (hv : ∀ k, v.ownBlock = some k → Z f w j k) (hg : w.grownBy w' v.ownBlock) : Keeps (Z f w j) w w' := (Keeps.refl _ _).grown hg hv
theorem push_zone {g n cap : Nat} (hv : ∀ k, v.ownBlock = some k → Z f w j k) (hg : w.grownBy w' v.ownBlock) (hat : v.ownBlock = some g ∨ w.heap.size < g) (hlt : g < w'.heap.size) : ∀ k, Value.ownBlock (.slice (some ⟨g, 0, none⟩) n cap) = some k → Z (ext f w j) w' j k := fun k e => by
  simp only [Value.ownBlock, Option.some.injEq] at e
  subst e
  rcases hat with hat | hat
  · exact Z.old (hv g hat) hg.size
  · exact Z.fresh (by omega) hlt
theorem RowZ.push (h : RowZ f w j v vs ls) {vn : Value} {b : Bs} (hn : Bt (fun k => Z f w j k ∧ v.ownBlock ≠ some k) w vn b) {g cap : Nat}
    (ho : w'.ownsRow 0 28 1 (.slice (some ⟨g, 0, none⟩) (vs.length + 1) cap) (vs.length + 1) (vs ++ [vn])) (hg : w.grownBy w' v.ownBlock) (hat : v.ownBlock = some g ∨ w.heap.size < g) (hlt : g < w'.heap.size) :
    RowZ (ext f w j) w' j (.slice (some ⟨g, 0, none⟩) (vs.length + 1) cap) (vs ++ [vn]) (ls ++ [b]) :=
  ⟨by simpa using ho, push_zone h.2.1 hg hat hlt, ((h.2.2.stays (push_stays hg)).mono fun k _ e => push_mono hg hat k e).snoc ((hn.stays (push_stays hg)).mono fun k _ e => push_mono hg hat k e)⟩
theorem Lst.push {u : Value} {us : List Value} {ms : List Bs} (h : Lst (fun k => Z f w j k ∧ v.ownBlock ≠ some k) w u us ms) {g n cap : Nat} (hg : w.grownBy w' v.ownBlock) (hat : v.ownBlock = some g ∨ w.heap.size < g) :
    Lst (fun k => Z (ext f w j) w' j k ∧ Value.ownBlock (.slice (some ⟨g, 0, none⟩) n cap) ≠ some k) w' u us ms := (h.stays (push_stays hg)).mono fun k _ e => push_mono hg hat k e
/-- A row of slices, as a list that can be read. -/
theorem RowZ.lst (h : RowZ f w j v vs ls) (hl : ls.length ≤ 9223372036854775807) : Lst (Z f w j) w v vs ls := by
  obtain ⟨A, c, e, hR, hc⟩ := RdIn.of_own h.1 (by rw [h.2.2.1]; exact hl)
  rw [h.2.2.1] at e hc
  exact ⟨A, c, e, hc, hR.mono fun k _ e => h.2.1 k e, h.2.2.mono fun _ _ e => e.1⟩
end
def natv (xs : List Nat) : List Value := xs.map fun n : Nat => Value.int .i64 (n : Int)
theorem natv_append (a b : List Nat) : natv (a ++ b) = natv a ++ natv b := by simp [natv]
theorem natv_length (a : List Nat) : (natv a).length = a.length := by simp [natv]
/-- A row of integers of owner j. -/
def IntsZ (f : Nat → Nat) (w : World) (j : Nat) (v : Value) (xs : List Nat) : Prop := w.ownsRow 0 3 1 v xs.length (natv xs) ∧ ∀ k, v.ownBlock = some k → Z f w j k
section
variable {f : Nat → Nat} {w w' : World} {i j : Nat} {v : Value} {xs : List Nat}
theorem IntsZ.nil (f : Nat → Nat) (w : World) (j : Nat) : IntsZ f w j (.slice none 0 0) [] := ⟨World.ownsRow_nil _ _ _ _, fun k e => by cases e⟩
theorem IntsZ.new (h : IntsZ f w j v xs) (hb : Below w.heap.size w w') (l : Nat) : IntsZ (ext f w l) w' j v xs := ⟨own_kept h.1 hb, fun k e => Z.old (h.2 k e) hb.size⟩
theorem IntsZ.oth (h : IntsZ f w j v xs) (hK : Keeps (Z f w i) w w') (hj : j ≠ i) (l : Nat) : IntsZ (ext f w l) w' j v xs :=
  ⟨own_stays h.1 fun k hk e => Z.stays hK hj k hk (h.2 k e), fun k e => Z.old (h.2 k e) hK.size⟩
theorem IntsZ.push (h : IntsZ f w j v xs) {x g cap : Nat} (ho : w'.ownsRow 0 3 1 (.slice (some ⟨g, 0, none⟩) (xs.length + 1) cap) (xs.length + 1) (natv xs ++ [.int .i64 (x : Int)])) (hg : w.grownBy w' v.ownBlock) (hat : v.ownBlock = some g ∨ w.heap.size < g) (hlt : g < w'.heap.size) :
    IntsZ (ext f w j) w' j (.slice (some ⟨g, 0, none⟩) (xs.length + 1) cap) (xs ++ [x]) :=
  ⟨by rw [natv_append, List.length_append]; exact ho, push_zone h.2 hg hat hlt⟩
theorem IntsZ.at (h : IntsZ f w j v xs) {k : Nat} (hk : k < xs.length) : ∃ b c, v = .slice (some ⟨b, 0, none⟩) xs.length c ∧ w.cell? ⟨b, k, none⟩ = some (.int .i64 (xs.getD k 0 : Int)) ∧ Z f w j b := by
  obtain ⟨g, c, rfl, _, hg⟩ := h.1.form (by omega)
  refine ⟨g, c, rfl, ?_, h.2 g rfl⟩
  have := h.1.cells (g := g) rfl k (.int .i64 (xs.getD k 0 : Int)) (by simp [natv, List.getD_eq_getElem?_getD, hk])
  rwa [show (⟨g, 0, none⟩ : Addr).add k = ⟨g, k, none⟩ from by unfold Addr.add; split <;> simp_all] at this
theorem IntsZ.form (h : IntsZ f w j v xs) : ∃ A c, v = .slice A xs.length c ∧ xs.length ≤ c := by
  rcases h.1.2 with ⟨rfl, h0⟩ | ⟨g, cap, cur, hv, _, _, hc, _⟩
  · exact ⟨none, 0, by rw [h0], by rw [h0]; exact Nat.le_refl _⟩
  · exact ⟨_, cap, hv, hc⟩
end
theorem grow1i {W : World} {x : Int} {v : Value} {n : Nat} {xs : List Value} (hn : n ≤ 1000000000) (hown : W.ownsRow 0 3 1 v n xs) (ty : TypeId) :
    ∃ g cap w', (Builtin.append_ #[22, 22] ty #[v, .slice (some ⟨W.heap.size, 0, none⟩) 1 1]).run Try.prog (W.alloc (.cells #[.int .i64 x] 3)) = .ok (.slice (some ⟨g, 0, none⟩) (n + 1) cap) w' ∧
      w'.ownsRow 0 3 1 (.slice (some ⟨g, 0, none⟩) (n + 1) cap) (n + 1) (xs ++ [.int .i64 x]) ∧ W.grownBy w' v.ownBlock ∧ (v.ownBlock = some g ∨ W.heap.size < g) ∧ g < w'.heap.size := by
  obtain ⟨i0, hi0, hz0, hz1, hz2⟩ := info_parts inf3
  obtain ⟨g, cap, w', h2, h3, h4, h5, h6⟩ := run_append_lies (P := Try.prog) (w := W.alloc (.cells #[.int .i64 x] 3)) 22 ty 0 3 i0 _ 1 8 Try.underlying22 hi0 hz0 hz1 hz2 rfl (by decide) v n xs (hown.alloc _) ⟨W.heap.size, 0, none⟩ 1 1 [.int .i64 x] rfl
    (World.news_of_block (cs := #[.int .i64 x]) (t := 3) (fr := (0, 0)) (heap_alloc_new W _)) (by simp [Value.oneCell']) (by decide) (by unfold maxLen; omega) (by omega) (Nat.zero_le _) (W.heap.size + 1) (by simp)
  refine ⟨g, cap, w', h2, h3, World.grownBy.trans (World.grownBy_alloc W _ _) h4, ?_, h6⟩
  rcases h5 with h5 | h5
  · exact .inl h5
  · exact .inr (by omega)
/-- An append of one integer. -/
theorem wp_grow1i {ops : Array Oper} {rest : List Oper} {o : Oper} {a : Act} {Q : Exit → Act → World → Prop} {W : World} {y : Int} (hgd : Region.wanted o (yielded ops a.tmps) = true) (s x : Operand)
    (ho : o.op = .call { callee := .builtin .append, args := #[s, x], argTypes := #[22, 22] })
    (v : Value) (n : Nat) (xs : List Value) (hs : a.eval s = v) (hown : W.ownsRow 0 3 1 v n xs) (hx : a.eval x = .slice (some ⟨W.heap.size, 0, none⟩) 1 1) (hn : n ≤ 1000000000)
    (h : ∀ g cap w', w'.ownsRow 0 3 1 (.slice (some ⟨g, 0, none⟩) (n + 1) cap) (n + 1) (xs ++ [.int .i64 y]) → W.grownBy w' v.ownBlock → (v.ownBlock = some g ∨ W.heap.size < g) → g < w'.heap.size → wpList Try.prog ops Q rest (a.put o.dst (.slice (some ⟨g, 0, none⟩) (n + 1) cap)) w') :
    wpList Try.prog ops Q (o :: rest) a (W.alloc (.cells #[.int .i64 y] 3)) := by
  obtain ⟨g, cap, w', hr, h2, h3, h4, h5⟩ := grow1i (x := y) hn hown o.type
  refine wpList_wanted hgd fun K hK => ?_
  unfold Oper.wp execOp
  simp only [ho, resolve, invoke, builtin, Sem.run_bind, Sem.run_pure, Result.andThen_ok, List.map_toArray, List.map_cons, List.map_nil, hs, hx, hr]
  exact hK _ _ (h g cap w' h2 h3 h4 h5)
/-- Two slices side by side. -/
def vals2 (V : Nat → Value) : Obj := .cells #[V 0, V 1] 63 (0, 0)
theorem At.val {f : Nat → Nat} {w : World} {j b : Nat} {V : Nat → Value} (h : At f w j b (vals2 V)) {k : Nat} (hk : k < 2) : w.cell? ⟨b, k, none⟩ = some (V k) := by
  rw [h.cell]
  obtain rfl | rfl : k = 0 ∨ k = 1 := by omega
  · rfl
  · rfl
theorem At.setVal {f : Nat → Nat} {w : World} {j b : Nat} {V : Nat → Value} (h : At f w j b (vals2 V)) {k : Nat} (hk : k < 2) (v : Value) (l : Nat) : At (ext f w l) (w.setCell ⟨b, k, none⟩ v) j b (vals2 (upd V k v)) := by
  refine ⟨Z.old h.1 (by simp [World.setCell]), ?_⟩
  rw [heap_setCell_at h.2]
  obtain rfl | rfl : k = 0 ∨ k = 1 := by omega
  · rfl
  · rfl
end Go.Proofs.Ytopppkafbbfobaa.W
