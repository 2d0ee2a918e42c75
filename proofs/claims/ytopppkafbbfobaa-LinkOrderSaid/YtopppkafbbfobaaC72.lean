/- link's deliver. -/
import Derived.Test.YtopppkafbbfobaaM4
import Derived.Deep.RegionHeld3
import Derived.Deep.DrawnRows
namespace Go.Proofs.Ytopppkafbbfobaa.W
open Go.RowKit
attribute [local go_sem ↓] Go.wp_at_zero Go.wp_at_succ
/-- delete of a held message, as a step of a region. -/
theorem step_drop {ops : Array Oper} {o : Oper} {a : Act} {K : Act → World → Prop} {Q : Exit → Act → World → Prop} {E : Prop} {w : World} (hgd : o.guard = none) (s x : Operand)
    (ho : o.op = .call { callee := .builtin .delete, args := #[s, x], argTypes := #[99, 3] }) (b k : Nat) (key : Int) (hs : a.eval s = .map (some b)) (hx : a.eval x = .int .i64 key) (hkey : key = (k : Int)) (L : List (Nat × Value)) (hL : HeldAt w b L) (hk : k ≤ 9223372036854775807) (v : Value)
    (hf : L.find? (fun p => p.1 == k) = some (k, v)) (h : ∀ w', HeldAt w' b (L.eraseP fun p => p.1 == k) → Keeps (· = b) w w' → K (a.put o.dst (.tuple #[])) w') :
    if Region.wanted o (yielded ops a.tmps) = true then Oper.wp Try.prog o a w K Q else E := by
  have hw : Region.wanted o (yielded ops a.tmps) = true := by simp [Region.wanted, hgd]
  rw [if_pos hw]
  subst hkey
  obtain ⟨w', hr, h2, h3⟩ := hL.drop hk o.type hf
  unfold Oper.wp execOp
  simp only [ho, resolve, invoke, builtin, Sem.run_bind, Sem.run_pure, Result.andThen_ok, List.map_toArray, List.map_cons, List.map_nil, hs, hx, hr]
  exact h w' h2 h3
theorem dropH_length {k : Nat} {l : List (Nat × Bs)} {b : Bs} (h : findH k l = some b) : (dropH k l).length + 1 = l.length := by
  unfold findH at h
  obtain ⟨p, hp, _⟩ := Option.map_eq_some_iff.1 h
  unfold dropH
  have h1 := List.mem_of_find?_eq_some hp
  have h2 := List.find?_some hp
  rw [List.length_eraseP_of_mem h1 h2]
  have := List.length_pos_of_mem h1
  omega
def St.next (S : St) : St := { S with got := S.got + 1, held := dropH (S.got + 1) S.held }
theorem deliver_step {S : St} {b : Bs} (h : findH (S.got + 1) S.held = some b) : deliverN (S.held.length + 1) S = (b :: (deliverN (S.next.held.length + 1) S.next).1, (deliverN (S.next.held.length + 1) S.next).2) := by
  have hl := dropH_length h
  rw [deliverN, h]
  simp only [St.next]
  rw [hl]
theorem deliver_stop {S : St} (h : findH (S.got + 1) S.held = none) : deliverN (S.held.length + 1) S = ([], S) := by rw [deliverN, h]
/-- What deliver leaves. -/
def DeliverPost (D : Nat → Prop) (w : World) (g : Nat) (r : List Bs × St) (e : Ending) (w' : World) : Prop :=
  ∃ v vs, e = .returned v ∧ Rows (fun k => D k ∧ k ≠ g) w.heap.size w' v vs r.1 ∧ IsEnd D w' g r.2 ∧ Keeps D w w'
/-- The same, with what is changed named: the end's own block and its map. -/
def DeliverAt (D : Nat → Prop) (w : World) (g mb : Nat) (wv : Value) (ws : List Value) (r : List Bs × St) (e : Ending) (w' : World) : Prop :=
  ∃ v vs, e = .returned v ∧ Rows (fun k => Own D g mb wv k) w.heap.size w' v vs r.1 ∧ (∃ L, EndAt D w' g r.2.raw wv mb ws L) ∧ Keeps (fun k => k = g ∨ k = mb) w w'
set_option maxRecDepth 100000 in
set_option maxHeartbeats 1600000 in
theorem deliver_walk (D0 : Nat → Prop) (g mb : Nat) (S : St) (wv : Value) (ws : List Value) (L : List (Nat × Value)) (w : World) (hD : ∀ k, D0 k → k < w.heap.size) (h : EndAt D0 w g S.raw wv mb ws L) (hgot : S.got + S.held.length ≤ 3000000) :
    Calls Try.prog 72 #[.pointer (some ⟨g, 0, none⟩)] w (DeliverAt D0 w g mb wv ws (deliverN (S.held.length + 1) S)) := by
  have hgm := lt_of_block h.blk
  have hne := h.ne
  have hne' : g ≠ mb := fun e => hne e.symm
  have HD := hide hD
  have HE := hide h
  clear h hD
  go_enter Try.func72, Try.ntmps72
  go_wp2
  go_loopw [3] (fun v wr => ∃ (T : St) (vs : List Value) (acc : List Bs) (L' : List (Nat × Value)), Hid (EndAt D0 wr g T.raw wv mb ws L') ∧ Hid (Rows (Own D0 g mb wv) w.heap.size wr v vs acc) ∧ Hid (Keeps (fun k => k = g ∨ k = mb) w wr) ∧
      Hid (deliverN (S.held.length + 1) S = (acc ++ (deliverN (T.held.length + 1) T).1, (deliverN (T.held.length + 1) T).2)) ∧ Hid (T.got + T.held.length = S.got + S.held.length ∧ acc.length ≤ T.got))
    (fun _ wr => S.got + S.held.length - (intOf ((wr.cell? ⟨g, 4, none⟩).getD undef)).toNat)
  case atStart => exact ⟨S, [], [], L, HE, hide (Rows.nil _ _ _), hide (Keeps.refl _ _), hide (by simp), hide ⟨rfl, Nat.zero_le _⟩⟩
  case round =>
    obtain ⟨T, vs, acc, L', hE, hR, hK, hq, hT⟩ := hrel
    obtain ⟨_, _, _, _, c4, c5, _, _⟩ := hE.out.cells
    have f4 := hE.out.free 4
    have e4 : T.raw.got = T.got := rfl
    rw [e4] at c4
    have hb := hE.out.hb
    rcases hb.find (T.got + 1) with ⟨hf, hl⟩ | ⟨b, vb, hf, hl, hbt⟩
    · have hlook := hE.out.held.look_none (k := T.got + 1) (by have := hT.out; omega) hl
      have hlk : ∀ w' : World, w'.heap = wr.heap → w'.cell? ⟨g, 5, none⟩ = some (.map (some mb)) ∧ w'.cell? ⟨g, 4, none⟩ = some (.int .i64 (T.got : Int)) ∧ (Instr.lookup 99 (.map (some mb)) (.int .i64 ((T.got : Int) + 1)) true).run Try.prog w' = .ok (.tuple #[.slice none 0 0, .bool false]) w' := fun w' h =>
        have hb0 : ∀ k, w'.heap[k]? = wr.heap[k]? := fun k => by rw [h]
        ⟨(World.cell?_of_block (w := wr) (hb0 g)).trans c5, (World.cell?_of_block (w := wr) (hb0 g)).trans c4, (hE.out.held.stays (hb0 mb)).look_none (k := T.got + 1) (by have := hT.out; omega) hl⟩
      have HLK := hide hlk
      have hwr : IntKind.i64.wrap ((T.got : Int) + 1) = (T.got : Int) + 1 := by rw [IntKind.wrap_i64]; have := hT.out; omega
      clear hlk hlook
      go_wp2_with fail
      go_region_held3 (fun w' => w'.cell? ⟨g, 5, none⟩ = some (.map (some mb)) ∧ w'.cell? ⟨g, 4, none⟩ = some (.int .i64 (T.got : Int)) ∧ (Instr.lookup 99 (.map (some mb)) (.int .i64 ((T.got : Int) + 1)) true).run Try.prog w' = .ok (.tuple #[.slice none 0 0, .bool false]) w') (exact HLK.out _ rfl) (fail)
      go_wp2
      go_ret
      refine ⟨_, vs, rfl, ?_, ?_, ?_⟩
      · rw [hq.out, deliver_stop hf, List.append_nil]
        exact hR.out.stays (w' := World.drew _) fun _ _ _ => rfl
      · rw [hq.out, deliver_stop hf]
        exact ⟨L', hE.out.stays fun _ _ _ => rfl⟩
      · exact hK.out.drew
    · have HBT := hide hbt
      obtain ⟨Ab, cb, rfl, hcb, hRb⟩ := hbt
      have hlk : ∀ w' : World, w'.heap = wr.heap → w'.cell? ⟨g, 5, none⟩ = some (.map (some mb)) ∧ w'.cell? ⟨g, 4, none⟩ = some (.int .i64 (T.got : Int)) ∧ (Instr.lookup 99 (.map (some mb)) (.int .i64 ((T.got : Int) + 1)) true).run Try.prog w' = .ok (.tuple #[.slice Ab b.length cb, .bool true]) w' := fun w' h =>
        have hb0 : ∀ k, w'.heap[k]? = wr.heap[k]? := fun k => by rw [h]
        ⟨(World.cell?_of_block (w := wr) (hb0 g)).trans c5, (World.cell?_of_block (w := wr) (hb0 g)).trans c4, (hE.out.held.stays (hb0 mb)).look_some (k := T.got + 1) (by have := hT.out; omega) hl⟩
      have HLK := hide hlk
      have hwr : IntKind.i64.wrap ((T.got : Int) + 1) = (T.got : Int) + 1 := by rw [IntKind.wrap_i64]; have := hT.out; omega
      clear hlk
      go_wp2_with fail
      go_region_held3 (fun w' => w'.cell? ⟨g, 5, none⟩ = some (.map (some mb)) ∧ w'.cell? ⟨g, 4, none⟩ = some (.int .i64 (T.got : Int)) ∧ (Instr.lookup 99 (.map (some mb)) (.int .i64 ((T.got : Int) + 1)) true).run Try.prog w' = .ok (.tuple #[.slice Ab b.length cb, .bool true]) w') (exact HLK.out _ rfl) (fail)
      go_wp2_with fail
      have hE1 : Hid (EndAt D0 (wr.setCell ⟨g, 4, none⟩ (.int .i64 ((T.got : Int) + 1))) g { T.raw with got := T.got + 1 } wv mb ws L') := by
        have := hE.out.setGot (T.got + 1)
        rw [Int.natCast_add] at this
        exact this
      have hst1 : Hid (Stays (fun k => k ≠ g) wr (wr.setCell ⟨g, 4, none⟩ (.int .i64 ((T.got : Int) + 1)))) := Stays.setCell fun k _ h => h
      have hK1 : Hid (Keeps (fun k => k = g ∨ k = mb) w (wr.setCell ⟨g, 4, none⟩ (.int .i64 ((T.got : Int) + 1)))) := hK.out.setCell (.inl rfl) _
      generalize wr.setCell ⟨g, 4, none⟩ (.int .i64 ((T.got : Int) + 1)) = W1 at *
      have hR1 : Hid (Rows (Own D0 g mb wv) w.heap.size W1 u3 vs acc) := hR.out.stays fun k hk e => hst1.out k hk (by
        rcases e with e | e
        · exact e.2.1
        · have := (hR.out.1.lt k e).1; omega)
      have hbt1 : Hid (Bt (Own D0 g mb wv) W1 (.slice Ab b.length cb) b) := HBT.out.stays fun k hk e => hst1.out k hk e.2.1
      have KS : ∀ w', Stays (fun k => k ≠ mb) W1 w' → w'.cell? ⟨g, 5, none⟩ = some (.map (some mb)) ∧ w'.cell? ⟨g, 4, none⟩ = some (.int .i64 ((T.got : Int) + 1)) := fun w' h => by
        have hg := h g (lt_of_block hE1.out.blk) hne'
        obtain ⟨_, _, _, _, d4, d5, _, _⟩ := hE1.out.cells
        refine ⟨(World.cell?_of_block (w := W1) hg).trans d5, (World.cell?_of_block (w := W1) hg).trans (d4.trans ?_)⟩
        show some (Value.int .i64 (((T.got + 1 : Nat)) : Int)) = _
        rw [Int.natCast_add]; rfl
      have HKS := hide KS
      have hmap := hide hE1.out.held
      have hkk := hide (show T.got + 1 ≤ 9223372036854775807 from by have := hT.out; omega)
      have hkc := hide (show (T.got : Int) + 1 = ((T.got + 1 : Nat) : Int) from by omega)
      have HL := hide hl
      clear KS c4 c5 f4 e4 hl hRb hb
      go_region_held3 (fun w' => w'.cell? ⟨g, 5, none⟩ = some (.map (some mb)) ∧ w'.cell? ⟨g, 4, none⟩ = some (.int .i64 ((T.got : Int) + 1)))
        (first | exact HKS.out _ (hk2.stays fun k _ h => h) | exact HKS.out _ (fun _ _ _ => rfl) | fail)
        ((refine step_drop (by rfl) _ _ (by rfl) mb (T.got + 1) _ (by rfl) (by rfl) hkc.out L' hmap.out hkk.out _ HL.out ?_; intro w2 hm2 hk2))
      have hk2' : Keeps (· = mb) W1 w2 := ⟨hk2.os, hk2.tape, hk2.output, hk2.size, hk2.block⟩
      have hR2 : Hid (Rows (Own D0 g mb wv) w.heap.size w2 u3 vs acc) := hR1.out.stays (hk2'.stays fun k _ e => by
        rcases e with e | e
        · exact e.2.2.1
        · have := (hR1.out.1.lt k e).1
          have := HD.out mb hE1.out.dm
          show ¬ k = mb
          omega)
      have hbt2 : Hid (Bt (Own D0 g mb wv) w2 (.slice Ab b.length cb) b) := hbt1.out.stays (hk2'.stays fun k _ e => e.2.2.1)
      have hE2 : Hid (EndAt D0 w2 g T.next.raw wv mb ws (L'.eraseP fun p => p.1 == T.got + 1)) := hE1.out.setHeld hk2' hm2 (hE1.out.hb.drop (T.got + 1))
      have hown2 := own_rebase hR2.out.1 (Nat.zero_le _)
      have hvl : vs.length ≤ 1000000000 := by have := hT.out; have := hR.out.2.1; omega
      go_wp2_with (at_builtin; refine wp_grow1 rfl (.tmp 37) (.tmp 39) rfl _ vs.length vs rfl hown2 rfl rfl hvl ?_; intro gg cap w3 ho3 hg3 hat3 hlt3)
      have hdl : (dropH (T.got + 1) T.held).length + 1 = T.held.length := dropH_length hf
      have hrow : ∀ k, u3.ownBlock = some k → w.heap.size ≤ k := fun k e => (hR.out.1.lt k e).1
      have hE3 : EndAt D0 w3 g T.next.raw wv mb ws (L'.eraseP fun p => p.1 == T.got + 1) := hE2.out.stays fun k hk e => hg3.block k hk (fun e' => by have := hrow k e'.symm; have := HD.out k e; omega)
      have hK2 : Keeps (fun k => k = g ∨ k = mb) w w2 := hK1.out.then (hk2'.mono fun k _ e => .inr e)
      have hK3 : Keeps (fun k => k = g ∨ k = mb) w w3 := hK2.trans (D' := fun k => u3.ownBlock = some k) ⟨hg3.os, hg3.tape, hg3.output, hg3.size, fun k hk hn => hg3.block k hk fun e' => hn e'.symm⟩ fun i hi e => by have := hrow i e; omega
      go_roundw
      case rel => exact ⟨T.next, _, acc ++ [b], _, hide hE3, hide (hR2.out.push (hbt2.out.mono fun k _ e => ⟨e, fun e' => by have := hrow k e'; have := HD.out k e.1; omega⟩) ho3 hg3 hat3 hK2.size), hide hK3, hide (by rw [hq.out, deliver_step hf]; simp), hide ⟨by have := hT.out; simp only [St.next]; omega, by have := hT.out; simp only [St.next, List.length_append, List.length_cons, List.length_nil]; omega⟩⟩
      case measure =>
        have m1 : wr.cell? ⟨g, 4, none⟩ = some (.int .i64 (T.got : Int)) := hE.out.cells.2.2.2.2.1
        have m2 : w3.cell? ⟨g, 4, none⟩ = some (.int .i64 ((T.got + 1 : Nat) : Int)) := hE3.cells.2.2.2.2.1
        have := hT.out
        simp only [m1, m2, Option.getD_some, intOf]
        omega
/-- link's deliver. -/
theorem deliver_any (D : Nat → Prop) (g : Nat) (S : St) (w : World) (h : IsEnd D w g S) (hgot : S.got + S.held.length ≤ 3000000) :
    Calls Try.prog 72 #[.pointer (some ⟨g, 0, none⟩)] w (DeliverPost D w g (deliverN (S.held.length + 1) S)) := by
  obtain ⟨wv, mb, ws, L, h⟩ := h
  refine (deliver_walk (fun k => D k ∧ k < w.heap.size) g mb S wv ws L w (fun k e => e.2) (h.mono fun k hk e => ⟨e, hk⟩) hgot).mono ?_
  rintro e w' ⟨v, vs, he, hr, ⟨L', hE⟩, hK⟩
  have hg : D g := h.dg
  have hm : D mb := h.dm
  exact ⟨v, vs, he, hr.mono fun k _ e => ⟨e.1.1, e.2.1⟩, ⟨wv, mb, ws, L', hE.mono fun k _ e => e.1⟩, hK.mono fun k _ e => by
    rcases e with e | e
    · rw [e]; exact hg
    · rw [e]; exact hm⟩
end Go.Proofs.Ytopppkafbbfobaa.W
