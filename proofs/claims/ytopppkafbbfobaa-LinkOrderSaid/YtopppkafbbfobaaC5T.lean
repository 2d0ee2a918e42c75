/- link's In: packets that are taken. -/
import Derived.Test.YtopppkafbbfobaaC50
namespace Go.Proofs.Ytopppkafbbfobaa.W
open Go.RowKit
attribute [local go_sem ↓] Go.wp_at_zero Go.wp_at_succ
/-- In the midst of In: the end, and the packet that has been read. -/
structure InMid (D M : Nat → Prop) (w : World) (g mb p : Nat) (A2 : Option Addr) (c2 s a : Nat) (m : Bs) (L : List (Nat × Value)) (R : Raw) (wv : Value) (ws : List Value) (wx : World) : Prop where
  endAt : EndAt (Plus D w) wx g R wv mb ws L
  keeps : Keeps M w wx
  c0 : wx.cell? ⟨p, 0, none⟩ = some (.int .i64 (s : Int))
  c1 : wx.cell? ⟨p, 1, none⟩ = some (.int .i64 (a : Int))
  c2 : wx.cell? ⟨p, 2, none⟩ = some (.slice A2 m.length c2)
  rd : RdIn (fun k => w.heap.size ≤ k) wx A2 (bv m)
  p : w.heap.size ≤ p
  gl : g < w.heap.size
  ml : mb < w.heap.size
  wl : ∀ k, wv.ownBlock = some k → k < w.heap.size
  mg : M g
  mm : M mb
  mw : ∀ k, wv.ownBlock = some k → M k
theorem InMid.same {D M : Nat → Prop} {w : World} {g mb p : Nat} {A2 : Option Addr} {c2 s a : Nat} {m : Bs} {L : List (Nat × Value)} {R : Raw} {wv : Value} {ws : List Value} {wx wy : World} (h : InMid D M w g mb p A2 c2 s a m L R wv ws wx) (hb : Below wx.heap.size wx wy) : InMid D M w g mb p A2 c2 s a m L R wv ws wy :=
  have hp := World.block_lt_of_cell? _ _ h.c0
  ⟨h.endAt.stays (Stays.of_new hb), h.keeps.then (Keeps.of_new hb), (hb.cell hp).trans h.c0, (hb.cell (p := ⟨p, 1, none⟩) hp).trans h.c1, (hb.cell (p := ⟨p, 2, none⟩) hp).trans h.c2, h.rd.stays (Stays.of_new hb), h.p, h.gl, h.ml, h.wl, h.mg, h.mm, h.mw⟩
theorem InMid.drewN {D M : Nat → Prop} {w : World} {g mb p : Nat} {A2 : Option Addr} {c2 s a : Nat} {m : Bs} {L : List (Nat × Value)} {R : Raw} {wv : Value} {ws : List Value} {wx : World} (h : InMid D M w g mb p A2 c2 s a m L R wv ws wx) (n : Nat) : InMid D M w g mb p A2 c2 s a m L R wv ws (wx.drewN n) :=
  h.same (below_drewN (Below.refl _ _) n)
def St.ack (S : St) (a : Nat) : St := { S with acked := max S.acked a }
def St.owe (S : St) : St := { S with owing := true }
def St.hold (S : St) (s : Nat) (m : Bs) : St := { S with held := S.held ++ [(s, m)] }
theorem take_refuse {S : St} {s a : Nat} {m : Bs} (h : S.sent.length < a ∨ S.got + 16 < s) : S.take s a m = ([], S) := by unfold St.take; rw [if_pos h]
theorem take_ack {S : St} {a : Nat} {m : Bs} (h : ¬ S.sent.length < a) : S.take 0 a m = ([], S.ack a) := by
  unfold St.take
  rw [if_neg (by omega)]
  rfl
theorem take_old {S : St} {s a : Nat} {m : Bs} (h : ¬ S.sent.length < a) (h2 : ¬ S.got + 16 < s) (h0 : 0 < s) (ho : s ≤ S.got ∨ (findH s S.held).isSome) (hf : findH (S.got + 1) S.held = none) :
    S.take s a m = deliverN ((S.ack a).owe.held.length + 1) (S.ack a).owe := by
  unfold St.take
  rw [if_neg (by omega)]
  simp only []
  rw [if_neg (by omega), if_pos ho]
  exact (deliver_stop (S := (S.ack a).owe) hf).symm
theorem take_new {S : St} {s a : Nat} {m : Bs} (h : ¬ S.sent.length < a) (h2 : ¬ S.got + 16 < s) (h0 : 0 < s) (ho : ¬ (s ≤ S.got ∨ (findH s S.held).isSome)) :
    S.take s a m = deliverN (((S.ack a).owe.hold s m).held.length + 1) ((S.ack a).owe.hold s m) := by
  unfold St.take
  rw [if_neg (by omega)]
  simp only []
  rw [if_neg (by omega), if_neg ho]
  have : ((S.ack a).owe.hold s m).held.length = S.held.length + 1 := by simp [St.hold, St.owe, St.ack]
  rw [this]
  rfl
section
variable {D M : Nat → Prop} {w : World} {g mb p : Nat} {A2 : Option Addr} {c2 s a : Nat} {m : Bs} {L : List (Nat × Value)} {R : Raw} {wv : Value} {ws : List Value} {wx wy : World}
theorem plus_old {D : Nat → Prop} {w : World} {k : Nat} (h : Plus D w k) (hk : k < w.heap.size) : D k := by
  rcases h with h | h
  · exact h
  · omega
/-- What a change of old blocks leaves of the packet. -/
theorem InMid.moved (h : InMid D M w g mb p A2 c2 s a m L R wv ws wx) {C : Nat → Prop} (hk : Keeps C wx wy) (hC : ∀ k, C k → k < w.heap.size ∧ M k) {R' : Raw} {wv' : Value} {ws' : List Value} {L' : List (Nat × Value)} (hE : EndAt (Plus D w) wy g R' wv' mb ws' L') (hw : ∀ k, wv'.ownBlock = some k → k < w.heap.size) (hw2 : ∀ k, wv'.ownBlock = some k → M k) :
    InMid D M w g mb p A2 c2 s a m L' R' wv' ws' wy := by
  have hp := World.block_lt_of_cell? _ _ h.c0
  have hnp : ¬ C p := fun e => by have := (hC p e).1; have := h.p; omega
  exact ⟨hE, h.keeps.then (hk.mono fun k _ e => (hC k e).2), (hk.cell (p := ⟨p, 0, none⟩) hp hnp).trans h.c0, (hk.cell (p := ⟨p, 1, none⟩) hp hnp).trans h.c1, (hk.cell (p := ⟨p, 2, none⟩) hp hnp).trans h.c2,
    h.rd.stays (hk.stays fun k _ e e' => by have := (hC k e').1; omega), h.p, h.gl, h.ml, hw, h.mg, h.mm, hw2⟩
/-- The waiting row, cut by what has been acknowledged. -/
theorem InMid.cut {n wb cw mW : Nat} (h : InMid D M w g mb p A2 c2 s a m L R (.slice (some ⟨wb, 0, none⟩) mW cw) ws wx)
    (ho : wy.ownsRow 0 28 1 (.slice (some ⟨wb, 0, none⟩) (mW - n) cw) (mW - n) (ws.drop n)) (hm : mW = ws.length) (hk : Keeps (· = wb) wx wy) :
    InMid D M w g mb p A2 c2 s a m L { R with wait := R.wait.drop n, acked := a } (.slice (some ⟨wb, 0, none⟩) (mW - n) cw) (ws.drop n) ((wy.setCell ⟨g, 2, none⟩ (.slice (some ⟨wb, 0, none⟩) (mW - n) cw)).setCell ⟨g, 3, none⟩ (.int .i64 (a : Int))) := by
  obtain ⟨hd1, hd2, hd3⟩ := h.endAt.dw wb rfl
  have hwl := h.wl wb rfl
  have hE1 : EndAt (Plus D w) (wy.setCell ⟨g, 2, none⟩ (.slice (some ⟨wb, 0, none⟩) (mW - n) cw)) g { R with wait := R.wait.drop n } (.slice (some ⟨wb, 0, none⟩) (mW - n) cw) mb (ws.drop n) L :=
    h.endAt.setWait (w := wy) (fun k _ e => e) (hk.block g (lt_of_block h.endAt.blk) (Ne.symm hd2)) (hk.block mb h.endAt.held.lt (Ne.symm hd3))
      (by rw [List.length_drop, ← hm]; exact ho) (fun k e => by cases e; exact ⟨hd1, hd2, hd3⟩)
      ((h.endAt.each.drop n).stays (hk.stays fun k _ e e' => e.2.2.2 (by rw [e']; rfl))) (h.endAt.hb.stays (hk.stays fun k _ e e' => e.2.2.2 (by rw [e']; rfl)))
  have hE2 := hE1.setAcked a
  refine h.moved (C := fun k => k = wb ∨ k = g) (((hk.mono fun k _ e => .inl e).setCell (.inr rfl) _).setCell (.inr rfl) _) (fun k e => ?_) hE2 (fun k e => by cases e; exact hwl) (fun k e => by cases e; exact h.mw wb rfl)
  rcases e with rfl | rfl
  · exact ⟨hwl, h.mw _ rfl⟩
  · exact ⟨h.gl, h.mg⟩
theorem InMid.owe (h : InMid D M w g mb p A2 c2 s a m L R wv ws wx) : InMid D M w g mb p A2 c2 s a m L { R with owing := true } wv ws (wx.setCell ⟨g, 6, none⟩ (.bool true)) :=
  h.moved (C := (· = g)) (Keeps.setCell (D := (· = g)) (p := ⟨g, 6, none⟩) (Keeps.refl _ _) rfl _) (fun k e => by rw [e]; exact ⟨h.gl, h.mg⟩) (h.endAt.setOwing true) h.wl h.mw
end
theorem readP_bounds {c : Bs} {s a : Nat} {m : Bs} (h : readP c = some (s, a, m)) : m.length ≤ 65536 ∧ s ≤ 9223372036854775807 ∧ a ≤ 9223372036854775807 ∧ (0 < s ∨ m = []) := by
  unfold readP at h
  split at h
  · rename_i s' a' m' hp
    split at h
    · rename_i hok
      simp only [Option.some.injEq, Prod.mk.injEq] at h
      obtain ⟨rfl, rfl, rfl⟩ := h
      obtain ⟨h1, h2, _⟩ := parts_bounds hp
      unfold I64 at h1 h2
      unfold okPkt at hok
      simp at hok
      refine ⟨hok.1.2, by omega, by omega, ?_⟩
      rcases hok.2 with h | h
      · exact .inl (by omega)
      · exact .inr (by simpa using h)
    · cases h
  · cases h
def InAt (D M : Nat → Prop) (w : World) (g mb p : Nat) (A2 : Option Addr) (c2 s a : Nat) (m : Bs) (L : List (Nat × Value)) (T : St) (wx : World) : Prop := ∃ wv ws, InMid D M w g mb p A2 c2 s a m L T.raw wv ws wx
/-- The end, and that what it writes to is of M. -/
def IsEndM (D M : Nat → Prop) (w : World) (g : Nat) (S : St) : Prop := ∃ wv mb ws L, EndAt D w g S.raw wv mb ws L ∧ M mb ∧ ∀ k, wv.ownBlock = some k → M k
/-- What In leaves; M: what it may have changed. -/
def InPostM (D M : Nat → Prop) (w : World) (g : Nat) (r : List Bs × Nat × St) (e : Ending) (w' : World) : Prop :=
  ∃ v vs, e = .returned (.tuple #[v, .int .i64 (r.2.1 : Int)]) ∧ Rows (fun k => Plus D w k ∧ k ≠ g) w.heap.size w' v vs r.1 ∧ IsEndM (Plus D w) M w' g r.2.2 ∧ Keeps M w w'
theorem in_noneM {D M : Nat → Prop} {w w' : World} {g : Nat} {S : St} {k : Nat} (h : IsEndM (Plus D w) M w' g S) (hk : Keeps M w w') : InPostM D M w g ([], k, S) (.returned (.tuple #[.slice none 0 0, .int .i64 (k : Int)])) w' :=
  ⟨_, [], rfl, Rows.nil _ _ _, h, hk⟩
theorem in_done {D M : Nat → Prop} {w wx w9 : World} {g mb : Nat} {wv : Value} {ws : List Value} {r : List Bs × St} {v9 : Value} {vs9 : List Value} (hM : Keeps M w wx) (hg : M g) (hm : M mb) (hw : ∀ k, wv.ownBlock = some k → M k) (hr : Rows (fun k => Own (Plus D w) g mb wv k) wx.heap.size w9 v9 vs9 r.1) (hE : ∃ L, EndAt (Plus D w) w9 g r.2.raw wv mb ws L) (hK : Keeps (fun k => k = g ∨ k = mb) wx w9) :
    InPostM D M w g (r.1, 0, r.2) (.returned (.tuple #[v9, .int .i64 0])) w9 :=
  ⟨v9, vs9, rfl, ⟨own_rebase hr.1 hM.size, hr.2.mono fun k _ e => ⟨⟨e.1.1, e.1.2.1⟩, e.2⟩⟩, (by obtain ⟨L, hE⟩ := hE; exact ⟨wv, mb, ws, L, hE, hm, hw⟩), hM.trans hK fun _ _ e => by
    rcases e with e | e
    · rw [e]; exact hg
    · rw [e]; exact hm⟩
/-- deliver, with what is changed named. -/
theorem deliver_at (D : Nat → Prop) (g mb : Nat) (S : St) (wv : Value) (ws : List Value) (L : List (Nat × Value)) (w : World) (h : EndAt D w g S.raw wv mb ws L) (hgot : S.got + S.held.length ≤ 3000000) :
    Calls Try.prog 72 #[.pointer (some ⟨g, 0, none⟩)] w (DeliverAt D w g mb wv ws (deliverN (S.held.length + 1) S)) := by
  refine (deliver_walk (fun k => D k ∧ k < w.heap.size) g mb S wv ws L w (fun k e => e.2) (h.mono fun k hk e => ⟨e, hk⟩) hgot).mono ?_
  rintro e w' ⟨v, vs, he, hr, ⟨L', hE⟩, hK⟩
  exact ⟨v, vs, he, hr.mono fun k _ e => ⟨e.1.1, e.2⟩, ⟨L', hE.mono fun k _ e => e.1⟩, hK⟩
set_option maxRecDepth 100000 in
set_option maxHeartbeats 3200000 in
theorem in_take_at (D M : Nat → Prop) (g mb : Nat) (S : St) (wv : Value) (ws : List Value) (L : List (Nat × Value)) (hS : S.Ok) (A : Option Addr) (b : Bs) (n c : Nat) (w : World) (h : EndAt D w g S.raw wv mb ws L) (mg : M g) (mm : M mb) (mw : ∀ k, wv.ownBlock = some k → M k) (hn : n = b.length) (hc : n ≤ c) (hl : n ≤ 17592186044416) (hR : Rd w A (bv b)) (cr : Bs) (ho : Hid (openP S.key b = .ok cr)) (s a : Nat) (m : Bs) (hr : Hid (readP cr = some (s, a, m))) :
    Calls Try.prog 50 #[.pointer (some ⟨g, 0, none⟩), .slice A n c] w (InPostM D M w g ((S.take s a m).1, 0, (S.take s a m).2)) := by
  have MM := hide (And.intro mg (And.intro mm mw))
  clear mg mm mw
  obtain ⟨_, c1, _⟩ := h.cells
  have hgm := lt_of_block h.blk
  have e1 : S.raw.key = S.key := rfl
  rw [e1] at c1
  have hkey := hide hS.key
  have HE := hide h
  have HN := hide hn
  have HS := hide hS
  have hcl : cr.length ≤ n := by
    obtain ⟨_, e, _⟩ := open_ok ho.out
    rw [e, hn, List.length_take]
    omega
  obtain ⟨hml, hs63, ha63, _⟩ := readP_bounds hr.out
  clear h hn e1 hS
  go_enter Try.func50, Try.ntmps50
  go_wp2_with fail
  refine (Open_any S.key hkey.out A b n c w HN.out hc (by omega) hR).mono ?_
  rintro e w1 ⟨hB, hp⟩
  rw [ho.out] at hp
  obtain ⟨vc, rfl, hoc⟩ := hp
  obtain ⟨Ac, cc, rfl, hcc, hRc⟩ := Bt.own hoc (by omega)
  go_wp2_with fail
  refine (read_any Ac cr cr.length cc w1 rfl hcc hRc (by omega)).mono ?_
  rintro e w2 ⟨hB2, s2, a2, A2, n2, c2, rfl, hq⟩
  obtain ⟨rfl, rfl, rfl, hc2, hR2⟩ := hq s a m hr.out
  rw [hr.out]
  have hz1 := hB.size
  have hz2 := hB2.size
  have hM : InMid D M w g mb w2.heap.size A2 c2 s a m L S.raw wv ws (w2.alloc (.cells #[.int .i64 (s : Int), .int .i64 (a : Int), .slice A2 m.length c2] 103)) := by
    have hb2 := since_alloc (since_call hB hB2) (.cells #[.int .i64 (s : Int), .int .i64 (a : Int), .slice A2 m.length c2] 103)
    have hR3 := rd_block2 w2 #[.int .i64 (s : Int), .int .i64 (a : Int), .slice A2 m.length c2] 103 _ rfl (by simp)
    obtain ⟨bb, oo, ee, hcell⟩ := hR3.2 (by simp)
    cases ee
    exact ⟨(HE.out.stays (Stays.of_new hb2)).mono fun _ _ e => .inl e, Keeps.of_new hb2, hcell 0 _ rfl, hcell 1 _ rfl, hcell 2 _ rfl, (hR2.stays (Stays.of_new ((Below.refl _ _).alloc (Nat.le_refl _) _))).mono fun k _ e => by omega, by omega, hgm, HE.out.held.lt, fun k e => (HE.out.own.lt k e).2, MM.out.1, MM.out.2.1, MM.out.2.2⟩
  go_wp2_with fail
  generalize w2.alloc (.cells #[.int .i64 (s : Int), .int .i64 (a : Int), .slice A2 m.length c2] 103) = W at *
  generalize w2.heap.size = p at *
  have HM := hide hM
  have hsl := HS.out.sent
  have hal := HS.out.acked
  have hgl := HS.out.got
  obtain ⟨Bw, cw, rfl, hRw, hcw⟩ := HM.out.endAt.wait_slice (by rw [St.raw_len]; unfold St.waiting; omega)
  rw [St.raw_len] at hcw
  obtain ⟨d0, d1, d2, d3, d4, d5, d6, d7⟩ := HM.out.endAt.cells
  have q0 := hM.c0
  have q1 := hM.c1
  have q2 := hM.c2
  have e3 : S.raw.acked = S.acked := rfl
  have e4 : S.raw.got = S.got := rfl
  rw [e3] at d3
  rw [e4] at d4
  rw [St.raw_len] at d2
  clear hM hB2 hR2 hz2 hq e3 e4 hRc hoc
  have hw1 : IntKind.i64.wrap ((S.acked : Int) + (S.waiting : Int)) = (S.acked : Int) + (S.waiting : Int) := by rw [IntKind.wrap_i64]; unfold St.waiting; omega
  have hw2 : IntKind.i64.wrap ((S.got : Int) + 16) = (S.got : Int) + 16 := by rw [IntKind.wrap_i64]; omega
  have hsum : S.acked + S.waiting = S.sent.length := by unfold St.waiting; omega
  have HSUM := hide hsum
  clear hsum
  by_cases hA : S.sent.length < a
  · have hdec : decide ((S.acked : Int) + (S.waiting : Int) < (a : Int)) = true := by rw [decide_eq_true_iff]; have := HSUM.out; omega
    go_quiet (fail)
    go_wp2
    go_ret2
    rw [take_refuse (.inl hA)]
    exact in_noneM (k := 0) ⟨_, _, _, _, (HM.out.drewN _).endAt, HM.out.mm, HM.out.mw⟩ (HM.out.drewN _).keeps
  · by_cases hG : S.got + 16 < s
    · have hdec : decide ((S.acked : Int) + (S.waiting : Int) < (a : Int)) = false := by rw [decide_eq_false_iff_not]; have := HSUM.out; omega
      have hdec2 : (S.got : Int) + 16 < (s : Int) := by omega
      go_quiet (fail)
      go_wp2
      go_ret2
      rw [take_refuse (.inr hG)]
      exact in_noneM (k := 0) ⟨_, _, _, _, (HM.out.drewN _).endAt, HM.out.mm, HM.out.mw⟩ (HM.out.drewN _).keeps
    · have hdec : decide ((S.acked : Int) + (S.waiting : Int) < (a : Int)) = false := by rw [decide_eq_false_iff_not]; have := HSUM.out; omega
      have hdec2 : decide ((S.got : Int) + 16 < (s : Int)) = false := by rw [decide_eq_false_iff_not]; omega
      go_quiet (fail)
      have hw3 : IntKind.i64.wrap ((a : Int) - (S.acked : Int)) = (a : Int) - (S.acked : Int) := by rw [IntKind.wrap_i64]; omega
      go_wp2_with fail
      go_quiet (fail)
      go_upto_if 72 with fail
      go_cut [10] (fun _ wx => InAt D M w g mb p A2 c2 s a m L (S.ack a) wx)
      case first =>
        by_cases hadv : a ≤ S.acked
        · have hd3 : decide (0 < (a : Int) - (S.acked : Int)) = false := by rw [decide_eq_false_iff_not]; omega
          go_wp2_with fail
          go_meet
          have e : (S.ack a).raw = S.raw := by unfold St.ack St.raw; simp only [Nat.max_eq_left hadv]
          exact ⟨_, _, by rw [e]; exact HM.out.drewN _⟩
        · have hd3 : 0 < (a : Int) - (S.acked : Int) := by omega
          obtain ⟨dn, hdn⟩ : ∃ dn : Nat, a = S.acked + dn := ⟨a - S.acked, by omega⟩
          have hwsl : S.waiting = ws.length := by rw [HM.out.endAt.each.1, St.raw_len]
          obtain ⟨wb, cw', ev, _, _⟩ := HM.out.endAt.own.form (by rw [← hwsl]; have := HSUM.out; omega)
          rw [St.raw_len] at HM ev
          rw [← hwsl] at ev
          cases ev
          have hsub : (a : Int) - (S.acked : Int) = (dn : Int) := by omega
          have HSB := hide hsub
          rw [hsub] at hw3 hd3
          have howned := HM.out.endAt.own
          rw [← hwsl] at howned
          have hones := hide HM.out.endAt.each.ones
          have hdnle : dn ≤ S.waiting := by have := HSUM.out; omega
          have hdn0 : 0 < dn := by omega
          have HWL := hide hwsl
          have HA2 := hide (show (S.ack a).raw = { S.raw with wait := S.raw.wait.drop dn, acked := a } from by
            unfold St.ack St.raw
            simp only [Nat.max_eq_right (show S.acked ≤ a by omega), List.drop_drop, ← hdn])
          have hgl2 := lt_of_block HM.out.endAt.blk
          have hpl2 : p < W.heap.size := World.block_lt_of_cell? _ _ q1
          have hgwb : ¬ g = wb := (HM.out.endAt.dw wb rfl).2.1.symm
          have hpwb : ¬ p = wb := fun e => by have := HM.out.wl wb rfl; have := HM.out.p; omega
          have HF := hide (HM.out.endAt.free)
          clear hdn hwsl
          go_wp2_with fail
          refine (delete_any wb S.waiting cw dn ws _ HWL.out hdn0 hdnle (own_drewN howned _) hones.out).mono ?_
          rintro e w3 ⟨rfl, ho3, hk3⟩
          have hk3' : Keeps (· = wb) W w3 := ⟨hk3.os, hk3.tape, hk3.output, hk3.size, hk3.block⟩
          have x2 := (hk3'.cell (p := ⟨g, 2, none⟩) hgl2 hgwb).trans d2
          have x3 := (hk3'.cell (p := ⟨g, 3, none⟩) hgl2 hgwb).trans d3
          have y1 := (hk3'.cell (p := ⟨p, 1, none⟩) hpl2 hpwb).trans q1
          have z2 : w3.frozen? ⟨g, 2, none⟩ = false := (World.frozen?_of_block (w := W) (hk3'.block g hgl2 hgwb)).trans (HF.out 2)
          have z3 : w3.frozen? ⟨g, 3, none⟩ = false := (World.frozen?_of_block (w := W) (hk3'.block g hgl2 hgwb)).trans (HF.out 3)
          have hpg : p ≠ g := fun e => by have := HM.out.gl; have := HM.out.p; omega
          have hgp : g ≠ p := fun e => hpg e.symm
          clear d0 d1 d2 d3 d4 d5 d6 d7 q0 q1 q2 hk3 howned
          go_wp2_with fail
          go_meet
          exact ⟨_, _, by rw [HA2.out]; exact HM.out.cut ho3 HWL.out hk3'⟩
      case rest =>
        obtain ⟨wv1, ws1, hM1⟩ := hcut
        have HM1 := hide hM1
        have q0' := hM1.c0
        clear d0 d1 d2 d3 d4 d5 d6 d7 q0 q1 q2 hRw hM1 hw1
        by_cases hs0 : s = 0
        · have hs0' : ((s : Int) == 0) = true := by rw [hs0]; rfl
          have HS0 := hide hs0
          clear hs0
          go_wp2
          go_ret2
          have e0 := HS0.out
          subst e0
          rw [take_ack hA]
          exact in_noneM (k := 0) ⟨_, _, _, _, HM1.out.endAt, HM1.out.mm, HM1.out.mw⟩ HM1.out.keeps
        · have hs0' : ((s : Int) == 0) = false := by rw [beq_eq_false_iff_ne]; omega
          have hs0 : 0 < s := by omega
          have d6' := HM1.out.endAt.cells.2.2.2.2.2.2.1
          have f6' := HM1.out.endAt.free 6
          have hgp : g ≠ p := fun e => by have := HM1.out.gl; have := HM1.out.p; omega
          have hpg : p ≠ g := fun e => hgp e.symm
          go_upto_region 18 with fail
          have HM2 : Hid (InMid D M w g mb p A2 c2 s a m L (S.ack a).owe.raw wv1 ws1 (wc.setCell ⟨g, 6, none⟩ (.bool true))) := HM1.out.owe
          clear d6' f6' q0' HM1
          generalize wc.setCell ⟨g, 6, none⟩ (.bool true) = W2 at *
          have x4 : W2.cell? ⟨g, 4, none⟩ = some (.int .i64 (S.got : Int)) := HM2.out.endAt.cells.2.2.2.2.1
          have x5 := HM2.out.endAt.cells.2.2.2.2.2.1
          have y0 := HM2.out.c0
          have y2 := HM2.out.c2
          have hbd : Hid ((S.ack a).owe.got + (S.ack a).owe.held.length ≤ 3000000) := by have := HS.out.got; have := HS.out.few; show S.got + S.held.length ≤ 3000000; omega
          rcases HM2.out.endAt.hb.find s with ⟨hf, hl⟩ | ⟨b9, vb9, hf, hl, _⟩
          · have hf' : findH s S.held = none := hf
            have hlk : ∀ w' : World, w'.heap = W2.heap → w'.cell? ⟨g, 5, none⟩ = some (.map (some mb)) ∧ w'.cell? ⟨p, 0, none⟩ = some (.int .i64 (s : Int)) ∧ (Instr.lookup 99 (.map (some mb)) (.int .i64 (s : Int)) true).run Try.prog w' = .ok (.tuple #[.slice none 0 0, .bool false]) w' := fun w' h =>
              have hb0 : ∀ k, w'.heap[k]? = W2.heap[k]? := fun k => by rw [h]
              ⟨(World.cell?_of_block (w := W2) (hb0 g)).trans x5, (World.cell?_of_block (w := W2) (hb0 p)).trans y0, (HM2.out.endAt.held.stays (hb0 mb)).look_none (k := s) hs63 hl⟩
            have HLK := hide hlk
            clear hlk
            by_cases hsg : s ≤ S.got
            · have hd5 : decide (S.got < s) = false := by rw [decide_eq_false_iff_not]; omega
              have HSG := hide hsg
              clear hsg
              go_wp2_with fail
              go_region_held3 (fun w' => w'.cell? ⟨g, 5, none⟩ = some (.map (some mb)) ∧ w'.cell? ⟨p, 0, none⟩ = some (.int .i64 (s : Int)) ∧ (Instr.lookup 99 (.map (some mb)) (.int .i64 (s : Int)) true).run Try.prog w' = .ok (.tuple #[.slice none 0 0, .bool false]) w') (exact HLK.out _ rfl) (fail)
              go_wp2_with fail
              go_quiet (fail)
              go_wp2_with fail
              refine (deliver_at (Plus D w) g mb (S.ack a).owe _ _ _ _ (HM2.out.drewN _).endAt hbd.out).mono ?_
              rintro e w9 ⟨v9, vs9, rfl, hr9, hE9, hK9⟩
              go_wp2
              go_ret2
              rw [take_old hA hG hs0 (.inl HSG.out) HS.out.first]
              exact in_done (HM2.out.drewN _).keeps HM2.out.mg HM2.out.mm HM2.out.mw hr9 hE9 hK9
            · have hd5 : (S.got : Int) < (s : Int) := by omega
              go_wp2_with fail
              go_region_held3 (fun w' => w'.cell? ⟨g, 5, none⟩ = some (.map (some mb)) ∧ w'.cell? ⟨p, 0, none⟩ = some (.int .i64 (s : Int)) ∧ (Instr.lookup 99 (.map (some mb)) (.int .i64 (s : Int)) true).run Try.prog w' = .ok (.tuple #[.slice none 0 0, .bool false]) w') (exact HLK.out _ rfl) (fail)
              go_wp2_with fail
              go_quiet (fail)
              go_wp2_with fail
              have hS20 : ∀ w' : World, (∀ k, k = g ∨ k = p → w'.heap[k]? = W2.heap[k]?) → w'.cell? ⟨g, 5, none⟩ = some (.map (some mb)) ∧ w'.cell? ⟨p, 0, none⟩ = some (.int .i64 (s : Int)) ∧ w'.cell? ⟨p, 2, none⟩ = some (.slice A2 m.length c2) := fun w' h =>
                ⟨(World.cell?_of_block (w := W2) (h g (.inl rfl))).trans x5, (World.cell?_of_block (w := W2) (h p (.inr rfl))).trans y0, (World.cell?_of_block (w := W2) (h p (.inr rfl))).trans y2⟩
              have HS20 := hide hS20
              have hgl3 := lt_of_block HM2.out.endAt.blk
              have hpl3 : p < W2.heap.size := World.block_lt_of_cell? _ _ y0
              have hmb3 : p ≠ mb := fun e => by have := HM2.out.ml; have := HM2.out.p; omega
              have hgm3 : g ≠ mb := fun e => HM2.out.endAt.ne e.symm
              have hRdg : ∀ X : World, X.heap = W2.heap → Rd X A2 (bv m) := fun X h => (HM2.out.rd.stays (w' := X) (fun k _ _ => by rw [h])).rd
              have HRG := hide hRdg
              have hlm1 := hide (show m.length ≤ 140737488355328 from by omega)
              have hlm2 := hide (show m.length ≤ 9223372036854775807 from by omega)
              have hlf := hide hl
              have hkk := hide hs63
              clear hS20 hRdg x4 x5 y0 y2 hl
              go_region_held3 (fun w' => w'.cell? ⟨g, 5, none⟩ = some (.map (some mb)) ∧ w'.cell? ⟨p, 0, none⟩ = some (.int .i64 (s : Int)) ∧ w'.cell? ⟨p, 2, none⟩ = some (.slice A2 m.length c2))
                (first
                  | exact HS20.out _ HS6.out
                  | exact HS20.out _ HS5.out
                  | exact HS20.out _ (fun _ _ => rfl)
                  | fail)
                ((go_at_call 69; refine (clone_any A2 m m.length c2 _ rfl (HRG.out _ (by rfl)) hlm1.out).mono ?_; rintro e w5 ⟨v5, rfl, ho5, hB5⟩; obtain ⟨A5, c5, rfl, hc5, hR5⟩ := Bt.own ho5 hlm2.out; have hB5' : Below W2.heap.size W2 w5 := ⟨hB5.os, hB5.tape, hB5.output, hB5.size, hB5.block⟩; have HS5 := hide (fun k (hk : k = g ∨ k = p) => hB5'.block k (by rcases hk with rfl | rfl; exact hgl3; exact hpl3));
                  obtain ⟨w6, hup, hm6, hk6⟩ := (HM2.out.endAt.held.stays (hB5'.block mb HM2.out.endAt.held.lt)).put hkk.out hlf.out (.slice A5 m.length c5); have HS6 := hide (fun k (hk : k = g ∨ k = p) => (hk6.block k (Nat.lt_of_lt_of_le (by rcases hk with rfl | rfl; exact hgl3; exact hpl3) hB5'.size) (by rcases hk with rfl | rfl; exact hgm3; exact hmb3)).trans (HS5.out k hk))))
              have hv5 : Bt (Own (Plus D w) g mb wv1) w5 (.slice A5 m.length c5) m := (Bt.of_own ho5 hlm2.out).mono fun k hk e => by
                have h1 : W2.heap.size ≤ k := (ho5.lt k e).1
                have h2 := HM2.out.keeps.size
                have h3 := HM2.out.endAt.held.lt
                exact ⟨.inr (by omega), by omega, by omega, fun e' => by have := HM2.out.wl k e'; omega⟩
              have hE6 : EndAt (Plus D w) w6 g ((S.ack a).owe.hold s m).raw wv1 mb ws1 (L ++ [(s, .slice A5 m.length c5)]) :=
                (HM2.out.endAt.stays (Stays.of_new hB5')).setHeld hk6 hm6 (HB.snoc hv5 (HM2.out.endAt.hb.stays (Stays.of_new hB5')))
              have hK6 : Keeps M w w6 := (HM2.out.keeps.then (Keeps.of_new hB5')).then (hk6.mono fun k _ e => by rw [e]; exact HM2.out.mm)
              have hbd6 : ((S.ack a).owe.hold s m).got + ((S.ack a).owe.hold s m).held.length ≤ 3000000 := by
                have := HS.out.got
                have := HS.out.few
                simp only [St.hold, St.owe, St.ack, List.length_append, List.length_cons, List.length_nil]
                omega
              go_wp2_with fail
              refine (deliver_at (Plus D w) g mb ((S.ack a).owe.hold s m) _ _ _ _ hE6 hbd6).mono ?_
              rintro e w9 ⟨v9, vs9, rfl, hr9, hE9, hK9⟩
              go_wp2
              go_ret2
              rw [take_new hA hG hs0 (by rw [hf']; simp; omega)]
              exact in_done hK6 HM2.out.mg HM2.out.mm HM2.out.mw hr9 hE9 hK9
          · have hf' : findH s S.held = some b9 := hf
            have hfs := hide (show (findH s S.held).isSome from by rw [hf']; rfl)
            have hlk : ∀ w' : World, w'.heap = W2.heap → w'.cell? ⟨g, 5, none⟩ = some (.map (some mb)) ∧ w'.cell? ⟨p, 0, none⟩ = some (.int .i64 (s : Int)) ∧ (Instr.lookup 99 (.map (some mb)) (.int .i64 (s : Int)) true).run Try.prog w' = .ok (.tuple #[vb9, .bool true]) w' := fun w' h =>
              have hb0 : ∀ k, w'.heap[k]? = W2.heap[k]? := fun k => by rw [h]
              ⟨(World.cell?_of_block (w := W2) (hb0 g)).trans x5, (World.cell?_of_block (w := W2) (hb0 p)).trans y0, (HM2.out.endAt.held.stays (hb0 mb)).look_some (k := s) hs63 hl⟩
            have HLK := hide hlk
            clear hlk
            clear hf hf'
            by_cases hsg : s ≤ S.got
            · have hd5 : decide (S.got < s) = false := by rw [decide_eq_false_iff_not]; omega
              clear hsg
              go_wp2_with fail
              go_region_held3 (fun w' => w'.cell? ⟨g, 5, none⟩ = some (.map (some mb)) ∧ w'.cell? ⟨p, 0, none⟩ = some (.int .i64 (s : Int)) ∧ (Instr.lookup 99 (.map (some mb)) (.int .i64 (s : Int)) true).run Try.prog w' = .ok (.tuple #[vb9, .bool true]) w') (exact HLK.out _ rfl) (fail)
              go_wp2_with fail
              go_quiet (fail)
              go_wp2_with fail
              refine (deliver_at (Plus D w) g mb (S.ack a).owe _ _ _ _ (HM2.out.drewN _).endAt hbd.out).mono ?_
              rintro e w9 ⟨v9, vs9, rfl, hr9, hE9, hK9⟩
              go_wp2
              go_ret2
              rw [take_old hA hG hs0 (.inr hfs.out) HS.out.first]
              exact in_done (HM2.out.drewN _).keeps HM2.out.mg HM2.out.mm HM2.out.mw hr9 hE9 hK9
            · have hd5 : (S.got : Int) < (s : Int) := by omega
              clear hsg
              go_wp2_with fail
              go_region_held3 (fun w' => w'.cell? ⟨g, 5, none⟩ = some (.map (some mb)) ∧ w'.cell? ⟨p, 0, none⟩ = some (.int .i64 (s : Int)) ∧ (Instr.lookup 99 (.map (some mb)) (.int .i64 (s : Int)) true).run Try.prog w' = .ok (.tuple #[vb9, .bool true]) w') (exact HLK.out _ rfl) (fail)
              go_wp2_with fail
              go_quiet (fail)
              go_wp2_with fail
              refine (deliver_at (Plus D w) g mb (S.ack a).owe _ _ _ _ (HM2.out.drewN _).endAt hbd.out).mono ?_
              rintro e w9 ⟨v9, vs9, rfl, hr9, hE9, hK9⟩
              go_wp2
              go_ret2
              rw [take_old hA hG hs0 (.inr hfs.out) HS.out.first]
              exact in_done (HM2.out.drewN _).keeps HM2.out.mg HM2.out.mm HM2.out.mw hr9 hE9 hK9
theorem in_take (D : Nat → Prop) (g : Nat) (S : St) (hS : S.Ok) (A : Option Addr) (b : Bs) (n c : Nat) (w : World) (h : IsEnd D w g S) (hn : n = b.length) (hc : n ≤ c) (hl : n ≤ 17592186044416) (hR : Rd w A (bv b)) (cr : Bs) (ho : Hid (openP S.key b = .ok cr)) (s a : Nat) (m : Bs) (hr : Hid (readP cr = some (s, a, m))) :
    Calls Try.prog 50 #[.pointer (some ⟨g, 0, none⟩), .slice A n c] w (InPost D w g ((S.take s a m).1, 0, (S.take s a m).2)) := by
  obtain ⟨wv, mb, ws, L, h⟩ := h
  refine (in_take_at D D g mb S wv ws L hS A b n c w h h.dg h.dm (fun k e => (h.dw k e).1) hn hc hl hR cr ho s a m hr).mono ?_
  rintro e w' ⟨v, vs, he, hr, ⟨wv', mb', ws', L', hE, _⟩, hK⟩
  exact ⟨v, vs, he, hr, ⟨wv', mb', ws', L', hE⟩, hK⟩
/-- link's In. -/
theorem in_any (D : Nat → Prop) (g : Nat) (S : St) (hS : S.Ok) (A : Option Addr) (b : Bs) (n c : Nat) (w : World) (h : IsEnd D w g S) (hn : n = b.length) (hc : n ≤ c) (hl : n ≤ 17592186044416) (hR : Rd w A (bv b)) :
    Calls Try.prog 50 #[.pointer (some ⟨g, 0, none⟩), .slice A n c] w (InPost D w g (S.inn b)) := by
  cases ho : openP S.key b with
  | error k =>
    rcases open_err ho with rfl | rfl
    · rw [show S.inn b = ([], 2, S) from by simp [St.inn, ho]]
      exact in_short D g S hS A b n c w h hn hc hl hR (hide ho)
    · rw [show S.inn b = ([], 9, S.forge) from by simp [St.inn, ho]]
      exact in_sum D g S hS A b n c w h hn hc hl hR (hide ho)
  | ok cr =>
    cases hr : readP cr with
    | none =>
      rw [show S.inn b = ([], 2, S) from by simp [St.inn, ho, hr]]
      exact in_form D g S hS A b n c w h hn hc hl hR cr (hide ho) (hide hr)
    | some x =>
      obtain ⟨s, a, m⟩ := x
      rw [show S.inn b = ((S.take s a m).1, 0, (S.take s a m).2) from by simp [St.inn, ho, hr]]
      exact in_take D g S hS A b n c w h hn hc hl hR cr (hide ho) s a m (hide hr)
end Go.Proofs.Ytopppkafbbfobaa.W
