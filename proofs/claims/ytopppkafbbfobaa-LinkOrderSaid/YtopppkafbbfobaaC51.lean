/- link's Out. -/
import Derived.Test.YtopppkafbbfobaaM4
import Derived.Test.YtopppkafbbfobaaC73
import Derived.Deep.DeepCutAuto
namespace Go.Proofs.Ytopppkafbbfobaa.W
open Go.RowKit
attribute [local go_sem ↓] Go.wp_at_zero Go.wp_at_succ
theorem cel28 : Try.prog.cellsOf 28 = 1 := by kernel_rfl
theorem ino28 : (Try.prog.info? 28).isSome = true := by kernel_rfl
/-- What Out leaves. -/
def OutPost (D : Nat → Prop) (w : World) (g : Nat) (S : St) (e : Ending) (w' : World) : Prop :=
  ∃ v vs, e = .returned v ∧ Rows (fun k => w.heap.size ≤ k) w.heap.size w' v vs S.out ∧ IsEnd D w' g S.quiet ∧ Keeps (· = g) w w'
theorem getD_left {α : Type} {l l2 : List α} {i : Nat} {d : α} (h : i < l.length) : (l ++ l2).getD i d = l.getD i d := by
  rw [List.getD_eq_getElem?_getD, List.getElem?_append_left h, ← List.getD_eq_getElem?_getD]
/-- Rows of the call's own, each in a block of its own that is not the list's. -/
def Sep (B : Nat) (w : World) (v : Value) (vs : List Value) (ls : List Bs) : Prop :=
  vs.length = ls.length ∧ ∀ i, i < ls.length → w.ownsRow B 5 1 (vs.getD i undef) (ls.getD i []).length (bv (ls.getD i [])) ∧ ∀ k, (vs.getD i undef).ownBlock = some k → v.ownBlock ≠ some k ∧ ∀ j, j < i → (vs.getD j undef).ownBlock ≠ some k
theorem Sep.nil (B : Nat) (w : World) (v : Value) : Sep B w v [] [] := ⟨rfl, fun _ h => absurd h (Nat.not_lt_zero _)⟩
theorem Sep.stays {B : Nat} {w w' : World} {v : Value} {vs : List Value} {ls : List Bs} (h : Sep B w v vs ls) (hs : ∀ k, k < w.heap.size → v.ownBlock ≠ some k → B ≤ k → w'.heap[k]? = w.heap[k]?) : Sep B w' v vs ls :=
  ⟨h.1, fun i hi => ⟨own_stays (h.2 i hi).1 fun k hk e => hs k hk ((h.2 i hi).2 k e).1 ((h.2 i hi).1.lt k e).1, (h.2 i hi).2⟩⟩
theorem Sep.push {B g cap : Nat} {w w1 w2 w3 : World} {v vn : Value} {vs : List Value} {ls : List Bs} {b : Bs} (h : Sep B w v vs ls) (hv : ∀ k, v.ownBlock = some k → k < w.heap.size) (hB : B ≤ w.heap.size) (h1 : w.heap.size ≤ w1.heap.size) (h2 : Below w.heap.size w w2)
    (hn : w2.ownsRow w1.heap.size 5 1 vn b.length (bv b)) (hg : w2.grownBy w3 v.ownBlock) (hat : v.ownBlock = some g ∨ w2.heap.size < g) (n : Nat) : Sep B w3 (.slice (some ⟨g, 0, none⟩) n cap) (vs ++ [vn]) (ls ++ [b]) := by
  refine ⟨by simp [h.1], fun i hi => ?_⟩
  have hne : ∀ k, v.ownBlock ≠ some k → k < w2.heap.size → Value.ownBlock (.slice (some ⟨g, 0, none⟩) n cap) ≠ some k := fun k e1 e2 e3 => by
    simp only [Value.ownBlock, Option.some.injEq] at e3
    rcases hat with hat | hat
    · exact e1 (by rw [hat, e3])
    · omega
  by_cases hi2 : i < ls.length
  · obtain ⟨ho, hd⟩ := h.2 i hi2
    rw [getD_left (by rw [h.1]; exact hi2), getD_left hi2]
    have ho2 := own_stays ho (Stays.of_below h2 fun k hk _ => hk)
    refine ⟨own_stays ho2 fun k hk e => hg.block k hk fun e' => (hd k e).1 e'.symm, fun k e => ⟨hne k (hd k e).1 (ho2.lt k e).2, fun j hj => ?_⟩⟩
    rw [getD_left (by rw [h.1]; omega)]
    exact (hd k e).2 j hj
  · have hi3 : i = ls.length := by simp at hi; omega
    subst hi3
    have e1 : (vs ++ [vn]).getD ls.length undef = vn := by rw [← h.1, List.getD_eq_getElem?_getD, List.getElem?_concat_length]; rfl
    have e2 : (ls ++ [b]).getD ls.length [] = b := by rw [List.getD_eq_getElem?_getD, List.getElem?_concat_length]; rfl
    rw [e1, e2]
    have hvn : ∀ k, vn.ownBlock = some k → v.ownBlock ≠ some k := fun k e e' => by have := hv k e'; have := (hn.lt k e).1; omega
    refine ⟨own_up (own_rebase (own_stays hn fun k hk e => hg.block k hk fun e' => hvn k e e'.symm) (Nat.zero_le _)) fun k e => by have := (hn.lt k e).1; omega, fun k e => ⟨hne k (hvn k e) (hn.lt k e).2, fun j hj => ?_⟩⟩
    rw [getD_left (by rw [h.1]; omega)]
    intro e'
    have := ((h.2 j hj).1.lt k e').2
    have := (hn.lt k e).1
    omega
/-- What Out leaves, and that its rows lie apart. -/
def OutPostS (D : Nat → Prop) (w : World) (g : Nat) (S : St) (e : Ending) (w' : World) : Prop :=
  ∃ v vs, e = .returned v ∧ Rows (fun k => w.heap.size ≤ k) w.heap.size w' v vs S.out ∧ IsEnd D w' g S.quiet ∧ Keeps (· = g) w w' ∧ Sep w.heap.size w' v vs S.out ∧ (∀ wv mb ws L, EndAt D w g S.raw wv mb ws L → EndAt D w' g S.quiet.raw wv mb ws L)
theorem pkts_succ (S : St) (k : Nat) : S.pkts (k + 1) = S.pkts k ++ [S.nth k] := by simp [St.pkts, List.range_succ]
theorem out_close {D : Nat → Prop} {g mb : Nat} {S : St} {w W : World} {v wv : Value} {vs ws : List Value} {L : List (Nat × Value)} (h : EndAt D w g S.raw wv mb ws L) (hB : Below w.heap.size w W) (hr : Rows (fun k => w.heap.size ≤ k) w.heap.size W v vs S.out) (hs : Sep w.heap.size W v vs S.out) :
    OutPostS D w g S (.returned v) (W.setCell ⟨g, 6, none⟩ (.bool false)) := by
  have hg := lt_of_block h.blk
  refine ⟨v, vs, rfl, hr.stays (Stays.setCell fun k _ hk => ?_), ⟨_, _, _, _, (h.stays (Stays.of_new hB)).setOwing false⟩, Keeps.setCell (D := (· = g)) (p := ⟨g, 6, none⟩) (Keeps.of_new hB) rfl _, hs.stays fun k _ _ hk => Below.heap_setCell _ _ _ _ (by show k ≠ g; omega), fun _ _ _ _ h => (h.stays (Stays.of_new hB)).setOwing false⟩
  have : w.heap.size ≤ k := by
    rcases hk with hk | hk
    · exact hk
    · exact (hr.1.lt k hk).1
  show k ≠ g
  omega
theorem push_new {w w1 w2 w3 : World} {v vn : Value} {vs : List Value} {ls : List Bs} {b : Bs} {g cap : Nat} (h : Rows (fun k => w.heap.size ≤ k) w.heap.size w1 v vs ls) (h12 : Below w1.heap.size w1 w2) (hw : w.heap.size ≤ w1.heap.size)
    (hn : w2.ownsRow w1.heap.size 5 1 vn b.length (bv b)) (hl : b.length ≤ 9223372036854775807) (ho : w3.ownsRow 0 28 1 (.slice (some ⟨g, 0, none⟩) (vs.length + 1) cap) (vs.length + 1) (vs ++ [vn])) (hg : w2.grownBy w3 v.ownBlock) (hat : v.ownBlock = some g ∨ w2.heap.size < g) :
    Rows (fun k => w.heap.size ≤ k) w.heap.size w3 (.slice (some ⟨g, 0, none⟩) (vs.length + 1) cap) (vs ++ [vn]) (ls ++ [b]) :=
  (h.below h12).push ((Bt.fresh hn hl).mono fun k _ e => ⟨by omega, fun e' => by have := (h.1.lt k e').2; omega⟩) ho hg hat (Nat.le_trans hw h12.size)
set_option maxRecDepth 100000 in
set_option maxHeartbeats 1600000 in
theorem out_walk (D : Nat → Prop) (g mb : Nat) (S : St) (hS : S.Ok) (A : Option Addr) (c m : Nat) (ws : List Value) (L : List (Nat × Value)) (w : World) (h : EndAt D w g S.raw (.slice A m c) mb ws L) (hm : m = S.waiting) (hA : Rd w A ws) (hc : m ≤ c) :
    Calls Try.prog 51 #[.pointer (some ⟨g, 0, none⟩)] w (OutPostS D w g S) := by
  obtain ⟨c0, c1, c2, c3, c4, _, c6, _⟩ := h.cells
  have f6 := h.free 6
  have hgm := World.block_lt_of_cell? _ _ c2
  simp only at hgm
  have e0 : S.raw.win = S.win := rfl
  have e1 : S.raw.key = S.key := rfl
  have e3 : S.raw.acked = S.acked := rfl
  have e4 : S.raw.got = S.got := rfl
  have e6 : S.raw.owing = S.owing := rfl
  rw [e0] at c0
  rw [e1] at c1
  rw [e3] at c3
  rw [e4] at c4
  rw [e6] at c6
  clear e0 e1 e3 e4 e6
  have hs := hS.sent
  have hmle : m ≤ 1000000 := by rw [hm]; unfold St.waiting; omega
  have hwin := hS.win
  have hwin1 := hS.win1
  obtain ⟨q, hq⟩ : ∃ q, q = S.many := ⟨_, rfl⟩
  have hqm : q ≤ m := by rw [hq, hm]; unfold St.many; omega
  have hq16 : q ≤ 16 := by rw [hq]; unfold St.many; omega
  have hqd := hide (show q = min m S.win from by rw [hq, hm]; rfl)
  have hcut := run_cut_to Try.underlying63 cel28 ino28 A m c (q : Int) (by omega) (by omega)
  rw [cutAt_zero, Int.toNat_natCast] at hcut
  have HQ := hide hq
  have HM := hide hm
  have HE := hide h
  have HA := hide hA
  have HS := hide hS
  clear hq hm h hA hS
  go_enter Try.func51, Try.ntmps51
  go_upto_region 2 with fail
  go_cut [20, 21, 22] (fun s20 s21 s22 wx => s20 = .slice A q c ∧ s21 = .int .i64 (q : Int) ∧ s22 = .int .i64 0 ∧ Hid (∃ n, wx = w.drewN n))
  case first =>
    by_cases hlt : S.win < m
    · have hlt' : (S.win : Int) < (m : Int) := by omega
      obtain rfl : q = S.win := by have := hqd.out; omega
      go_quiet (fail)
      go_wp2_with fail
      go_meet
      exact ⟨rfl, rfl, rfl, _, rfl⟩
    · have hlt' : decide ((S.win : Int) < (m : Int)) = false := by rw [decide_eq_false_iff_not]; omega
      obtain rfl : q = m := by have := hqd.out; omega
      go_quiet (fail)
      go_wp2_with fail
      go_meet
      exact ⟨rfl, rfl, rfl, _, rfl⟩
  case rest =>
    obtain ⟨rfl, rfl, rfl, hn⟩ := hcut
    obtain ⟨n, rfl⟩ := hn.out
    have KP : ∀ w', Below w.heap.size w w' → w'.cell? ⟨g, 1, none⟩ = some (.int .u64 (S.key : Int)) ∧ w'.cell? ⟨g, 3, none⟩ = some (.int .i64 (S.acked : Int)) ∧ w'.cell? ⟨g, 4, none⟩ = some (.int .i64 (S.got : Int)) := fun w' hB =>
      ⟨(hB.cell (p := ⟨g, 1, none⟩) hgm).trans c1, (hB.cell (p := ⟨g, 3, none⟩) hgm).trans c3, (hB.cell (p := ⟨g, 4, none⟩) hgm).trans c4⟩
    have HK := hide KP
    clear KP
    have hgot := HS.out.got
    have hack := HS.out.acked
    have hsent := HS.out.sent
    have hkey := hide HS.out.key
    go_wp2_with fail
    go_loopw [3, 22] (fun v i wr => ∃ (k : Nat) (vs : List Value), k ≤ q ∧ i = .int .i64 (k : Int) ∧ Hid (Rows (fun k => w.heap.size ≤ k) w.heap.size wr v vs (S.pkts k)) ∧ Hid (Sep w.heap.size wr v vs (S.pkts k)) ∧ Hid (Below w.heap.size w wr)) (fun _ i _ => q - (intOf i).toNat)
    case atStart => exact ⟨0, [], Nat.zero_le _, rfl, hide (Rows.nil _ _ _), hide (Sep.nil _ _ _), hide (below_drewN (Below.refl _ _) n)⟩
    case round =>
      obtain ⟨k, vs, hk, rfl, hrows, hsep, hBr⟩ := hrel
      by_cases hkq : k < q
      · obtain ⟨b, off, rfl, hcell⟩ := HA.out.2 (by rw [HE.out.each.1, St.raw_len, ← HM.out]; omega)
        obtain ⟨A1, c1', e1, hc1, hR1⟩ := HE.out.each.2 k (by rw [St.raw_len, ← HM.out]; omega)
        have hws : k < ws.length := by rw [HE.out.each.1, St.raw_len, ← HM.out]; omega
        have hwc := hcell k (.slice A1 (S.raw.wait.getD k []).length c1') (by rw [← e1, List.getElem?_eq_getElem hws]; simp [List.getD_eq_getElem?_getD, List.getElem?_eq_getElem hws])
        have hwc2 := (hBr.out.cell (World.block_lt_of_cell? w _ hwc)).trans hwc
        have hmsg := hide (show S.raw.wait.getD k [] = S.sent.getD (S.acked + k) [] from by simp [St.raw, List.getD_eq_getElem?_getD, List.getElem?_drop])
        have hml := hide (show (S.raw.wait.getD k []).length ≤ 65536 from by
          rw [hmsg.out, List.getD_eq_getElem?_getD]
          have hlt : S.acked + k < S.sent.length := by have := HM.out; unfold St.waiting at this; omega
          rw [List.getElem?_eq_getElem hlt]
          exact HS.out.small _ (List.getElem_mem _))
        have hRm := hide (hR1.rd.below hBr.out)
        have hw1 : IntKind.i64.wrap ((S.acked : Int) + (k : Int)) = (S.acked : Int) + (k : Int) := by rw [IntKind.wrap_i64]; omega
        have hw2 : IntKind.i64.wrap ((S.acked : Int) + (k : Int) + 1) = (S.acked : Int) + (k : Int) + 1 := by rw [IntKind.wrap_i64]; omega
        have hI1 : I64 ((S.acked : Int) + (k : Int) + 1) := ⟨by omega, by omega⟩
        have hI2 : I64 (S.got : Int) := ⟨by omega, by omega⟩
        clear hwc hR1 e1 hcell
        have hvs : vs.length = k := by have := hrows.out.2.1; simpa [St.pkts] using this
        have hvl : vs.length ≤ 1000000000 := by omega
        have HVS := hide hvs
        have hrow3 := hide fun k hk => (hrows.out.1.lt k hk).1
        generalize S.raw.wait.getD k [] = msg at *
        have hRmd := hide (rd_drew' hRm.out)
        have hel : (encPkt ((S.acked : Int) + (k : Int) + 1) (S.got : Int) msg).length ≤ 65600 := by
          have h1 := encInts2_length ((S.acked : Int) + (k : Int) + 1) (S.got : Int)
          have h2 := encBytes_length msg
          have h3 := hml.out
          simp only [encPkt, List.length_append]
          omega
        have hsl : (sealed S.key (encPkt ((S.acked : Int) + (k : Int) + 1) (S.got : Int) msg)).length ≤ 65608 := by rw [sealed_length]; omega
        have HPK := hide (show sealed S.key (encPkt ((S.acked : Int) + (k : Int) + 1) (S.got : Int) msg) = S.nth k from by unfold St.nth pkt; rw [hmsg.out]; simp)
        have hl1 := hide (show msg.length ≤ 140737488300000 from by have := hml.out; omega)
        have hl2 := hide (show (encPkt ((S.acked : Int) + (k : Int) + 1) (S.got : Int) msg).length ≤ 9223372036854775807 from by omega)
        have hl3 := hide (show (encPkt ((S.acked : Int) + (k : Int) + 1) (S.got : Int) msg).length ≤ 140737488350000 from by omega)
        have hl4 := hide (show (sealed S.key (encPkt ((S.acked : Int) + (k : Int) + 1) (S.got : Int) msg)).length ≤ 9223372036854775807 from by omega)
        clear hvs hel hsl
        go_wp2_with fail
        go_region_held3 (fun w' => w'.cell? ⟨g, 1, none⟩ = some (.int .u64 (S.key : Int)) ∧ w'.cell? ⟨g, 3, none⟩ = some (.int .i64 (S.acked : Int)) ∧ w'.cell? ⟨g, 4, none⟩ = some (.int .i64 (S.got : Int)))
          (first
            | exact HK.out _ (since_dr hBr.out)
            | exact HK.out _ hS2
            | exact HK.out _ (since_alloc hS43 _)
            | exact HK.out _ hS43
            | exact HK.out _ hS73
            | fail)
          (first
            | (go_at_call 73; refine (pktBytes_any _ _ hI1 hI2 A1 msg msg.length c1' wr.drew rfl hRmd.out hl1.out).mono ?_; rintro e w73 ⟨v73, rfl, ho73, hB73⟩; obtain ⟨A73, c73, rfl, hc73, hR73⟩ := Bt.own ho73 hl2.out; have hS73 := since_call (since_dr hBr.out) hB73)
            | (go_at_call 43; refine (Seal_any S.key hkey.out A73 _ _ c73 w73 rfl hc73 hR73 hl3.out).mono ?_; rintro e w43 ⟨v43, rfl, ho43, hB43⟩; obtain ⟨A43, c43, rfl, hc43, hR43⟩ := Bt.own ho43 hl4.out; have hS43 := since_call hS73 hB43; have hr43 := own_rebase (own_kept (own_kept hrows.out.1 (below_undrew' hB73)) hB43) (Nat.zero_le _))
            | (refine step_grow1 (by rfl) _ _ (by rfl) _ vs.length vs (by rfl) hr43 (by rfl) (by rfl) hvl ?_; intro gg cap w2 ho2 hg2 hat2 hlt2; have hS2 := since_grown hS43 hg2 hrow3.out))
        go_wp2_with fail
        go_roundw
        case rel =>
          have hz := hS73.size
          have hz73 : wr.heap.size ≤ w73.heap.size := hB73.size
          exact ⟨k + 1, _, by omega, by go_num, hide (by rw [pkts_succ, ← HPK.out]; exact push_new hrows.out (Below.trans (below_undrew' hB73) (hB43.mono hB73.size)) hBr.out.size (own_rebase ho43 hB73.size) hl4.out ho2 hg2 hat2), hide (by rw [pkts_succ, ← HPK.out]; exact hsep.out.push (fun k e => (hrows.out.1.lt k e).2) hBr.out.size hz73 (Below.trans (below_undrew' hB73) (hB43.mono hB73.size)) ho43 hg2 hat2 _), hide hS2⟩
        case measure => simp [intOf]; omega
      · obtain rfl : k = q := by omega
        have hvs : vs.length = k := by have := hrows.out.2.1; simpa [St.pkts] using this
        obtain ⟨Av, cv, rfl, _, _⟩ := RdIn.of_own hrows.out.1 (by omega)
        have hr6 := (hBr.out.cell (p := ⟨g, 6, none⟩) hgm).trans c6
        have hf6 := (hBr.out.frozen (p := ⟨g, 6, none⟩) hgm).trans f6
        rcases Nat.eq_zero_or_pos k with h0 | h0
        · subst h0
          have hv0 : vs = [] := List.eq_nil_of_length_eq_zero hvs
          subst hv0
          cases how : S.owing with
          | false =>
            rw [how] at hr6
            have HO := hide (show S.pkts 0 = S.out from by unfold St.out; rw [if_neg (by rw [how]; simp), ← HQ.out])
            clear hvs how c6
            go_wp2
            go_ret
            exact out_close HE.out hBr.out (by rw [← HO.out]; exact hrows.out) (by rw [← HO.out]; exact hsep.out)
          | true =>
            rw [how] at hr6
            have HO := hide (show [S.ackP] = S.out from by unfold St.out; rw [if_pos ⟨HQ.out.symm, how⟩])
            have hI2 : I64 (S.got : Int) := ⟨by omega, by omega⟩
            have hI0 : I64 0 := ⟨by omega, by omega⟩
            have hz0 : 0 ≤ 140737488300000 := Nat.zero_le _
            have hz1 : 0 ≤ 1000000000 := Nat.zero_le _
            have hRn : Rd wr.drew none (bv []) := Rd.nil _ _
            have hel : (encPkt 0 (S.got : Int) []).length ≤ 65600 := by
              have h1 := encInts2_length 0 (S.got : Int)
              have h2 := encBytes_length []
              simp only [encPkt, List.length_append, List.length_nil] at h2 ⊢
              omega
            have hsl : (sealed S.key (encPkt 0 (S.got : Int) [])).length ≤ 65608 := by rw [sealed_length]; omega
            have HPK := hide (show sealed S.key (encPkt 0 (S.got : Int) []) = S.ackP from rfl)
            have hl2 := hide (show (encPkt 0 (S.got : Int) []).length ≤ 9223372036854775807 from by omega)
            have hl3 := hide (show (encPkt 0 (S.got : Int) []).length ≤ 140737488350000 from by omega)
            have hl4 := hide (show (sealed S.key (encPkt 0 (S.got : Int) [])).length ≤ 9223372036854775807 from by omega)
            have hrow3 := hide fun k hk => (hrows.out.1.lt k hk).1
            clear hvs how c6 hel hsl
            go_wp2_with fail
            go_region_held3 (fun w' => w'.cell? ⟨g, 1, none⟩ = some (.int .u64 (S.key : Int)) ∧ w'.cell? ⟨g, 4, none⟩ = some (.int .i64 (S.got : Int)))
              (first
                | exact ⟨(HK.out _ (since_dr hBr.out)).1, (HK.out _ (since_dr hBr.out)).2.2⟩
                | exact ⟨(HK.out _ hS2).1, (HK.out _ hS2).2.2⟩
                | exact ⟨(HK.out _ (since_alloc hS43 _)).1, (HK.out _ (since_alloc hS43 _)).2.2⟩
                | exact ⟨(HK.out _ hS43).1, (HK.out _ hS43).2.2⟩
                | exact ⟨(HK.out _ hS73).1, (HK.out _ hS73).2.2⟩
                | fail)
              (first
                | (go_at_call 73; refine (pktBytes_any 0 _ hI0 hI2 none [] 0 0 wr.drew rfl hRn hz0).mono ?_; rintro e w73 ⟨v73, rfl, ho73, hB73⟩; obtain ⟨A73, c73, rfl, hc73, hR73⟩ := Bt.own ho73 hl2.out; have hS73 := since_call (since_dr hBr.out) hB73)
                | (go_at_call 43; refine (Seal_any S.key hkey.out A73 _ _ c73 w73 rfl hc73 hR73 hl3.out).mono ?_; rintro e w43 ⟨v43, rfl, ho43, hB43⟩; obtain ⟨A43, c43, rfl, hc43, hR43⟩ := Bt.own ho43 hl4.out; have hS43 := since_call hS73 hB43; have hr43 := own_rebase (own_kept (own_kept hrows.out.1 (below_undrew' hB73)) hB43) (Nat.zero_le _))
                | (refine step_grow1 (by rfl) _ _ (by rfl) _ 0 [] (by rfl) hr43 (by rfl) (by rfl) hz1 ?_; intro gg cap w2 ho2 hg2 hat2 hlt2; have hS2 := since_grown hS43 hg2 hrow3.out))
            have hq6 := (hS2.cell (p := ⟨g, 6, none⟩) hgm).trans ((hBr.out.cell (p := ⟨g, 6, none⟩) hgm).symm.trans hr6)
            have hqf6 := (hS2.frozen (p := ⟨g, 6, none⟩) hgm).trans f6
            go_wp2
            go_ret
            exact out_close HE.out hS2 (by rw [← HO.out]; exact push_new (b := S.ackP) hrows.out (Below.trans (below_undrew' hB73) (hB43.mono hB73.size)) hBr.out.size (own_rebase ho43 hB73.size) hl4.out ho2 hg2 hat2) (by rw [← HO.out]; exact Sep.push (b := S.ackP) hsep.out (fun k e => (hrows.out.1.lt k e).2) hBr.out.size (show wr.heap.size ≤ w73.heap.size from hB73.size) (Below.trans (below_undrew' hB73) (hB43.mono hB73.size)) ho43 hg2 hat2 _)
        · have hk0 : ((vs.length : Int) == 0) = false := by rw [beq_eq_false_iff_ne]; omega
          have HO := hide (show S.pkts k = S.out from by unfold St.out; rw [if_neg (by rw [← HQ.out]; omega), ← HQ.out])
          clear hvs
          go_wp2
          go_ret
          exact out_close HE.out hBr.out (by rw [← HO.out]; exact hrows.out) (by rw [← HO.out]; exact hsep.out)
/-- link's Out. -/
theorem out_sep (D : Nat → Prop) (g : Nat) (S : St) (hS : S.Ok) (w : World) (h : IsEnd D w g S) : Calls Try.prog 51 #[.pointer (some ⟨g, 0, none⟩)] w (OutPostS D w g S) := by
  obtain ⟨wv, mb, ws, L, h⟩ := h
  have hs := hS.sent
  obtain ⟨A, c, e, hR, hc⟩ := h.wait_slice (by rw [St.raw_len]; unfold St.waiting; omega)
  rw [St.raw_len] at e hc
  subst e
  exact out_walk D g mb S hS A c _ ws L w h rfl hR.rd hc
theorem out_any (D : Nat → Prop) (g : Nat) (S : St) (hS : S.Ok) (w : World) (h : IsEnd D w g S) : Calls Try.prog 51 #[.pointer (some ⟨g, 0, none⟩)] w (OutPost D w g S) :=
  (out_sep D g S hS w h).mono fun _ _ ⟨v, vs, h1, h2, h3, h4, _⟩ => ⟨v, vs, h1, h2, h3, h4⟩
end Go.Proofs.Ytopppkafbbfobaa.W
