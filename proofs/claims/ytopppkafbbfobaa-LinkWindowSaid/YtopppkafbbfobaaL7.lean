/- LinkWindow: the walk. -/
import Derived.Test.YtopppkafbbfobaaM6
import Derived.Test.YtopppkafbbfobaaA7
import Derived.Test.YtopppkafbbfobaaL6
import Derived.Test.YtopppkafbbfobaaC55
import Derived.Deep.RegionHeld3
import Derived.Deep.OwnRows
import Derived.Deep.DeepCutAuto
namespace Go.Proofs.Ytopppkafbbfobaa.W
def msgs (n : Nat) : List Bs := (List.range n).map fun j => [UInt8.ofNat j]
/-- An end that has sent n messages of one byte. -/
def stW (win key n : Nat) : St := { St.new win key with sent := msgs n }
theorem msgs_length (n : Nat) : (msgs n).length = n := by simp [msgs]
theorem msgs_succ (n : Nat) : msgs (n + 1) = msgs n ++ [[UInt8.ofNat n]] := by simp [msgs, List.range_succ]
theorem msgs_get {n i : Nat} (h : i < n) : (msgs n).getD i [] = [UInt8.ofNat i] := by simp [msgs, List.getD_eq_getElem?_getD, h]
theorem stW_send (win key n : Nat) : (stW win key n).send [UInt8.ofNat n] = stW win key (n + 1) := by
  unfold St.send stW
  simp only [msgs_succ]
theorem stW_ok {win key n : Nat} (hk : key < 18446744073709551616) (h1 : 1 ≤ win) (h2 : win ≤ 16) (hn : n ≤ 900) : (stW win key n).Ok := by
  induction n with
  | zero => exact ok_new hk h1 h2
  | succ n ih =>
    rw [← stW_send]
    exact ok_send (ih (by omega)) (by simp) (by simp [stW, msgs_length]; omega)
theorem stW_full {win key n : Nat} (hn : n ≤ 900) (x : UInt8) : (stW win key n).full [x] = false := by
  simp [St.full, St.waiting, stW, St.new, msgs_length]; omega
theorem stW_waiting (win key n : Nat) : (stW win key n).waiting = n := by simp [St.waiting, stW, St.new, msgs_length]
def pk7 (key q : Nat) : List Bs := (List.range q).map fun i => pkt key (i + 1) 0 [UInt8.ofNat i]
theorem pk7_length (key q : Nat) : (pk7 key q).length = q := by simp [pk7]
theorem pk7_get (key : Nat) {q i : Nat} (h : i < q) : (pk7 key q).getD i [] = pkt key (i + 1) 0 [UInt8.ofNat i] := by simp [pk7, List.getD_eq_getElem?_getD, h]
theorem stW_out (win key n : Nat) : (stW win key n).out = pk7 key (min n win) := by
  unfold St.out
  rw [if_neg (by simp [stW, St.new])]
  unfold St.pkts pk7
  have e : (stW win key n).many = min n win := by unfold St.many; rw [stW_waiting]; rfl
  rw [e]
  apply List.map_congr_left
  intro i hi
  have hi' := List.mem_range.1 hi
  have e2 : ((stW win key n).sent.getD (0 + i) []) = [UInt8.ofNat i] := by rw [Nat.zero_add]; exact msgs_get (by omega)
  unfold St.nth
  rw [show (stW win key n).acked = 0 from rfl, e2, Nat.zero_add]
  rfl
theorem stW_refuse (win key n : Nat) : (stW win key n).take 0 (n + 1) [] = ([], stW win key n) := take_refuse (.inl (by simp [stW, msgs_length]))
theorem stW_ack (win key n k : Nat) (hk : k ≤ n) : (stW win key n).take 0 k [] = ([], (stW win key n).ack k) := take_ack (by simp [stW, msgs_length]; omega)
theorem stW_ack_waiting (win key n k : Nat) : ((stW win key n).ack k).waiting = n - k := by simp [St.waiting, St.ack, stW, St.new, msgs_length]
theorem stW_ack_out (win key n k : Nat) : ((stW win key n).ack k).out.length = min (n - k) win := by
  unfold St.out
  rw [if_neg (by simp [stW, St.new, St.ack])]
  simp only [St.pkts, List.length_map, List.length_range, St.many, stW_ack_waiting]
  rfl
theorem stW_ack_ok {win key n k : Nat} (h : (stW win key n).Ok) (hk : k ≤ n) : ((stW win key n).ack k).Ok :=
  ⟨h.key, h.win1, h.win, by simp [St.ack, stW, St.new, msgs_length]; omega, h.sent, h.got, h.forged, h.small, h.first, h.keys, h.few⟩
def xD1 (key : Nat) : St := ⟨1, key, [], 0, 0, [(2, [1])], true, 0⟩
def xD2 (key : Nat) : St := ⟨1, key, [], 0, 2, [], true, 0⟩
theorem xd1 (key : Nat) : (St.new 1 key).take 2 0 [1] = ([], xD1 key) := rfl
theorem xd2 (key : Nat) : (xD1 key).take 1 0 [0] = ([[0], [1]], xD2 key) := rfl
theorem xd3 (key : Nat) : (xD1 key).take (0 + 1) 0 [UInt8.ofNat 0] = ([[0], [1]], xD2 key) := rfl
theorem xi1 (key : Nat) : (St.new 1 key).inn (pkt key (1 + 1) 0 [UInt8.ofNat 1]) = ([], 0, xD1 key) := (inn_pkt (S := St.new 1 key) (by decide) (by decide) (by decide) (.inl (by decide))).trans rfl
theorem xi2 (key : Nat) : (xD1 key).inn (pkt key (0 + 1) 0 [UInt8.ofNat 0]) = ([[0], [1]], 0, xD2 key) := (inn_pkt (S := xD1 key) (by decide) (by decide) (by decide) (.inl (by decide))).trans rfl
theorem okD1 {key : Nat} (hk : key < 18446744073709551616) : (xD1 key).Ok := by constructor <;> simp [xD1, findH, hk]
/-- In, at a packet that the other end has made. -/
theorem in_pkt_at (D M : Nat → Prop) (g mb : Nat) (S : St) (wv : Value) (ws : List Value) (L : List (Nat × Value)) (hS : S.Ok) (A : Option Addr) (s a : Nat) (m : Bs) (n c : Nat) (w : World) (h : EndAt D w g S.raw wv mb ws L) (mg : M g) (mm : M mb) (mw : ∀ k, wv.ownBlock = some k → M k)
    (hn : n = (pkt S.key s a m).length) (hc : n ≤ c) (hl : n ≤ 17592186044416) (hR : Rd w A (bv (pkt S.key s a m))) (hs : s ≤ 9223372036854775807) (ha : a ≤ 9223372036854775807) (hm : m.length ≤ 65536) (h0 : 0 < s ∨ m = []) {ls : List Bs} {T : St} (ht : S.take s a m = (ls, T)) :
    Calls Try.prog 50 #[.pointer (some ⟨g, 0, none⟩), .slice A n c] w (InPostM D M w g (ls, 0, T)) := by
  have := in_take_at D M g mb S wv ws L hS A (pkt S.key s a m) n c w h mg mm mw hn hc hl hR (encPkt (s : Int) (a : Int) m) (hide (open_sealed _ _)) s a m (hide (read_enc hs ha hm h0))
  rw [ht] at this
  exact this
end Go.Proofs.Ytopppkafbbfobaa.W
namespace Go.Proofs.Ytopppkafbbfobaa.W
open Go.RowKit
attribute [local go_sem ↓] Go.wp_at_zero Go.wp_at_succ
set_option maxRecDepth 100000 in
set_option maxHeartbeats 800000 in
theorem window_bad (win : Int) (key : Nat) (many ack : Int) (w : World) (h : win < 1 ∨ 16 < win) :
    Calls Try.prog 7 #[.int .i64 win, .int .u64 (key : Int), .int .i64 many, .int .i64 ack] w fun e w' => e = .returned (.bool true) ∧ Below w.heap.size w w' := by
  have hnew := hide (new_bad win key w h)
  by_cases h1 : win < 1
  · clear h
    go_enter Try.func7, Try.ntmps7
    go_wp2_with fail
    refine hnew.out.mono ?_
    rintro e w1 ⟨rfl, rfl⟩
    go_wp2_with fail
    refine (lives_any w).mono ?_
    rintro e w2 ⟨rfl, hB⟩
    go_wp2_with fail
    go_ret
    exact ⟨rfl, hB⟩
  · have h1' : decide (win < 1) = false := by simpa using h1
    have h2 : 16 < win := by omega
    clear h
    go_enter Try.func7, Try.ntmps7
    go_wp2_with fail
    refine hnew.out.mono ?_
    rintro e w1 ⟨rfl, rfl⟩
    go_wp2_with fail
    refine (lives_any w).mono ?_
    rintro e w2 ⟨rfl, hB⟩
    go_wp2_with fail
    go_ret
    exact ⟨rfl, hB⟩
theorem own_cell {w : World} {base g n c : Nat} {e : TypeId} {xs : List Value} (h : w.ownsRow base e 1 (.slice (some ⟨g, 0, none⟩) n c) n xs) {k : Nat} (hk : k < xs.length) : w.cell? ⟨g, k, none⟩ = some (xs.getD k undef) := by
  have := h.cells (g := g) rfl k (xs.getD k undef) (by rw [List.getD_eq_getElem?_getD, List.getElem?_eq_getElem hk]; rfl)
  rwa [show (⟨g, 0, none⟩ : Addr).add k = ⟨g, k, none⟩ from by unfold Addr.add; split <;> simp_all] at this
/-- The reference's bytes of an acknowledgement. -/
theorem ackBytes (a : Nat) (ha : a ≤ 1000) (x : Int) (hx : x = (a : Int)) (w : World) : Calls Try.prog 49 #[.agg #[.int .i64 0, .int .i64 x, .slice none 0 0]] w (RetB w (encPkt ((0 : Nat) : Int) (a : Int) [])) := by
  subst hx
  exact rBytes_any 0 (a : Int) ⟨by decide, by decide⟩ ⟨by omega, by omega⟩ none [] 0 0 w rfl (Rd.nil _ _) (by decide)
theorem ackSeal (key a : Nat) (hk : key < 18446744073709551616) (v : Value) (B : Nat) (w : World) (ho : w.ownsRow B 5 1 v (encPkt ((0 : Nat) : Int) (a : Int) []).length (bv (encPkt ((0 : Nat) : Int) (a : Int) []))) : Calls Try.prog 48 #[.int .u64 (key : Int), v] w (RetB w (pkt key 0 a [])) := by
  have hl := pkt_length key 0 a []
  unfold pkt at hl
  rw [sealed_length] at hl
  simp at hl
  obtain ⟨A, c, rfl, _, hR⟩ := Bt.own ho (by simp; omega)
  exact rSeal_any key hk A _ _ c w rfl hR (by simp; omega)
theorem make_big : ∃ big : Obj, ∀ W : World, (Instr.makeSlice 28 (.int .i64 65537) (.int .i64 65537)).run Try.prog W = .ok (.slice (some ⟨W.heap.size, 0, none⟩) 65537 65537) (W.alloc big) :=
  ⟨_, fun W => Go.run_make_row' 28 5 (.int .u8 0) 1 Try.underlying28 inf5 rfl .i64 .i64 65537 (by decide) (by decide) W⟩
/-- The lesser of two integers. -/
theorem wp_min {ops : Array Oper} {rest : List Oper} {o : Oper} {a : Act} {Q : Exit → Act → World → Prop} {W : World} (hgd : Region.wanted o (yielded ops a.tmps) = true) (s x : Operand)
    (ho : o.op = .call { callee := .builtin .min, args := #[s, x], argTypes := #[3, 3] }) (p r q : Int) (hs : a.eval s = .int .i64 p) (hx : a.eval x = .int .i64 r) (hq : (if r < p then r else p) = q)
    (h : wpList Try.prog ops Q rest (a.put o.dst (.int .i64 q)) W) : wpList Try.prog ops Q (o :: rest) a W := by
  refine wpList_wanted hgd fun K hK => ?_
  unfold Oper.wp execOp
  have hr : ∀ ts t, (Builtin.min_ ts t #[.int .i64 p, .int .i64 r]).run Try.prog W = .ok (.int .i64 q) W := fun ts t => by
    rw [← hq]
    simp [go_sem]
  simp only [ho, resolve, invoke, builtin, Sem.run_bind, Sem.run_pure, Result.andThen_ok, List.map_toArray, List.map_cons, List.map_nil, hs, hx, hr]
  exact hK _ _ h
theorem bv_byte {i : Nat} (h : i < 256) : bv [UInt8.ofNat i] = [.int .u8 (i : Int)] := by
  simp [bv]
  omega
set_option maxRecDepth 100000 in
set_option maxHeartbeats 6400000 in
theorem window_good (win : Nat) (hw1 : 1 ≤ win) (hw2 : win ≤ 16) (key : Nat) (hk : key < 18446744073709551616) (many ack : Int) (hmany : I64 many) (hack : I64 ack) (w : World) :
    Calls Try.prog 7 #[.int .i64 (win : Int), .int .u64 (key : Int), .int .i64 many, .int .i64 ack] w fun e w' => e = .returned (.bool true) ∧ Below w.heap.size w w' := by
  have g1 : decide ((win : Int) < 1) = false := by rw [decide_eq_false_iff_not]; omega
  have g2 : decide ((16 : Int) < (win : Int)) = false := by rw [decide_eq_false_iff_not]; omega
  have hnew := hide (new_ok win key w hw1 hw2)
  have HM := hide hmany
  have HA := hide hack
  have HW := hide (And.intro hw1 hw2)
  clear hw1 hw2 hmany hack
  go_enter Try.func7, Try.ntmps7
  go_wp2_with fail
  refine hnew.out.mono ?_
  rintro e w1 ⟨g, rfl, hA, hB1⟩
  go_wp2_with fail
  have har := around_any many HM.out 40 (by omega) (by omega) w1
  refine har.mono ?_
  rintro e w1' ⟨rfl, rfl⟩
  obtain ⟨n, hn⟩ : ∃ n, n = mag many % 40 := ⟨_, rfl⟩
  have hn40 : n < 40 := by rw [hn]; exact Nat.mod_lt _ (by omega)
  rw [← hn]
  clear har hn hnew
  go_upto_region 9 with fail
  have hst := hide (heap_alloc_new w1 (.cells #[.int .u8 0] 5))
  have hsz1 := hB1.size
  have hBA : Below w.heap.size w (w1.alloc (.cells #[.int .u8 0] 5)) := since_alloc hB1 _
  obtain ⟨bb, hbb⟩ : ∃ bb, bb = w1.heap.size := ⟨_, rfl⟩
  have hEA : Hid (IsEnd (fun k => w.heap.size ≤ k ∧ k ≠ bb) (w1.alloc (.cells #[.int .u8 0] 5)) g (stW win key 0)) := (hA.mono fun k hk e => ⟨e, by omega⟩).stays (Stays.of_new ((Below.refl _ _).alloc (Nat.le_refl _) _))
  have hwb : w.heap.size ≤ bb := by omega
  rw [← hbb] at hst ⊢
  have hOA : Hid ((w1.alloc (.cells #[.int .u8 0] 5)).ownsRow w.heap.size 5 1 (.slice (some ⟨bb, 0, none⟩) 1 1) 1 (bv [0])) := ⟨rfl, .inr ⟨bb, 1, #[.int .u8 0], rfl, hwb, hst.out, Nat.le_refl _, by decide, rfl, rfl⟩⟩
  have HBA := hide hBA
  generalize w1.alloc (.cells #[.int .u8 0] 5) = wA at *
  clear hst hsz1 hBA hA hB1 hbb
  have hnn := hide hn40
  go_loopw [13] (fun u wr => ∃ (i : Nat) (x : UInt8), i ≤ n ∧ u = .int .i64 (i : Int) ∧ Hid (IsEnd (fun k => w.heap.size ≤ k ∧ k ≠ bb) wr g (stW win key i)) ∧ Hid (wr.ownsRow w.heap.size 5 1 (.slice (some ⟨bb, 0, none⟩) 1 1) 1 (bv [x])) ∧ Hid (Below w.heap.size w wr)) (fun u _ => n - (intOf u).toNat)
  case atStart => exact ⟨0, 0, Nat.zero_le _, rfl, hEA, hOA, HBA⟩
  case round =>
    obtain ⟨i, x, hi, rfl, hE, hO, hB⟩ := hrel
    by_cases hin : i < n
    · have hc : wr.cell? ⟨bb, 0, none⟩ = some (.int .u8 (x.toNat : Int)) := by
        obtain ⟨_, _, e', _, _, _, hcl⟩ := own_bytes (l := [x]) hO.out (by simp)
        cases e'
        exact hcl 0 (by simp)
      have hf := own_free (k := 0) hO.out
      have hi40 : i < 40 := by omega
      go_wp2_with fail
      have hE2 : Hid (IsEnd (fun k => w.heap.size ≤ k ∧ k ≠ bb) (wr.setCell ⟨bb, 0, none⟩ (.int .u8 (i : Int))) g (stW win key i)) := hE.out.stays (Stays.setCell fun k _ e => e.2)
      have hO2 : Hid ((wr.setCell ⟨bb, 0, none⟩ (.int .u8 (i : Int))).ownsRow w.heap.size 5 1 (.slice (some ⟨bb, 0, none⟩) 1 1) 1 (bv [UInt8.ofNat i])) := by
        rw [bv_byte (by omega)]
        exact own_set (k := 0) hO.out _
      have hB2 : Hid (Below w.heap.size w (wr.setCell ⟨bb, 0, none⟩ (.int .u8 (i : Int)))) := hB.out.setCell (p := ⟨bb, 0, none⟩) hwb _
      generalize wr.setCell ⟨bb, 0, none⟩ (.int .u8 (i : Int)) = wS at *
      have hRb : Rd wS (some ⟨bb, 0, none⟩) (bv [UInt8.ofNat i]) := by
        obtain ⟨_, _, e', _, hR'⟩ := Bt.own (l := [UInt8.ofNat i]) hO2.out (by simp)
        cases e'
        exact hR'
      have hbs := hide (hO2.out.lt bb rfl).2
      have hsend := send_fine _ g (stW win key i) _ [UInt8.ofNat i] 1 1 wS (stW_ok hk HW.out.1 HW.out.2 (by omega)) hE2.out rfl (by omega) hRb (stW_full (by omega) _)
      rw [stW_send] at hsend
      clear hc hf hRb hE hO hB
      with_reducible refine hsend.mono ?_
      rintro e wT ⟨rfl, hE3, hK3⟩
      clear hsend
      have hO3 := hide (own_stays hO2.out (hK3.stays fun k _ e e' => by cases e; exact e'.2 rfl))
      have hE4 : Hid (IsEnd (fun k => w.heap.size ≤ k ∧ k ≠ bb) wT g (stW win key (i + 1))) := hE3.mono fun k _ e => by
        rcases e with e | e
        · exact e
        · have h1 := hbs.out; have h2 := hB2.out.size; exact ⟨by omega, by omega⟩
      have hB3 : Hid (Below w.heap.size w wT) := hB2.out.trans (hK3.below hB2.out.size fun k e => e.1)
      clear hE3 hK3 hE2 hO2 hB2
      go_wp2_with fail
      go_roundw
      case rel => exact ⟨i + 1, _, by omega, by go_num, hE4, hO3, hB3⟩
      case measure => simp [intOf]; omega
    · obtain rfl : n = i := by omega
      have hf := own_free (k := 0) hO.out
      have hc : wr.cell? ⟨bb, 0, none⟩ = some (.int .u8 (x.toNat : Int)) := by
        obtain ⟨_, _, e', _, _, _, hcl⟩ := own_bytes (l := [x]) hO.out (by simp)
        cases e'
        exact hcl 0 (by simp)
      go_wp2_with fail
      have hE2 : Hid (IsEnd (fun k => w.heap.size ≤ k ∧ k ≠ bb) (wr.setCell ⟨bb, 0, none⟩ (.int .u8 99)) g (stW win key n)) := hE.out.stays (Stays.setCell fun k _ e => e.2)
      have hB2 : Hid (Below w.heap.size w (wr.setCell ⟨bb, 0, none⟩ (.int .u8 99))) := hB.out.setCell (p := ⟨bb, 0, none⟩) hwb _
      generalize wr.setCell ⟨bb, 0, none⟩ (.int .u8 99) = w2 at *
      clear hc hf hE hB hO hi hin hEA hOA HBA
      have hSn := hide (stW_ok (n := n) hk HW.out.1 HW.out.2 (by omega))
      have hD2 : Hid (IsEnd (fun k => (w.heap.size ≤ k ∧ k ≠ bb) ∧ k < w2.heap.size) w2 g (stW win key n)) := hE2.out.mono fun k hk e => ⟨e, hk⟩
      clear hE2
      obtain ⟨wv, mb, ws, L, hEA⟩ := hD2.out
      have hEA := hide hEA
      have hout := out_sep _ g _ hSn.out w2 hD2.out
      obtain ⟨q, hq⟩ : ∃ q, q = min n win := ⟨_, rfl⟩
      have eo : (stW win key n).out = pk7 key q := by rw [stW_out, hq]
      have hq16 : q ≤ 16 := by have := HW.out; omega
      have HQ := hide hq
      clear hq hD2
      with_reducible refine hout.mono ?_
      rintro e w3 ⟨v, vs, rfl, hr, _, hK3, hsep, hat⟩
      rw [eo] at hr hsep
      have hEB := hide (hat _ _ _ _ hEA.out)
      have hB3 : Hid (Below w.heap.size w w3) := hB2.out.trans (hK3.below hB2.out.size fun k e => by have := hEA.out.dg; have e' : k = g := e; rw [e']; exact this.1.1)
      have hz3 := hide hK3.size
      obtain ⟨A, cp, rfl, hcp, hRp⟩ := RdIn.of_own hr.1 (by rw [hr.2.1, pk7_length]; omega)
      have hvl : vs.length = q := by rw [hr.2.1, pk7_length]
      have hown := hr.1
      rw [hvl] at hcp hown hsep ⊢
      have HOW := hide hown
      have HSE := hide hsep
      have HVL := hide hvl
      clear hout hr hRp hK3 hat hsep hown hEA eo hvl
      go_upto_region 17 with fail
      go_loopw [15] (fun u wr => ∃ i : Nat, i ≤ q ∧ u = .int .i64 (i : Int) ∧ Hid (wr.ownsRow w2.heap.size 28 1 (.slice A q cp) q vs) ∧ Hid (∀ j, i ≤ j → j < q → wr.ownsRow w2.heap.size 5 1 (vs.getD j undef) ((pk7 key q).getD j []).length (bv ((pk7 key q).getD j []))) ∧ Hid (Below w2.heap.size w3 wr)) (fun u _ => q - (intOf u).toNat)
      case atStart => exact ⟨0, Nat.zero_le _, rfl, HOW, hide (fun j _ hj => (HSE.out.2 j (by rw [pk7_length]; exact hj)).1), hide (Below.refl _ _)⟩
      case round =>
        obtain ⟨i, hi, rfl, hO, hE, hBr⟩ := hrel
        by_cases hiq : i < q
        · obtain ⟨pb, _, ep, hpb, hpl⟩ := hO.out.form (by omega)
          cases ep
          have hown := hE.out i (Nat.le_refl _) hiq
          obtain ⟨pk, hpk⟩ : ∃ pk, pk = pkt key (i + 1) 0 [UInt8.ofNat i] := ⟨_, rfl⟩
          rw [pk7_get key hiq, ← hpk] at hown
          have hpl2 : 8 ≤ pk.length ∧ pk.length ≤ 60 := by
            have := pkt_length key (i + 1) 0 [UInt8.ofNat i]
            rw [← hpk] at this
            simp at this
            refine ⟨?_, by omega⟩
            rw [hpk]; unfold pkt; rw [sealed_length]; omega
          obtain ⟨gi, ci, egi, hgi1, hgi2, hci, hcl⟩ := own_bytes hown (by omega)
          have hcell : wr.cell? ⟨pb, i, none⟩ = some (.slice (some ⟨gi, 0, none⟩) pk.length ci) := by
            rw [own_cell hO.out (by rw [HVL.out]; exact hiq), egi]
          rw [egi] at hown
          obtain ⟨pn, hpn⟩ : ∃ pn, pn = pk.length := ⟨_, rfl⟩
          rw [← hpn] at hcell hown hci hpl2
          have hfr := own_free (k := 0) hown
          have hc0 := hcl 0 (by omega)
          have hRp : Rd wr (some ⟨gi, 0, none⟩) (bv pk) := by
            obtain ⟨_, _, e', _, hR'⟩ := Bt.own (l := pk) (by rw [← hpn]; exact hown) (by omega)
            cases e'
            exact hR'
          have HRP := hide hRp
          have HPN := hide hpn
          have HPK := hide hpk
          have HOWN := hide hown
          have HEGI := hide egi
          obtain ⟨ep, hep⟩ : ∃ ep, ep = encPkt ((i : Int) + 1) 0 [UInt8.ofNat i] := ⟨_, rfl⟩
          have hse : sealed key ep = pk := by rw [hep, hpk]; unfold pkt; rw [Int.natCast_add]; rfl
          have hepl : ep.length + 8 = pn := by rw [hpn, ← hse, sealed_length]
          have hrb := fun W : World => rBytes_any ((i : Int) + 1) 0 ⟨by omega, by omega⟩ ⟨by decide, by decide⟩ (some ⟨W.heap.size, 0, none⟩) [UInt8.ofNat i] 1 1 (W.alloc (.cells #[.int .u8 (i : Int)] 5)).drew rfl
          rw [← hep] at hrb
          have hRb : Rd (wr.alloc (.cells #[.int .u8 (i : Int)] 5)).drew (some ⟨wr.heap.size, 0, none⟩) (bv [UInt8.ofNat i]) := by
            rw [bv_byte (by omega)]
            exact rd_block2 wr #[.int .u8 (i : Int)] 5 _ rfl (by simp)
          have f49 := hide (hrb wr hRb (by decide))
          have hSb := hide (show Below wr.heap.size wr (wr.alloc (.cells #[.int .u8 (i : Int)] 5)).drew from since_dr (since_alloc (Below.refl _ _) _))
          have f48 : Hid (∀ (A : Option Addr) (c : Nat) (W : World), Rd W A (bv ep) → Calls Try.prog 48 #[.int .u64 (key : Int), .slice A ep.length c] W (RetB W pk)) := hide fun A c W h => by
            have := rSeal_any key hk A ep ep.length c W rfl h (by omega)
            rwa [hse] at this
          have f19 : Hid (∀ (A : Option Addr) (c : Nat) (W : World), Below wr.heap.size wr W → Rd W A (bv pk) → Calls Try.prog 19 #[.slice (some ⟨gi, 0, none⟩) pn ci, .slice A pk.length c] W (Quiet true W)) := hide fun A c W hb h => by
            have := same_any (some ⟨gi, 0, none⟩) A pk pk pn pk.length ci c W hpn rfl (hRp.below hb) h
            rwa [decide_eq_true rfl] at this
          have HK : Hid (∀ W, Below wr.heap.size wr W → W.cell? ⟨pb, i, none⟩ = some (.slice (some ⟨gi, 0, none⟩) pn ci)) := hide fun W h => (h.cell (p := ⟨pb, i, none⟩) hpl).trans hcell
          have hl49 := hide (show ep.length ≤ 9223372036854775807 from by omega)
          have hl48 := hide (show pk.length ≤ 9223372036854775807 from by omega)
          have hi16 : i < 16 := by omega
          have hw8 : IntKind.u8.wrap (i : Int) = (i : Int) := by rw [IntKind.wrap_u8]; omega
          have hw64 : IntKind.i64.wrap ((i : Int) + 1) = (i : Int) + 1 := by rw [IntKind.wrap_i64]; omega
          clear hcl hRp hpn hpk hown egi hrb hRb hep hse hepl
          go_wp2_with fail
          go_region_held3 (fun w' => w'.cell? ⟨pb, i, none⟩ = some (.slice (some ⟨gi, 0, none⟩) pn ci))
            (first
              | exact HK.out _ (since_dr (Below.refl _ _))
              | exact HK.out _ hSb.out
              | exact HK.out _ hS49
              | exact HK.out _ hS48
              | exact HK.out _ hS19
              | fail)
            (first
              | (go_at_call 49; refine f49.out.mono ?_; rintro e w49 ⟨v49, rfl, ho49, hB49⟩; obtain ⟨A49, c49, rfl, hc49, hR49⟩ := Bt.own ho49 hl49.out; have hS49 := since_call hSb.out hB49)
              | (go_at_call 48; refine (f48.out A49 c49 w49 hR49).mono ?_; rintro e w48 ⟨v48, rfl, ho48, hB48⟩; obtain ⟨A48, c48, rfl, hc48, hR48⟩ := Bt.own ho48 hl48.out; have hS48 := since_call hS49 hB48)
              | (go_at_call 19; refine (f19.out A48 c48 w48 hS48 hR48).mono ?_; rintro e w19 hq19; obtain ⟨rfl, hB19⟩ := hq19.below; have hS19 := since_call hS48 hB19))
          have hc19 := (hS19.cell (p := ⟨gi, 0, none⟩) hgi2).trans hc0
          have hf19 := (hS19.frozen (p := ⟨gi, 0, none⟩) hgi2).trans hfr
          have hO19 := hide (own_kept hO.out hS19)
          have hE19 := hide fun j h1 h2 => own_kept (hE.out j h1 h2) hS19
          have hB19 : Hid (Below w2.heap.size w3 w19) := hBr.out.trans (hS19.mono (by have := hz3.out; have := hBr.out.size; omega))
          clear hS19 hS48 hS49 hB48 hB49 hR48 hR49 ho48 ho49 hq19 hcell f49 f48 f19 HK hSb hc0 hfr
          go_wp2_with fail
          go_roundw
          case rel =>
            refine ⟨i + 1, by omega, by go_num, hide (own_stays hO19.out (Stays.setCell fun k _ e => ?_)), hide fun j h1 h2 => own_stays (hE19.out j (by omega) h2) (Stays.setCell fun k _ e => ?_), hide (hB19.out.setCell (p := ⟨gi, 0, none⟩) hgi1 _)⟩
            · have h1 := ((HSE.out.2 i (by rw [pk7_length]; exact hiq)).2 gi (by rw [HEGI.out]; rfl)).1
              intro e'
              exact h1 (by rw [e, e'])
            · have h3 := ((HSE.out.2 j (by rw [pk7_length]; exact h2)).2 k e).2 i (by omega)
              rw [HEGI.out] at h3
              intro e'
              exact h3 (by rw [e']; rfl)
          case measure => simp [intOf]; omega
        · obtain rfl : q = i := by omega
          have hEC := hide (hEB.out.stays (Stays.of_below hBr.out fun k _ e => e.2))
          have hBC : Hid (Below w.heap.size w wr) := hB3.out.trans (hBr.out.mono hB2.out.size)
          have hzC := hide hBr.out.size
          clear hO hE hBr HSE HOW hEB hi hiq
          have hcp := copy_walk _ g mb (stW win key n) hSn.out wv ws L wr hEC.out (by rw [hEC.out.hb.length]; exact Nat.zero_le _)
          go_wp2_with fail
          with_reducible refine hcp.mono ?_
          rintro e w5 ⟨g2, mb2, wv2, rfl, hg2, hm2, hw2, hEC5, hB5⟩
          clear hcp
          have hmin : Hid ((if (win : Int) < (n : Int) then (win : Int) else (n : Int)) = (q : Int)) := hide (by have := HQ.out; split <;> omega)
          have hqq : ((q : Int) != (q : Int)) = false := by simp
          go_wp2_with ((with_reducible show wpList _ _ _ (⟨some 116, _, _, _, _, _⟩ :: _) _ _); refine wp_min rfl (.tmp 114) (.tmp 115) rfl _ _ (q : Int) rfl rfl hmin.out ?_)
          have hark := around_any ack HA.out (n + 1) (by omega) (by omega) w5
          rw [Int.natCast_add] at hark
          refine hark.mono ?_
          rintro e w5' ⟨rfl, rfl⟩
          obtain ⟨k, hkd⟩ : ∃ k, k = mag ack % (n + 1) := ⟨_, rfl⟩
          have hkn : k ≤ n := by have : k < n + 1 := by rw [hkd]; exact Nat.mod_lt _ (by omega)
                                 omega
          rw [← hkd]
          clear hark hkd
          go_wp2_with fail
          have hEC5a := hide (hEC.out.stays (Stays.of_new hB5))
          have hEC5c := hide (hEC5.mono (D' := fun k => (Own (fun k => (w.heap.size ≤ k ∧ k ≠ bb) ∧ k < w2.heap.size) g mb wv k ∨ wr.heap.size ≤ k) ∧ k < w5.heap.size) fun k hk e => ⟨e, hk⟩)
          have HDM : Hid (∀ k, ((Own (fun k => (w.heap.size ≤ k ∧ k ≠ bb) ∧ k < w2.heap.size) g mb wv k ∨ wr.heap.size ≤ k) ∧ k < w5.heap.size) → ¬ (k = g ∨ k = mb ∨ wv.ownBlock = some k)) := by
            rintro k ⟨h, _⟩ hm
            rcases h with h | h
            · rcases hm with e | e | e
              · exact h.2.1 e
              · exact h.2.2.1 e
              · exact h.2.2.2 e
            · have h3 := hz3.out
              have hc := hzC.out
              rcases hm with e | e | e
              · have := hEC.out.dg.2; omega
              · have := hEC.out.dm.2; omega
              · have := (hEC.out.dw k e).1.2; omega
          have HB5 := hide hB5
          have HG2 := hide (And.intro hg2 (And.intro hm2 hw2))
          have hn41 : n + 1 ≤ 1000 := by have := hnn.out; omega
          clear hEC hEC5 hB5 hg2 hm2 hw2
          with_reducible refine (ackBytes (n + 1) hn41 _ (by omega) w5).mono ?_
          rintro e w6 ⟨v6, rfl, ho6, hB6⟩
          go_wp2_with fail
          with_reducible refine (ackSeal key (n + 1) hk v6 _ w6 ho6).mono ?_
          rintro e w7 ⟨v7, rfl, ho7, hB7⟩
          have hpl := pkt_length key 0 (n + 1) []
          obtain ⟨A7, c7, rfl, hc7, hR7⟩ := Bt.own ho7 (by simp at hpl; omega)
          obtain ⟨pn, hpn⟩ : ∃ pn, pn = (pkt key 0 (n + 1) []).length := ⟨_, rfl⟩
          have hpn44 : pn ≤ 44 := by rw [hpn]; simpa using hpl
          rw [← hpn] at hc7 ⊢
          have hB57 := since_call hB6 hB7
          have hE7 := hEC5a.out.stays (Stays.of_new hB57)
          have hin := in_pkt_at _ (fun k => k = g ∨ k = mb ∨ wv.ownBlock = some k) g mb (stW win key n) wv ws L hSn.out A7 0 (n + 1) [] pn c7 w7 hE7 (.inl rfl) (.inr (.inl rfl)) (fun k e => .inr (.inr e)) hpn hc7 (by omega) hR7 (by decide) (by omega) (by simp) (.inr rfl) (stW_refuse win key n)
          have HB57 := hide hB57
          clear hpn hpl ho6 ho7 hB6 hB7 hc7 hR7 hE7 hB57
          go_wp2_with fail
          with_reducible refine hin.mono ?_
          rintro e w8 ⟨vx, vxs, rfl, hrx, hE8, hK8⟩
          obtain ⟨Ax, cx, rfl, _, _, _⟩ := hrx.lst (by simp)
          clear hin hrx
          obtain ⟨wv', mb', ws', L', hE8, hm8, hw8⟩ := hE8
          have hz7 := hide HB57.out.size
          have hz8 := hide hK8.size
          go_wp2_with fail
          with_reducible refine (ackBytes k (by omega) _ rfl w8).mono ?_
          rintro e w9 ⟨v9, rfl, ho9, hB9⟩
          go_wp2_with fail
          with_reducible refine (ackSeal key k hk v9 _ w9 ho9).mono ?_
          rintro e w10 ⟨v10, rfl, ho10, hB10⟩
          have hpl := pkt_length key 0 k []
          obtain ⟨A10, c10, rfl, hc10, hR10⟩ := Bt.own ho10 (by simp at hpl; omega)
          obtain ⟨pn, hpn⟩ : ∃ pn, pn = (pkt key 0 k []).length := ⟨_, rfl⟩
          have hpn44 : pn ≤ 44 := by rw [hpn]; simpa using hpl
          rw [← hpn] at hc10 ⊢
          have hB8A := since_call hB9 hB10
          have hEA := hE8.stays (Stays.of_new hB8A)
          have hin := in_pkt_at _ (fun k => k = g ∨ k = mb ∨ wv.ownBlock = some k) g mb' (stW win key n) wv' ws' L' hSn.out A10 0 k [] pn c10 w10 hEA (.inl rfl) hm8 hw8 hpn hc10 (by omega) hR10 (by decide) (by omega) (by simp) (.inr rfl) (stW_ack win key n k hkn)
          have HB8A := hide hB8A
          clear hpn hpl ho9 ho10 hB9 hB10 hc10 hR10 hEA hE8 hm8 hw8 hB8A
          go_wp2_with fail
          with_reducible refine hin.mono ?_
          rintro e w11 ⟨vy, vys, rfl, hry, hE11, hK11⟩
          obtain ⟨Ay, cy, rfl, _, _, _⟩ := hry.lst (by simp)
          clear hin hry
          obtain ⟨wv2', mb2', ws2', L2', hE11, _, _⟩ := hE11
          have hz10 := hide HB8A.out.size
          have hz11 := hide hK11.size
          have hSk := hide (stW_ack_ok hSn.out hkn)
          have hEC11 := hide ((((hEC5c.out.stays (Stays.of_below HB57.out fun k _ e => e.2)).stays (hK8.stays fun k _ e => HDM.out k e)).stays (Stays.of_below HB8A.out fun k _ e => by have h1 := e.2; have h2 := hz7.out; have h3 := hz8.out; omega)).stays (hK11.stays fun k _ e => HDM.out k e))
          have hIA := hide (show IsEnd _ w11 g ((stW win key n).ack k) from ⟨_, _, _, _, hE11⟩)
          have HK8 := hide hK8
          have HK11 := hide hK11
          clear hE11 hK8 hK11
          go_wp2_with fail
          with_reducible refine (out_any _ g _ hSk.out w11 hIA.out).mono ?_
          rintro e w12 ⟨vq, vqs, rfl, hrq, hE12, hK12⟩
          have hq2 := hide (show vqs.length = min (n - k) win from by rw [hrq.2.1, stW_ack_out])
          obtain ⟨Aq, cq, rfl, _, _⟩ := RdIn.of_own hrq.1 (by have := hq2.out; have := HW.out; omega)
          obtain ⟨q2, hq2d⟩ : ∃ q2, q2 = vqs.length := ⟨_, rfl⟩
          rw [← hq2d] at hq2 ⊢
          have hEC12 := hide (hEC11.out.stays (hK12.stays fun k _ e e' => HDM.out k e (.inl e')))
          have hIC := hide (show IsEnd _ w12 g2 (stW win key n) from ⟨_, _, _, _, hEC12.out⟩)
          have hz12 := hide hK12.size
          have HK12 := hide hK12
          have hg25 := hide (lt_of_block hEC5c.out.blk)
          clear hrq hK12 hq2d
          go_wp2_with fail
          with_reducible refine (out_any _ g2 _ hSn.out w12 hIC.out).mono ?_
          rintro e w13 ⟨vr, vrs, rfl, hrr, hE13, hK13⟩
          rw [stW_out, ← HQ.out] at hrr
          have hLr := hide (hrr.fresh (by rw [pk7_length]; omega))
          have hIA13 := hide (hE12.stays (hK13.stays fun j _ e e' => by
            have h1 := HG2.out.1
            have h2 := hg25.out
            have h3 := hz7.out
            have h4 := hz8.out
            have h5 := hz10.out
            have h6 := hz3.out
            have h7 := hzC.out
            rcases e with (e | e) | e
            · have := e.2; omega
            · omega
            · omega))
          have hIC13 := hide hE13
          have hB13 : Hid (Below w.heap.size w w13) := by
            have hM : ∀ j, (j = g ∨ j = mb ∨ wv.ownBlock = some j) → w.heap.size ≤ j := by
              rintro j (e | e | e)
              · rw [e]; exact hEC5a.out.dg.1.1
              · rw [e]; exact hEC5a.out.dm.1.1
              · exact (hEC5a.out.dw j e).1.1.1
            have b5 : Below w.heap.size w w5 := hBC.out.trans (HB5.out.mono hBC.out.size)
            have b7 : Below w.heap.size w w7 := b5.trans (HB57.out.mono b5.size)
            have b8 : Below w.heap.size w w8 := b7.trans (HK8.out.below b7.size hM)
            have b10 : Below w.heap.size w w10 := b8.trans (HB8A.out.mono b8.size)
            have b11 : Below w.heap.size w w11 := b10.trans (HK11.out.below b10.size hM)
            have b12 : Below w.heap.size w w12 := b11.trans (HK12.out.below b11.size fun j e => hM j (.inl e))
            exact b12.trans (hK13.below b12.size fun j e => by have e' : j = g2 := e; have := HG2.out.1; have := hBC.out.size; omega)
          obtain ⟨Ar, cr, rfl, hcr, _, _⟩ := hLr.out
          have HLr := hLr
          rw [pk7_length] at hLr hcr ⊢
          clear hrr hE12 hE13 hK13 HK8 HK11 HK12 hIA hIC hEC11 hEC12 hEC5a hEC5c HDM HB5 HB57 HB8A hBC hcr
          go_upto_region 31 with fail
          go_loopw [24] (fun u wr => ∃ i : Nat, i ≤ q ∧ u = .int .i64 (i : Int) ∧ Hid (Below w13.heap.size w13 wr)) (fun u _ => q - (intOf u).toNat)
          case atStart => exact ⟨0, Nat.zero_le _, rfl, hide (Below.refl _ _)⟩
          case round =>
            obtain ⟨i, hi, rfl, hBr⟩ := hrel
            by_cases hiq : i < q
            · obtain ⟨pb, po, _, gA, ci, ev, hcl, hcell, hci, hRp, _⟩ := (hLr.out.stays (Stays.of_new hBr.out)).at (k := i) (by rw [pk7_length]; exact hiq)
              rw [pk7_length] at ev
              cases ev
              obtain ⟨pk, hpk⟩ : ∃ pk, pk = pkt key (i + 1) 0 [UInt8.ofNat i] := ⟨_, rfl⟩
              rw [pk7_get key hiq, ← hpk] at hcell hci hRp
              have hpl2 : 8 ≤ pk.length ∧ pk.length ≤ 60 := by
                have := pkt_length key (i + 1) 0 [UInt8.ofNat i]
                rw [← hpk] at this
                simp at this
                refine ⟨?_, by omega⟩
                rw [hpk]; unfold pkt; rw [sealed_length]; omega
              obtain ⟨pn, hpn⟩ : ∃ pn, pn = pk.length := ⟨_, rfl⟩
              rw [← hpn] at hcell hci hpl2
              have hRp := hRp.rd
              have hpl := World.block_lt_of_cell? _ _ hcell
              simp only at hpl
              obtain ⟨ep, hep⟩ : ∃ ep, ep = encPkt ((i : Int) + 1) 0 [UInt8.ofNat i] := ⟨_, rfl⟩
              have hse : sealed key ep = pk := by rw [hep, hpk]; unfold pkt; rw [Int.natCast_add]; rfl
              have hepl : ep.length + 8 = pn := by rw [hpn, ← hse, sealed_length]
              have hrb := fun W : World => rBytes_any ((i : Int) + 1) 0 ⟨by omega, by omega⟩ ⟨by decide, by decide⟩ (some ⟨W.heap.size, 0, none⟩) [UInt8.ofNat i] 1 1 (W.alloc (.cells #[.int .u8 (i : Int)] 5)).drew rfl
              rw [← hep] at hrb
              have hRb : Rd (wr.alloc (.cells #[.int .u8 (i : Int)] 5)).drew (some ⟨wr.heap.size, 0, none⟩) (bv [UInt8.ofNat i]) := by
                rw [bv_byte (by omega)]
                exact rd_block2 wr #[.int .u8 (i : Int)] 5 _ rfl (by simp)
              have f49 := hide (hrb wr hRb (by decide))
              have hSb := hide (show Below wr.heap.size wr (wr.alloc (.cells #[.int .u8 (i : Int)] 5)).drew from since_dr (since_alloc (Below.refl _ _) _))
              have f48 : Hid (∀ (A : Option Addr) (c : Nat) (W : World), Rd W A (bv ep) → Calls Try.prog 48 #[.int .u64 (key : Int), .slice A ep.length c] W (RetB W pk)) := hide fun A c W h => by
                have := rSeal_any key hk A ep ep.length c W rfl h (by omega)
                rwa [hse] at this
              have f19 : Hid (∀ (A : Option Addr) (c : Nat) (W : World), Below wr.heap.size wr W → Rd W A (bv pk) → Calls Try.prog 19 #[.slice gA pn ci, .slice A pk.length c] W (Quiet true W)) := hide fun A c W hb h => by
                have := same_any gA A pk pk pn pk.length ci c W hpn rfl (hRp.below hb) h
                rwa [decide_eq_true rfl] at this
              have HK : Hid (∀ W, Below wr.heap.size wr W → W.cell? ⟨pb, po + i, none⟩ = some (.slice gA pn ci)) := hide fun W h => (h.cell (p := ⟨pb, po + i, none⟩) hpl).trans hcell
              have hl49 := hide (show ep.length ≤ 9223372036854775807 from by omega)
              have hl48 := hide (show pk.length ≤ 9223372036854775807 from by omega)
              have hi16 : i < 16 := by omega
              have hw8 : IntKind.u8.wrap (i : Int) = (i : Int) := by rw [IntKind.wrap_u8]; omega
              have hw64 : IntKind.i64.wrap ((i : Int) + 1) = (i : Int) + 1 := by rw [IntKind.wrap_i64]; omega
              clear hRp hpn hpk hrb hRb hep hse hepl
              go_wp2_with fail
              go_region_held3 (fun w' => w'.cell? ⟨pb, po + i, none⟩ = some (.slice gA pn ci))
                (first
                  | exact HK.out _ (since_dr (Below.refl _ _))
                  | exact HK.out _ hSb.out
                  | exact HK.out _ hS49
                  | exact HK.out _ hS48
                  | exact HK.out _ hS19
                  | fail)
                (first
                  | (go_at_call 49; refine f49.out.mono ?_; rintro e w49 ⟨v49, rfl, ho49, hB49⟩; obtain ⟨A49, c49, rfl, hc49, hR49⟩ := Bt.own ho49 hl49.out; have hS49 := since_call hSb.out hB49)
                  | (go_at_call 48; refine (f48.out A49 c49 w49 hR49).mono ?_; rintro e w48 ⟨v48, rfl, ho48, hB48⟩; obtain ⟨A48, c48, rfl, hc48, hR48⟩ := Bt.own ho48 hl48.out; have hS48 := since_call hS49 hB48)
                  | (go_at_call 19; refine (f19.out A48 c48 w48 hS48 hR48).mono ?_; rintro e w19 hq19; obtain ⟨rfl, hB19⟩ := hq19.below; have hS19 := since_call hS48 hB19))
              have hBn := hide (since_call hBr.out hS19)
              clear hS19 hS48 hS49 hB48 hB49 hR48 hR49 ho48 ho49 hq19 hcell f49 f48 f19 HK hSb
              go_wp2_with fail
              go_roundw
              case rel => exact ⟨i + 1, by omega, by go_num, hBn⟩
              case measure => simp [intOf]; omega
            · obtain rfl : q = i := by omega
              clear hi hiq
              go_upto_if 171 with fail
              go_cut [] (fun wx => Hid (Below w13.heap.size w13 wx))
              case first =>
                by_cases hq1 : (1 : Int) < (q : Int)
                · have hq1n : 1 < q := by omega
                  go_wp2_with fail
                  refine (new_ok 1 key wr (by decide) (by decide)).mono ?_
                  rintro e w14 ⟨gd, rfl, hD14, hB14⟩
                  have hX14 : Hid (Below w13.heap.size w13 w14) := hide (since_call hBr.out hB14)
                  have hL14 := hLr.out.stays (Stays.of_new hX14.out)
                  obtain ⟨pb, po, _, A1, c1, ev, _, hcell1, hc1, hR1, _⟩ := hL14.at (k := 1) (by rw [pk7_length]; exact hq1n)
                  rw [pk7_length] at ev
                  cases ev
                  rw [pk7_get key hq1n] at hcell1 hc1 hR1
                  have hpl1 := pkt_length key (1 + 1) 0 [UInt8.ofNat 1]
                  obtain ⟨n1, hn1⟩ : ∃ n1, n1 = (pkt key (1 + 1) 0 [UInt8.ofNat 1]).length := ⟨_, rfl⟩
                  rw [← hn1] at hcell1 hc1 hpl1
                  have hl1 : n1 ≤ 17592186044416 := by simp at hpl1; omega
                  have hi1 := xi1 key
                  have hDd := hide (hD14.mono (D' := fun k => wr.heap.size ≤ k ∧ k < w14.heap.size) fun k hk e => ⟨e, hk⟩)
                  have hin1 := in_fine _ gd (St.new 1 key) A1 (pkt key (1 + 1) 0 [UInt8.ofNat 1]) n1 c1 w14 (ok_new hk (by decide) (by decide)) hDd.out hn1 hc1 hl1 hR1.rd hi1 (by simp)
                  clear hn1 hc1 hl1 hR1 hi1 hpl1 hL14 hD14
                  go_wp2_with fail
                  with_reducible refine hin1.mono ?_
                  rintro e w15 ⟨vu, vus, rfl, hu, hE15, hK15⟩
                  obtain ⟨Au, cu, rfl, _, _, _⟩ := hu
                  clear hin1 hcell1
                  have hX15 : Hid (Below w13.heap.size w13 w15) := hX14.out.trans (hK15.below hX14.out.size fun j e => by have h1 := hBr.out.size; have := e.1; omega)
                  have hz14 := hide hB14.size
                  have hz15 := hide hK15.size
                  obtain ⟨wvd, mbd, wsd, Ld, hE15⟩ := hE15
                  have hHE := hide (hE15.mono (D' := fun k => Plus (fun k => wr.heap.size ≤ k ∧ k < w14.heap.size) w14 k ∧ k < w15.heap.size) fun k hk e => ⟨e, hk⟩)
                  have hcpd := copy_walk _ gd mbd (xD1 key) (okD1 hk) wvd wsd Ld w15 hHE.out (by rw [hE15.hb.length]; exact Nat.le_refl 1)
                  clear hE15 hK15 hDd
                  go_wp2_with fail
                  with_reducible refine hcpd.mono ?_
                  rintro e w16 ⟨go2, mo2, wvo, rfl, hgo, hmo, hwo, hO16, hB16⟩
                  have hX16 : Hid (Below w13.heap.size w13 w16) := hide (since_call hX15.out hB16)
                  have hD16 := hide (hHE.out.stays (Stays.of_new hB16))
                  have hOO := hide (hO16.mono (D' := fun k => (Own (fun k => Plus (fun k => wr.heap.size ≤ k ∧ k < w14.heap.size) w14 k ∧ k < w15.heap.size) gd mbd wvd k ∨ w15.heap.size ≤ k) ∧ k < w16.heap.size) fun k hk e => ⟨e, hk⟩)
                  have hL16 := hLr.out.stays (Stays.of_new hX16.out)
                  obtain ⟨_, _, _, A0, c0, ev, _, hcell0, hc0, hR0, _⟩ := hL16.at (k := 0) (by rw [pk7_length]; omega)
                  rw [pk7_length] at ev
                  cases ev
                  rw [pk7_get key (by omega)] at hcell0 hc0 hR0
                  rw [Nat.add_zero] at hcell0
                  have hpl0 := pkt_length key (0 + 1) 0 [UInt8.ofNat 0]
                  obtain ⟨n0, hn0⟩ : ∃ n0, n0 = (pkt key (0 + 1) 0 [UInt8.ofNat 0]).length := ⟨_, rfl⟩
                  rw [← hn0] at hcell0 hc0 hpl0
                  have hl0 : n0 ≤ 17592186044416 := by simp at hpl0; omega
                  have hin2 := in_pkt_at _ (fun k => k = gd ∨ k = mbd ∨ wvd.ownBlock = some k) gd mbd (xD1 key) wvd wsd Ld (okD1 hk) A0 (0 + 1) 0 [UInt8.ofNat 0] n0 c0 w16 hD16.out (.inl rfl) (.inr (.inl rfl)) (fun k e => .inr (.inr e)) hn0 hc0 hl0 hR0.rd (by decide) (by decide) (by decide) (.inl (by decide)) (xd3 key)
                  have HN0 := hide hn0
                  have hcb := World.block_lt_of_cell? _ _ hcell0
                  simp only at hcb
                  clear hcpd hn0 hpl0 hL16 hB16 hO16
                  go_wp2_with fail
                  with_reducible refine hin2.mono ?_
                  rintro e w17 ⟨vs2, vss, rfl, hrs, _, hK17⟩
                  obtain ⟨As, cs, rfl, _, _, _⟩ := hrs.lst (by simp)
                  have hM : ∀ j, (j = gd ∨ j = mbd ∨ wvd.ownBlock = some j) → wr.heap.size ≤ j ∧ j < w15.heap.size := by
                    have hge : ∀ j, Plus (fun k => wr.heap.size ≤ k ∧ k < w14.heap.size) w14 j → wr.heap.size ≤ j := fun j e => by
                      rcases e with e | e
                      · exact e.1
                      · have := hz14.out; omega
                    rintro j (e | e | e)
                    · rw [e]; exact ⟨hge _ hHE.out.dg.1, hHE.out.dg.2⟩
                    · rw [e]; exact ⟨hge _ hHE.out.dm.1, hHE.out.dm.2⟩
                    · have := (hHE.out.dw j e).1; exact ⟨hge _ this.1, this.2⟩
                  have HM2 := hide hM
                  have hX17 : Hid (Below w13.heap.size w13 w17) := hX16.out.trans (hK17.below hX16.out.size fun j e => by have h1 := hBr.out.size; have := (HM2.out j e).1; omega)
                  have hOO17 := hide (hOO.out.stays (hK17.stays fun k _ e hm => by
                    rcases e.1 with h | h
                    · rcases hm with e' | e' | e'
                      · exact h.2.1 e'
                      · exact h.2.2.1 e'
                      · exact h.2.2.2 e'
                    · have := (HM2.out k hm).2; omega))
                  have hL17 := hLr.out.stays (Stays.of_new hX17.out)
                  obtain ⟨_, _, _, A2, c2, ev, _, hcell2, hc2, hR2, _⟩ := hL17.at (k := 0) (by rw [pk7_length]; omega)
                  rw [pk7_length] at ev
                  cases ev
                  rw [pk7_get key (by omega)] at hcell2 hc2 hR2
                  rw [Nat.add_zero] at hcell2
                  rw [← HN0.out] at hcell2 hc2
                  have hin3 := in_fine _ go2 (xD1 key) A2 (pkt key (0 + 1) 0 [UInt8.ofNat 0]) n0 c2 w17 (okD1 hk) ⟨_, _, _, _, hOO17.out⟩ HN0.out hc2 hl0 hR2.rd (xi2 key) (by simp)
                  clear hin2 hcell0 hrs hK17 hL17 hM
                  go_wp2_with fail
                  with_reducible refine hin3.mono ?_
                  rintro e w18 ⟨vt, vts, rfl, ht, _, hK18⟩
                  obtain ⟨At, ct, rfl, _, _, _⟩ := ht
                  have hX18 : Hid (Below w13.heap.size w13 w18) := hX17.out.trans (hK18.below hX17.out.size fun j e => by
                    have h1 := hBr.out.size
                    have h2 := hz14.out
                    have h3 := hz15.out
                    rcases e.1 with e | e
                    · rcases e.1.1 with e | e
                      · have := e.1; omega
                      · omega
                    · omega)
                  clear hin3 hcell2 hK18
                  go_wp2_with fail
                  go_meet
                  exact hX18
                · have hq1' : decide ((1 : Int) < (q : Int)) = false := by rw [decide_eq_false_iff_not]; exact hq1
                  go_wp2_with fail
                  go_meet
                  exact hBr
              case rest =>
                go_wp2_with fail
                have hIAc := hIA13.out.stays (Stays.of_new hcut.out)
                have hICc := hide (hIC13.out.stays (Stays.of_new hcut.out))
                have hwa : ((((stW win key n).ack k).quiet.waiting : Nat) : Int) = ((n - k : Nat) : Int) := congrArg Int.ofNat (stW_ack_waiting win key n k)
                have hwc : (((stW win key n).quiet.waiting : Nat) : Int) = (n : Int) := congrArg Int.ofNat (stW_waiting win key n)
                have f1 := waiting_any _ g _ wc (ok_quiet hSk.out) hIAc
                have f2 := waiting_any _ g2 _ wc (ok_quiet hSn.out) hICc.out
                rw [hwa] at f1
                rw [hwc] at f2
                have F1 := hide f1
                have F2 := hide f2
                obtain ⟨nk, hnk⟩ : ∃ nk, nk = n - k := ⟨_, rfl⟩
                rw [← hnk] at F1 hq2
                have HNK := hide hnk
                clear hIAc f1 f2 hwa hwc hnk
                with_reducible refine F1.out.mono ?_
                rintro e wc' ⟨rfl, rfl⟩
                have hsub : IntKind.i64.wrap ((n : Int) - (k : Int)) = (nk : Int) := by rw [IntKind.wrap_i64]; have := HNK.out; have := hnn.out; omega
                have hsub2 : (n : Int) - (k : Int) = (nk : Int) := by have := HNK.out; omega
                have hmin2 : Hid ((if (win : Int) < (nk : Int) then (win : Int) else (nk : Int)) = (q2 : Int)) := hide (by have := hq2.out; split <;> omega)
                have he1 : ((nk : Int) == (nk : Int)) = true := by simp
                have he2 : ((q2 : Int) == (q2 : Int)) = true := by simp
                have he3 : ((q : Int) == (q : Int)) = true := by simp
                obtain ⟨big, hbig⟩ := make_big
                have he4 : ((n : Int) == (n : Int)) = true := by simp
                go_wp2_with fail
                with_reducible refine F2.out.mono ?_
                rintro e wc' ⟨rfl, rfl⟩
                go_wp2_with (first | ((with_reducible show wpList _ _ _ (⟨some 271, _, _, _, _, _⟩ :: _) _ _); refine wp_min rfl (.tmp 269) (.tmp 270) rfl _ _ (q2 : Int) rfl rfl hmin2.out ?_) | ((with_reducible show wpList _ _ _ (⟨some 279, _, _, _, _, _⟩ :: _) _ _); refine wp_min rfl (.tmp 277) (.tmp 278) rfl _ _ (q : Int) rfl rfl hmin.out ?_) | fail)
                with_reducible refine (send_long g _ 65537 65537 _ (by decide)).mono ?_
                rintro e wl ⟨rfl, rfl⟩
                go_wp2_with fail
                with_reducible refine (lives_any _).mono ?_
                rintro e wm ⟨rfl, hBm⟩
                go_wp2_with fail
                go_ret
                have hc2 : Below w13.heap.size w13 (wc.alloc big) := since_alloc hcut.out _
                exact ⟨rfl, hB13.out.trans ((since_call hc2 hBm).mono hB13.out.size)⟩
end Go.Proofs.Ytopppkafbbfobaa.W
