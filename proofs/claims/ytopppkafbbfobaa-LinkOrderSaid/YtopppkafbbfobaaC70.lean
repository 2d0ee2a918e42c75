/- link's packet.valid and read. -/
import Derived.Test.YtopppkafbbfobaaC73
import Derived.Test.YtopppkafbbfobaaC23
import Derived.Deep.DeepCutAuto
import Derived.RegionTactic
import Derived.BigRegion
namespace Go.Proofs.Ytopppkafbbfobaa.W
open Go.RowKit
attribute [local go_sem ↓] Go.wp_at_zero Go.wp_at_succ
set_option maxRecDepth 100000 in
set_option maxHeartbeats 400000 in
theorem valid_any (s a : Int) (A : Option Addr) (m : Bs) (n c : Nat) (w : World) (hn : n = m.length) :
    Calls Try.prog 79 #[.agg #[.int .i64 s, .int .i64 a, .slice A n c]] w fun e w' => e = .returned (.bool (okPkt s a m)) ∧ w.alloc (.cells #[.int .i64 s, .int .i64 a, .slice A n c] 103) = w' := by
  have HN := hide hn
  clear hn
  by_cases h1 : 0 ≤ s
  · by_cases h2 : 0 ≤ a
    · by_cases h3 : n ≤ 65536
      · have h3' : (n : Int) ≤ 65536 := by omega
        by_cases h4 : 0 < s
        · go_enter Try.func79, Try.ntmps79
          go_wp2
          go_ret
          exact ⟨by simp [okPkt, ← HN.out, h1, h2, h3, h4], rfl⟩
        · have h4' : decide (0 < s) = false := by simpa using h4
          by_cases h5 : n = 0
          · subst h5
            go_enter Try.func79, Try.ntmps79
            go_wp2
            go_ret
            exact ⟨by simp [okPkt, ← HN.out, h1, h2], rfl⟩
          · have h5' : ((n : Int) == 0) = false := by rw [beq_eq_false_iff_ne]; omega
            go_enter Try.func79, Try.ntmps79
            go_wp2
            go_ret
            exact ⟨by simp [okPkt, ← HN.out, h1, h2, h3, h4, h5], rfl⟩
      · have h3' : decide ((n : Int) ≤ 65536) = false := by rw [decide_eq_false_iff_not]; omega
        go_enter Try.func79, Try.ntmps79
        go_wp2
        go_ret
        exact ⟨by simp [okPkt, ← HN.out, h1, h2, h3], rfl⟩
    · have h2' : decide (0 ≤ a) = false := by simpa using h2
      go_enter Try.func79, Try.ntmps79
      go_wp2
      go_ret
      exact ⟨by unfold okPkt; rw [h2']; simp, rfl⟩
  · have h1' : decide (0 ≤ s) = false := by simpa using h1
    go_enter Try.func79, Try.ntmps79
    go_wp2
    go_ret
    exact ⟨by unfold okPkt; rw [h1']; simp, rfl⟩
/-- What a function leaves that reads a packet. -/
def ReadPost (w : World) (r : Option (Nat × Nat × Bs)) (e : Ending) (w' : World) : Prop :=
  Below w.heap.size w w' ∧ ∃ (s a : Int) (A : Option Addr) (n c : Nat), e = .returned (.tuple #[.agg #[.int .i64 s, .int .i64 a, .slice A n c], .bool r.isSome]) ∧
    ∀ (s' a' : Nat) (m : Bs), r = some (s', a', m) → s = (s' : Int) ∧ a = (a' : Int) ∧ n = m.length ∧ n ≤ c ∧ RdIn (fun k => w.heap.size ≤ k) w' A (bv m)
theorem rd_cut {w : World} {A : Option Addr} {c : Bs} {n cc q : Nat} (hR : Rd w A (bv c)) (hn : n = c.length) (hc : n ≤ cc) (hq : q ≤ n) : Rd w (cutAt A cc q 1) (bv (c.drop q)) := by
  have hR' := hR.cut (sz := 1) (n := n) (by rw [bv_length]; omega) hc q n (Nat.le_refl _)
  have e1 : (List.drop (q * 1) (bv c)).take ((n - q) * 1) = bv (c.drop q) := by
    rw [Nat.mul_one, Nat.mul_one, List.take_of_length_le (by rw [List.length_drop, bv_length]; omega)]
    simp [bv]
  rwa [e1] at hR'
/-- A packet has been laid, its bytes anew. -/
def PkOut (w1 W : World) (p : Value) (s a : Int) (m : Bs) : Prop :=
  ∃ (g : Nat) (A2 : Option Addr) (c2 : Nat), p = .pointer (some ⟨g, 0, none⟩) ∧ W.cell? ⟨g, 0, none⟩ = some (.int .i64 s) ∧ W.cell? ⟨g, 1, none⟩ = some (.int .i64 a) ∧ W.cell? ⟨g, 2, none⟩ = some (.slice A2 m.length c2) ∧ Hid (m.length ≤ c2 ∧ RdIn (fun k => w1.heap.size ≤ k) W A2 (bv m) ∧ Since w1 W ∧ w1.heap.size ≤ g)
theorem rd_bytes (W : World) (l : Bs) (cap : Nat) (fr : Nat × Nat) (hl : l.length ≤ 9223372036854775807) : Rd (W.alloc (.cells (bytesRow ⟨l.toArray⟩ cap) 5 fr)) (some ⟨W.heap.size, 0, none⟩) (bv l) := by
  refine ⟨by rw [bv_length]; exact hl, fun h => ⟨_, 0, rfl, fun j u hu => ?_⟩⟩
  rw [Nat.zero_add]
  have hj : j < l.length := by
    have := (List.getElem?_eq_some_iff.1 hu).1
    rwa [bv_length] at this
  rw [World.cell?_alloc_mark, bytesRow_at _ _ _ (by simpa using hj), ← hu, bv_getElem? l j hj]
  simp [List.getD_eq_getElem?_getD, List.getElem?_eq_getElem hj]
theorem RdIn.of_rd {D : Nat → Prop} {w : World} {b off : Nat} {xs : List Value} (h : Rd w (some ⟨b, off, none⟩) xs) (hd : D b) : RdIn D w (some ⟨b, off, none⟩) xs :=
  ⟨h.1, fun h0 => by obtain ⟨b', off', e, hc⟩ := h.2 h0; cases e; exact ⟨b, off, rfl, hd, hc⟩⟩
theorem pkA (w1 : World) (m : Bs) (cap : Nat) (fr : Nat × Nat) (s a : Int) (hc : m.length ≤ cap) (hm : m.length ≤ 9223372036854775807) :
    PkOut w1 ((w1.alloc (.cells (bytesRow ⟨m.toArray⟩ cap) 5 fr)).alloc (.cells #[.int .i64 s, .int .i64 a, .slice (some ⟨w1.heap.size, 0, none⟩) m.length cap] 103)).drew.drew (.pointer (some ⟨w1.heap.size + 1, 0, none⟩)) s a m := by
  have hR := (rd_block2 (w1.alloc (.cells (bytesRow ⟨m.toArray⟩ cap) 5 fr)) #[.int .i64 s, .int .i64 a, .slice (some ⟨w1.heap.size, 0, none⟩) m.length cap] 103 (w1.heap.size + 1) (by simp) (by simp))
  obtain ⟨b, off, e, hcell⟩ := hR.2 (by simp)
  cases e
  exact ⟨_, _, cap, rfl, hcell 0 _ rfl, hcell 1 _ rfl, hcell 2 _ rfl, hc, RdIn.of_rd (w := (World.alloc _ _)) (rd_alloc (rd_bytes w1 m cap fr hm) _) (Nat.le_refl _), Since.dr (Since.dr (Since.alloc (Since.alloc (Since.refl _) _) _)), Nat.le_succ _⟩
theorem pkB (w1 : World) (m : Bs) (cap : Nat) (fr : Nat × Nat) (s a : Int) (hc : m.length ≤ cap) (hm : m.length ≤ 9223372036854775807) :
    PkOut w1 ((w1.alloc (.cells #[.int .i64 s, .int .i64 a, .slice (some ⟨w1.heap.size + 1, 0, none⟩) m.length cap] 103)).alloc (.cells (bytesRow ⟨m.toArray⟩ cap) 5 fr)).drew.drew (.pointer (some ⟨w1.heap.size, 0, none⟩)) s a m := by
  have hR := rd_alloc (rd_block2 w1 #[.int .i64 s, .int .i64 a, .slice (some ⟨w1.heap.size + 1, 0, none⟩) m.length cap] 103 w1.heap.size rfl (by simp)) (.cells (bytesRow ⟨m.toArray⟩ cap) 5 fr)
  obtain ⟨b, off, e, hcell⟩ := hR.2 (by simp)
  cases e
  have hb := rd_bytes (w1.alloc (.cells #[.int .i64 s, .int .i64 a, .slice (some ⟨w1.heap.size + 1, 0, none⟩) m.length cap] 103)) m cap fr hm
  rw [show (w1.alloc (.cells #[.int .i64 s, .int .i64 a, .slice (some ⟨w1.heap.size + 1, 0, none⟩) m.length cap] 103)).heap.size = w1.heap.size + 1 from by simp] at hb
  exact ⟨_, _, cap, rfl, hcell 0 _ rfl, hcell 1 _ rfl, hcell 2 _ rfl, hc, RdIn.of_rd (w := (World.alloc _ _)) hb (Nat.le_succ _), Since.dr (Since.dr (Since.alloc (Since.alloc (Since.refl _) _) _)), Nat.le_refl _⟩
set_option maxRecDepth 100000 in
set_option maxHeartbeats 800000 in
theorem read_full (A : Option Addr) (c : Bs) (n cc q u : Nat) (s a : Int) (m : Bs) (w : World) (hn : n = c.length) (hc : n ≤ cc) (hR : Rd w A (bv c)) (hl : n ≤ 17592186044416)
    (hd : Hid (decList decInt 1 c = .ok ([s, a], q))) (hb : Hid (decBytes (c.drop q) = .ok (m, u))) (hq : q + u = n) (hm : m.length ≤ n) (_ : I64 s ∧ I64 a) (r : Option (Nat × Nat × Bs)) (hr : Hid (r.isSome = okPkt s a m)) (hr2 : Hid (∀ (s' a' : Nat) (m' : Bs), r = some (s', a', m') → s = (s' : Int) ∧ a = (a' : Int) ∧ m = m')) :
    Calls Try.prog 70 #[.slice A n cc] w (ReadPost w r) := by
  have HN := hide hn
  have hm63 : m.length ≤ 9223372036854775807 := by omega
  have hbw : Below w.heap.size w (w.alloc (.cells #[.int .i64 0, .int .i64 0, .slice none 0 0] 103)) := (Below.refl _ _).alloc (Nat.le_refl _) _
  have HBW := hide hbw
  have HR := hide (hR.below hbw)
  have hcut := run_cut_from Try.underlying28 cel5 ino5 A n cc (q : Int) (by omega) (by omega)
  rw [Int.toNat_natCast] at hcut
  have hl2 : (c.drop q).length = n - q := by rw [List.length_drop, hn]
  have HL2 := hide hl2
  have hcvt : ∀ W, _ := fun W => run_bytes_of_string (P := Try.prog) W 9 28 5 ⟨m.toArray⟩ Try.underlying9 Try.underlying28 Try.underlying5
  have HC := hide (show ∀ W, Below w.heap.size w W → Rd W (cutAt A cc q 1) (bv (c.drop q)) from fun W h => rd_cut (hR.below h) hn hc (by omega))
  clear hn hR hbw hl2
  go_enter Try.func70, Try.ntmps70
  go_wp2_with fail
  refine (getInts_any A c n cc _ HN.out hc HR.out hl).mono ?_
  rintro e w1 ⟨hB1, hp⟩
  rw [hd.out] at hp
  obtain ⟨v, n1, rfl, ho⟩ := hp
  obtain ⟨A1, c1, rfl, hR1, hc1⟩ := Rd.of_own ho (by simp [iv])
  obtain rfl : n1 = 2 := by have := ho.1; simp [iv] at this; omega
  go_wp2_with fail
  refine (getBytes_any (cutAt A cc q 1) (c.drop q) (n - q) (cc - q) _ HL2.out.symm (by omega) (HC.out _ (HBW.out.trans (hB1.mono (by simp))))).mono ?_
  rw [hb.out]
  rintro e w2 ⟨rfl, rfl⟩
  unfold resB str
  obtain ⟨b1, o1, rfl, hcell⟩ := hR1.2 (by simp [iv])
  have i0 : w1.cell? ⟨b1, o1, none⟩ = some (.int .i64 s) := hcell 0 _ rfl
  have i1 := hcell 1 _ rfl
  have n0 := World.new_ne w1 _ i0
  have n1 := World.new_ne w1 _ i1
  have lt1 : b1 < w1.heap.size := World.block_lt_of_cell? w1 _ i0
  clear hcell
  go_upto_region 7 with fail
  go_cut [9] (fun s9 wx => PkOut w1 wx s9 s a m)
  case first =>
    go_region
    all_goals go_wp2_with fail
    all_goals go_meet
    · exact pkA w1 m _ _ s a (grownCap_ge _ _ _ _) hm63
    · exact pkB w1 m _ _ s a (grownCap_ge _ _ _ _) hm63
  case rest =>
    obtain ⟨g, A2, c2, rfl, g0, g1, g2, hG⟩ := hcut
    have hlt : w.heap.size < w1.heap.size := by have := hB1.size; simp at this; omega
    have hr0 : ∀ i u, (#[.int .i64 0, .int .i64 0, .slice none 0 0] : Array Value)[i]? = some u → wc.cell? ⟨w.heap.size, i, none⟩ = some u := fun i u h =>
      (Below.cell hG.out.2.2.1 (p := ⟨w.heap.size, i, none⟩) hlt).trans ((hB1.cell (p := ⟨w.heap.size, i, none⟩) (by simp)).trans (by rw [World.cell?_alloc_at _ _ _ _ rfl]; exact h))
    have r0 : wc.cell? ⟨w.heap.size, 0, none⟩ = some (.int .i64 0) := hr0 0 _ rfl
    have r1 : wc.cell? ⟨w.heap.size, 1, none⟩ = some (.int .i64 0) := hr0 1 _ rfl
    have r2 : wc.cell? ⟨w.heap.size, 2, none⟩ = some (.slice none 0 0) := hr0 2 _ rfl
    have rf : ∀ i, wc.frozen? ⟨w.heap.size, i, none⟩ = false := fun i =>
      (Below.frozen hG.out.2.2.1 (p := ⟨w.heap.size, i, none⟩) hlt).trans ((hB1.frozen (p := ⟨w.heap.size, i, none⟩) (by simp)).trans (World.frozen?_alloc_at _ _ _ _ rfl))
    have hne : g ≠ w.heap.size := by have := hG.out.2.2.2; omega
    have hne' : w.heap.size ≠ g := fun e => hne e.symm
    have n0' := World.new_ne wc _ g0
    have n1' := World.new_ne wc _ g1
    have n2' := World.new_ne wc _ g2
    have n3' := World.new_ne wc _ r0
    have hlt2 : w.heap.size < wc.heap.size := Nat.lt_of_lt_of_le hlt (Below.size hG.out.2.2.1)
    have f0 := rf 0
    have f1 := rf 1
    have f2 := rf 2
    clear hr0 rf
    go_wp2_with fail
    go_region_held3 (fun w' => w'.cell? ⟨g, 0, none⟩ = some (.int .i64 s) ∧ w'.cell? ⟨g, 1, none⟩ = some (.int .i64 a) ∧ w'.cell? ⟨g, 2, none⟩ = some (.slice A2 m.length c2)) (go_keep)
      ((go_at_call 79; refine (valid_any s a A2 m m.length c2 _ rfl).mono ?_; rintro e w3 ⟨rfl, rfl⟩))
    all_goals go_wp2
    refine bodyPost_ret (v := .tuple #[.agg #[.int .i64 s, .int .i64 a, .slice A2 m.length c2], .bool (okPkt s a m)]) (by simp [results, Try.results70, go_sem, r0, r1, r2, hlt2]) rfl ?_
    have hKp := (((((Keeps.refl (· = w.heap.size) wc).setCell (p := ⟨w.heap.size, 0, none⟩) rfl (.int .i64 s)).setCell (p := ⟨w.heap.size, 1, none⟩) rfl (.int .i64 a)).setCell (p := ⟨w.heap.size, 2, none⟩) rfl (.slice A2 m.length c2)).alloc (Obj.cells #[.int .i64 s, .int .i64 a, .slice A2 m.length c2] 103)).drew
    have hb0 : Below w.heap.size w wc := (HBW.out.trans (hB1.mono (by simp))).trans (Below.mono hG.out.2.2.1 (Nat.le_of_lt hlt))
    refine ⟨hb0.trans (hKp.below (Nat.le_of_lt hlt2) (fun k h => Nat.le_of_eq h.symm)), s, a, A2, m.length, c2, by rw [hr.out], fun s' a' m' hrr => ?_⟩
    obtain ⟨e1, e2, e3⟩ := hr2.out s' a' m' hrr
    subst e3
    exact ⟨e1, e2, rfl, hG.out.1, (hG.out.2.1.stays (hKp.stays fun k _ hk e => by omega)).mono fun k _ hk => by omega⟩
/-- The answer of a reader that refuses. -/
def ReadNo (w : World) (e : Ending) (w' : World) : Prop := e = .returned (.tuple #[.agg #[.int .i64 0, .int .i64 0, .slice none 0 0], .bool false]) ∧ Below w.heap.size w w'
theorem ReadNo.post {w w' : World} {e : Ending} (h : ReadNo w e w') : ReadPost w none e w' :=
  ⟨h.2, 0, 0, none, 0, 0, h.1, fun _ _ _ h => by cases h⟩
theorem zero_facts {T : TypeId} {w w1 : World} (hB1 : Below (w.alloc (.cells #[.int .i64 0, .int .i64 0, .slice none 0 0] T)).heap.size (w.alloc (.cells #[.int .i64 0, .int .i64 0, .slice none 0 0] T)) w1) :
    w.heap.size < w1.heap.size ∧ w1.cell? ⟨w.heap.size, 0, none⟩ = some (.int .i64 0) ∧ w1.cell? ⟨w.heap.size, 1, none⟩ = some (.int .i64 0) ∧ w1.cell? ⟨w.heap.size, 2, none⟩ = some (.slice none 0 0) ∧
      w1.frozen? ⟨w.heap.size, 0, none⟩ = false ∧ w1.frozen? ⟨w.heap.size, 1, none⟩ = false ∧ w1.frozen? ⟨w.heap.size, 2, none⟩ = false := by
  have hlt : w.heap.size < w1.heap.size := by have := hB1.size; simp at this; omega
  have hr0 : ∀ i u, (#[.int .i64 0, .int .i64 0, .slice none 0 0] : Array Value)[i]? = some u → w1.cell? ⟨w.heap.size, i, none⟩ = some u := fun i u h =>
    (hB1.cell (p := ⟨w.heap.size, i, none⟩) (by simp)).trans (by rw [World.cell?_alloc_at _ _ _ _ rfl]; exact h)
  have rf : ∀ i, w1.frozen? ⟨w.heap.size, i, none⟩ = false := fun i => (hB1.frozen (p := ⟨w.heap.size, i, none⟩) (by simp)).trans (World.frozen?_alloc_at _ _ _ _ rfl)
  exact ⟨hlt, hr0 0 _ rfl, hr0 1 _ rfl, hr0 2 _ rfl, rf 0, rf 1, rf 2⟩
theorem decN_err5 : ∀ (n : Nat) (b : List UInt8) (k : Nat), decN decInt n b = .error k → k = 2 ∨ k = 3
  | 0, b, k, h => by simp [decN] at h
  | n + 1, b, k, h => by
    rw [decN] at h
    split at h
    · rename_i h1
      cases h
      exact dec_err h1
    split at h
    · rename_i h2
      cases h
      exact decN_err5 n _ _ h2
    · cases h
theorem decInts_err {b : List UInt8} {k : Nat} (h : decList decInt 1 b = .error k) : k = 2 ∨ k = 3 := by
  unfold decList at h
  split at h
  · rename_i h1
    cases h
    exact cnt_err h1
  split at h
  · rename_i h2
    cases h
    exact decN_err5 _ _ _ h2
  · cases h
theorem decN_len5 {α : Type} {d : List UInt8 → Except Nat (α × Nat)} : ∀ (k : Nat) (b : List UInt8) {l : List α} {u : Nat}, decN d k b = .ok (l, u) → l.length = k
  | 0, b, l, u, h => by
    simp only [decN, Except.ok.injEq, Prod.mk.injEq] at h
    rw [← h.1]; rfl
  | k + 1, b, l, u, h => by
    rw [decN] at h
    split at h
    · cases h
    split at h
    · cases h
    rename_i l' v hd
    simp only [Except.ok.injEq, Prod.mk.injEq] at h
    rw [← h.1, List.length_cons, decN_len5 k _ hd]
theorem decInts_bounds {c : Bs} {xs : List Int} {q : Nat} (h : decList decInt 1 c = .ok (xs, q)) : q ≤ c.length ∧ xs.length ≤ c.length :=
  ⟨(decList_take (e := encInt) (fun b x u hd => ⟨enc_dec hd, (dec_bounds hd).2.2.2⟩) h (fun n b l u hd => decN_len5 n b hd)).2, by
    have h1 := (decList_take (e := encInt) (fun b x u hd => ⟨enc_dec hd, (dec_bounds hd).2.2.2⟩) h (fun n b l u hd => decN_len5 n b hd)).1
    have h2 := congrArg List.length h1
    have h3 := flat_min (e := encInt) (s := 1) xs fun x _ => enc_pos x
    rw [List.length_append, List.length_take] at h2
    omega⟩
theorem decBytes_bounds {c m : Bs} {u : Nat} (h : decBytes c = .ok (m, u)) : u ≤ c.length ∧ m.length ≤ c.length := by
  obtain ⟨h1, h2⟩ := decBytes_take h
  have := congrArg List.length h1
  rw [encBytes, List.length_append, List.length_take] at this
  exact ⟨h2, by omega⟩
theorem two {xs : List Int} (h : xs.length = 2) : ∃ s a, xs = [s, a] := by
  match xs, h with
  | [s, a], _ => exact ⟨s, a, rfl⟩
theorem parts_none {c : Bs} {xs : List Int} {q : Nat} (hd : decList decInt 1 c = .ok (xs, q)) (h : ¬ xs.length = 2) : partsP c = none := by
  unfold partsP
  rw [hd]
  match xs, h with
  | [], _ => rfl
  | [_], _ => rfl
  | [_, _], h => exact absurd rfl h
  | _ :: _ :: _ :: _, _ => rfl
theorem readP_some {c : Bs} {s a : Int} {m : Bs} (h : partsP c = some (s, a, m)) : (readP c).isSome = okPkt s a m := by
  unfold readP
  simp only [h]
  cases okPkt s a m <;> rfl
theorem readP_parts {c : Bs} {s a : Int} {m : Bs} (h : partsP c = some (s, a, m)) {s' a' : Nat} {m' : Bs} (hr : readP c = some (s', a', m')) : s = (s' : Int) ∧ a = (a' : Int) ∧ m = m' := by
  unfold readP at hr
  simp only [h] at hr
  split at hr
  · rename_i hok
    simp only [Option.some.injEq, Prod.mk.injEq] at hr
    unfold okPkt at hok
    simp at hok
    exact ⟨by omega, by omega, hr.2.2⟩
  · cases hr
set_option maxRecDepth 100000 in
set_option maxHeartbeats 400000 in
theorem read_e1 (A : Option Addr) (c : Bs) (n cc k : Nat) (w : World) (hn : n = c.length) (hc : n ≤ cc) (hR : Rd w A (bv c)) (hl : n ≤ 17592186044416) (hd : Hid (decList decInt 1 c = .error k)) (hk : ((k : Int) != 0) = true) :
    Calls Try.prog 70 #[.slice A n cc] w (ReadNo w) := by
  have HN := hide hn
  have hbw : Below w.heap.size w (w.alloc (.cells #[.int .i64 0, .int .i64 0, .slice none 0 0] 103)) := (Below.refl _ _).alloc (Nat.le_refl _) _
  have HBW := hide hbw
  have HR := hide (hR.below hbw)
  clear hR hbw hn
  go_enter Try.func70, Try.ntmps70
  go_wp2_with fail
  refine (getInts_any A c n cc _ HN.out hc HR.out hl).mono ?_
  rintro e w1 ⟨hB1, hp⟩
  rw [hd.out] at hp
  obtain rfl := hp
  obtain ⟨hlt, r0, r1, r2, f0, f1, f2⟩ := zero_facts hB1
  go_wp2
  refine bodyPost_ret (v := .tuple #[.agg #[.int .i64 0, .int .i64 0, .slice none 0 0], .bool false]) (by simp [results, Try.results70, go_sem, r0, r1, r2]) rfl ⟨rfl, ?_⟩
  exact (((HBW.out.trans (hB1.mono (by simp))).setCell (Nat.le_refl _) _).setCell (Nat.le_refl _) _).setCell (Nat.le_refl _) _
set_option maxRecDepth 100000 in
set_option maxHeartbeats 400000 in
theorem read_e2 (A : Option Addr) (c : Bs) (n cc q : Nat) (xs : List Int) (w : World) (hn : n = c.length) (hc : n ≤ cc) (hR : Rd w A (bv c)) (hl : n ≤ 17592186044416) (hd : Hid (decList decInt 1 c = .ok (xs, q))) (hx : ((xs.length : Int) != 2) = true) (hxl : xs.length ≤ n) :
    Calls Try.prog 70 #[.slice A n cc] w (ReadNo w) := by
  have HN := hide hn
  have hbw : Below w.heap.size w (w.alloc (.cells #[.int .i64 0, .int .i64 0, .slice none 0 0] 103)) := (Below.refl _ _).alloc (Nat.le_refl _) _
  have HBW := hide hbw
  have HR := hide (hR.below hbw)
  clear hR hbw hn
  go_enter Try.func70, Try.ntmps70
  go_wp2_with fail
  refine (getInts_any A c n cc _ HN.out hc HR.out hl).mono ?_
  rintro e w1 ⟨hB1, hp⟩
  rw [hd.out] at hp
  obtain ⟨v, n1, rfl, ho⟩ := hp
  obtain ⟨A1, c1, rfl, hR1, hc1⟩ := Rd.of_own ho (by rw [iv_length]; omega)
  obtain rfl : n1 = xs.length := by have := ho.1; rw [iv_length, Nat.mul_one] at this; exact this.symm
  obtain ⟨hlt, r0, r1, r2, f0, f1, f2⟩ := zero_facts hB1
  clear ho hR1
  go_wp2
  refine bodyPost_ret (v := .tuple #[.agg #[.int .i64 0, .int .i64 0, .slice none 0 0], .bool false]) (by simp [results, Try.results70, go_sem, r0, r1, r2]) rfl ⟨rfl, ?_⟩
  exact (((HBW.out.trans (hB1.mono (by simp))).setCell (Nat.le_refl _) _).setCell (Nat.le_refl _) _).setCell (Nat.le_refl _) _
set_option maxRecDepth 100000 in
set_option maxHeartbeats 400000 in
theorem read_e3 (A : Option Addr) (c : Bs) (n cc q k : Nat) (s a : Int) (w : World) (hn : n = c.length) (hc : n ≤ cc) (hR : Rd w A (bv c)) (hl : n ≤ 17592186044416) (hd : Hid (decList decInt 1 c = .ok ([s, a], q))) (hb : Hid (decBytes (c.drop q) = .error k)) (hk : ((k : Int) != 0) = true) (hq : q ≤ n) :
    Calls Try.prog 70 #[.slice A n cc] w (ReadNo w) := by
  have HN := hide hn
  have hbw : Below w.heap.size w (w.alloc (.cells #[.int .i64 0, .int .i64 0, .slice none 0 0] 103)) := (Below.refl _ _).alloc (Nat.le_refl _) _
  have HBW := hide hbw
  have HR := hide (hR.below hbw)
  have hcut := run_cut_from Try.underlying28 cel5 ino5 A n cc (q : Int) (by omega) (by omega)
  rw [Int.toNat_natCast] at hcut
  have HL2 := hide (show (c.drop q).length = n - q from by rw [List.length_drop, hn])
  have HRC : ∀ W, Below w.heap.size w W → Rd W (cutAt A cc q 1) (bv (c.drop q)) := fun W h => rd_cut (hR.below h) hn hc hq
  have HC := hide HRC
  clear HRC
  clear hR hbw hn
  go_enter Try.func70, Try.ntmps70
  go_wp2_with fail
  refine (getInts_any A c n cc _ HN.out hc HR.out hl).mono ?_
  rintro e w1 ⟨hB1, hp⟩
  rw [hd.out] at hp
  obtain ⟨v, n1, rfl, ho⟩ := hp
  obtain ⟨A1, c1, rfl, hR1, hc1⟩ := Rd.of_own ho (by rw [iv_length]; simp)
  obtain rfl : n1 = 2 := by have := ho.1; rw [iv_length, Nat.mul_one] at this; exact this.symm
  obtain ⟨hlt, r0, r1, r2, f0, f1, f2⟩ := zero_facts hB1
  clear ho hR1
  go_wp2_with fail
  refine (getBytes_any (cutAt A cc q 1) (c.drop q) (n - q) (cc - q) _ HL2.out.symm (by omega) (HC.out _ (HBW.out.trans (hB1.mono (by simp))))).mono ?_
  rw [hb.out]
  rintro e w2 ⟨rfl, rfl⟩
  unfold resB str
  go_wp2
  refine bodyPost_ret (v := .tuple #[.agg #[.int .i64 0, .int .i64 0, .slice none 0 0], .bool false]) (by simp [results, Try.results70, go_sem, r0, r1, r2]) rfl ⟨rfl, ?_⟩
  exact (((HBW.out.trans (hB1.mono (by simp))).setCell (Nat.le_refl _) _).setCell (Nat.le_refl _) _).setCell (Nat.le_refl _) _
set_option maxRecDepth 100000 in
set_option maxHeartbeats 400000 in
theorem read_e4 (A : Option Addr) (c : Bs) (n cc q u : Nat) (s a : Int) (m : Bs) (w : World) (hn : n = c.length) (hc : n ≤ cc) (hR : Rd w A (bv c)) (hl : n ≤ 17592186044416) (hd : Hid (decList decInt 1 c = .ok ([s, a], q))) (hb : Hid (decBytes (c.drop q) = .ok (m, u))) (hk : ((q : Int) + (u : Int) != (n : Int)) = true) (hq : q ≤ n) (hu : q + u ≤ n) :
    Calls Try.prog 70 #[.slice A n cc] w (ReadNo w) := by
  have HN := hide hn
  have hbw : Below w.heap.size w (w.alloc (.cells #[.int .i64 0, .int .i64 0, .slice none 0 0] 103)) := (Below.refl _ _).alloc (Nat.le_refl _) _
  have HBW := hide hbw
  have HR := hide (hR.below hbw)
  have hcut := run_cut_from Try.underlying28 cel5 ino5 A n cc (q : Int) (by omega) (by omega)
  rw [Int.toNat_natCast] at hcut
  have HL2 := hide (show (c.drop q).length = n - q from by rw [List.length_drop, hn])
  have HRC : ∀ W, Below w.heap.size w W → Rd W (cutAt A cc q 1) (bv (c.drop q)) := fun W h => rd_cut (hR.below h) hn hc hq
  have HC := hide HRC
  clear HRC
  clear hR hbw hn
  go_enter Try.func70, Try.ntmps70
  go_wp2_with fail
  refine (getInts_any A c n cc _ HN.out hc HR.out hl).mono ?_
  rintro e w1 ⟨hB1, hp⟩
  rw [hd.out] at hp
  obtain ⟨v, n1, rfl, ho⟩ := hp
  obtain ⟨A1, c1, rfl, hR1, hc1⟩ := Rd.of_own ho (by rw [iv_length]; simp)
  obtain rfl : n1 = 2 := by have := ho.1; rw [iv_length, Nat.mul_one] at this; exact this.symm
  obtain ⟨hlt, r0, r1, r2, f0, f1, f2⟩ := zero_facts hB1
  clear ho hR1
  go_wp2_with fail
  refine (getBytes_any (cutAt A cc q 1) (c.drop q) (n - q) (cc - q) _ HL2.out.symm (by omega) (HC.out _ (HBW.out.trans (hB1.mono (by simp))))).mono ?_
  rw [hb.out]
  rintro e w2 ⟨rfl, rfl⟩
  unfold resB str
  go_wp2
  refine bodyPost_ret (v := .tuple #[.agg #[.int .i64 0, .int .i64 0, .slice none 0 0], .bool false]) (by simp [results, Try.results70, go_sem, r0, r1, r2]) rfl ⟨rfl, ?_⟩
  exact (((HBW.out.trans (hB1.mono (by simp))).setCell (Nat.le_refl _) _).setCell (Nat.le_refl _) _).setCell (Nat.le_refl _) _
theorem read_any (A : Option Addr) (c : Bs) (n cc : Nat) (w : World) (hn : n = c.length) (hc : n ≤ cc) (hR : Rd w A (bv c)) (hl : n ≤ 17592186044416) :
    Calls Try.prog 70 #[.slice A n cc] w (ReadPost w (readP c)) := by
  cases hd : decList decInt 1 c with
  | error k =>
    have hk := decInts_err hd
    rw [show readP c = none from by simp [readP, partsP, hd]]
    exact (read_e1 A c n cc k w hn hc hR hl (hide hd) (by rw [bne_iff_ne]; omega)).mono fun _ _ h => h.post
  | ok r =>
    obtain ⟨xs, q⟩ := r
    obtain ⟨hq, hxl⟩ := decInts_bounds hd
    by_cases h2 : xs.length = 2
    · obtain ⟨s, a, rfl⟩ := two h2
      cases hb : decBytes (c.drop q) with
      | error k =>
        have hk := decBytes_err hb
        rw [show readP c = none from by simp [readP, partsP, hd, hb]]
        exact (read_e3 A c n cc q k s a w hn hc hR hl (hide hd) (hide hb) (by rw [bne_iff_ne]; omega) (by omega)).mono fun _ _ h => h.post
      | ok r =>
        obtain ⟨m, u⟩ := r
        obtain ⟨hu, hml⟩ := decBytes_bounds hb
        rw [List.length_drop] at hu hml
        by_cases hqu : q + u = n
        · have hp : partsP c = some (s, a, m) := by simp only [partsP, hd, hb]; rw [if_pos (by omega)]
          have hpb := parts_bounds hp
          exact read_full A c n cc q u s a m w hn hc hR hl (hide hd) (hide hb) hqu (by omega) ⟨hpb.1, hpb.2.1⟩ _ (hide (readP_some hp)) (hide fun s' a' m' h => readP_parts hp h)
        · rw [show readP c = none from by simp only [readP, partsP, hd, hb]; rw [if_neg (by omega)]]
          exact (read_e4 A c n cc q u s a m w hn hc hR hl (hide hd) (hide hb) (by rw [bne_iff_ne]; omega) (by omega) (by omega)).mono fun _ _ h => h.post
    · rw [show readP c = none from by unfold readP; rw [parts_none hd h2]]
      exact (read_e2 A c n cc q xs w hn hc hR hl (hide hd) (by rw [bne_iff_ne]; omega) (by omega)).mono fun _ _ h => h.post

end Go.Proofs.Ytopppkafbbfobaa.W
