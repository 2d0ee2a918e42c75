/- LinkOrder: the walk. -/
import Derived.Test.YtopppkafbbfobaaC53
import Derived.Test.YtopppkafbbfobaaM9
import Derived.Test.YtopppkafbbfobaaA8
import Derived.Deep.RegionHeld3
import Derived.Deep.DeepCutAuto
import Derived.Deep.CutBlock
namespace Go.Proofs.Ytopppkafbbfobaa.W
open Go.RowKit
attribute [local go_sem ↓] Go.wp_at_zero Go.wp_at_succ
/-- Two ends and the packets under way, behind i calls. -/
structure OrdP (i : Nat) (E : Nat → St) (P : List Bs) (T : List Nat) : Prop where
  ok : ∀ j, j < 2 → (E j).Ok
  once : ∀ j, j < 2 → ((E j).held.map (·.1)).Nodup
  dir : ∀ j, j < 2 → Dir (E j) (E (1 - j))
  sent : ∀ j, j < 2 → (E j).sent.length ≤ i
  got : ∀ j, j < 2 → (E j).got + (E j).held.length ≤ i
  forged : ∀ j, j < 2 → (E j).forged = 0
  len : T.length = P.length
  cap : P.length ≤ 16 * i
  fl : ∀ j, j < P.length → T.getD j 0 < 2 ∧ Flight (E (1 - T.getD j 0)) (P.getD j [])
theorem ord_start {win : Nat → Nat} {key : Nat} (hk : key < 18446744073709551616) (h1 : ∀ j, 1 ≤ win j ∧ win j ≤ 16) : OrdP 0 (fun k => St.new (win k) key) [] [] :=
  ⟨fun j _ => ok_new hk (h1 j).1 (h1 j).2, fun _ _ => List.nodup_nil, fun _ _ => ⟨rfl, Nat.le_refl _, Nat.le_refl _, fun _ h => by cases h⟩, fun _ _ => Nat.le_refl _, fun _ _ => Nat.le_refl _, fun _ _ => rfl, rfl, Nat.le_refl _, fun _ h => absurd h (Nat.not_lt_zero _)⟩
theorem ord_skip {i : Nat} {E : Nat → St} {P : List Bs} {T : List Nat} (h : OrdP i E P T) : OrdP (i + 1) E P T :=
  ⟨h.ok, h.once, h.dir, fun j hj => by have := h.sent j hj; omega, fun j hj => by have := h.got j hj; omega, h.forged, h.len, by have := h.cap; omega, h.fl⟩
theorem ord_send {i : Nat} {E : Nat → St} {P : List Bs} {T : List Nat} (h : OrdP i E P T) {k : Nat} (hk : k < 2) {b : Bs} (hb : b.length ≤ 65536) (hi : i ≤ 900) : OrdP (i + 1) (upd E k ((E k).send b)) P T := by
  have e1 : upd E k ((E k).send b) k = (E k).send b := upd_same _ _ _
  have e2 : ∀ j, j ≠ k → upd E k ((E k).send b) j = E j := fun j hj => upd_other _ _ hj
  have hsk := h.sent k hk
  have hsl : ((E k).send b).sent.length = (E k).sent.length + 1 := by simp [St.send]
  generalize upd E k ((E k).send b) = E' at *
  refine ⟨fun j hj => ?_, fun j hj => ?_, fun j hj => ?_, fun j hj => ?_, fun j hj => ?_, fun j hj => ?_, h.len, by have := h.cap; omega, fun j hj => ?_⟩
  · by_cases e : j = k
    · rw [e, e1]; exact ok_send (h.ok k hk) hb (by omega)
    · rw [e2 j e]; exact h.ok j hj
  · by_cases e : j = k
    · rw [e, e1]; exact h.once k hk
    · rw [e2 j e]; exact h.once j hj
  · by_cases e : j = k
    · rw [e, e1, e2 (1 - k) (by omega)]; exact dir_send (h.dir k hk) b
    · have e3 : 1 - j = k := by omega
      have := h.dir j hj
      rw [e3] at this
      rw [e2 j e, e3, e1]; exact dir_send' this b
  · by_cases e : j = k
    · rw [e, e1]; omega
    · rw [e2 j e]; have := h.sent j hj; omega
  · by_cases e : j = k
    · rw [e, e1]; have := h.got k hk; show (E k).got + (E k).held.length ≤ _; omega
    · rw [e2 j e]; have := h.got j hj; omega
  · by_cases e : j = k
    · rw [e, e1]; exact h.forged k hk
    · rw [e2 j e]; exact h.forged j hj
  · obtain ⟨f1, f2⟩ := h.fl j hj
    refine ⟨f1, ?_⟩
    by_cases e : 1 - T.getD j 0 = k
    · rw [e, e1]; rw [e] at f2; exact flight_send f2 b
    · rw [e2 _ e]; exact f2
theorem getD_app {α : Type} {l l2 : List α} {i : Nat} {d : α} : (l ++ l2).getD i d = if i < l.length then l.getD i d else l2.getD (i - l.length) d := by
  split
  · rw [List.getD_eq_getElem?_getD, List.getElem?_append_left (by assumption), ← List.getD_eq_getElem?_getD]
  · rw [List.getD_eq_getElem?_getD, List.getElem?_append_right (by omega), ← List.getD_eq_getElem?_getD]
theorem ord_out {i : Nat} {E : Nat → St} {P : List Bs} {T : List Nat} (h : OrdP i E P T) {k : Nat} (hk : k < 2) {m : Nat} (hm : m = (E k).out.length) : OrdP (i + 1) (upd E k (E k).quiet) (P ++ (E k).out.take m) (T ++ List.replicate m (1 - k)) := by
  have e1 : upd E k (E k).quiet k = (E k).quiet := upd_same _ _ _
  have e2 : ∀ j, j ≠ k → upd E k (E k).quiet j = E j := fun j hj => upd_other _ _ hj
  have hol := out_length _ (h.ok k hk)
  have htk : (E k).out.take m = (E k).out := by rw [hm, List.take_length]
  rw [htk]
  generalize upd E k (E k).quiet = E' at *
  refine ⟨fun j hj => ?_, fun j hj => ?_, fun j hj => ?_, fun j hj => ?_, fun j hj => ?_, fun j hj => ?_, ?_, ?_, fun j hj => ?_⟩
  · by_cases e : j = k
    · rw [e, e1]; exact ok_quiet (h.ok k hk)
    · rw [e2 j e]; exact h.ok j hj
  · by_cases e : j = k
    · rw [e, e1]; exact h.once k hk
    · rw [e2 j e]; exact h.once j hj
  · by_cases e : j = k
    · rw [e, e1, e2 (1 - k) (by omega)]; exact dir_quiet (h.dir k hk)
    · have e3 : 1 - j = k := by omega
      have := h.dir j hj
      rw [e3] at this
      rw [e2 j e, e3, e1]; exact dir_quiet' this
  · by_cases e : j = k
    · rw [e, e1]; have := h.sent k hk; show (E k).sent.length ≤ _; omega
    · rw [e2 j e]; have := h.sent j hj; omega
  · by_cases e : j = k
    · rw [e, e1]; have := h.got k hk; show (E k).got + (E k).held.length ≤ _; omega
    · rw [e2 j e]; have := h.got j hj; omega
  · by_cases e : j = k
    · rw [e, e1]; exact h.forged k hk
    · rw [e2 j e]; exact h.forged j hj
  · simp [h.len, hm]
  · have := h.cap; simp; omega
  · rw [getD_app, getD_app, h.len]
    by_cases hjl : j < P.length
    · rw [if_pos hjl, if_pos hjl]
      obtain ⟨f1, f2⟩ := h.fl j hjl
      refine ⟨f1, ?_⟩
      by_cases e : 1 - T.getD j 0 = k
      · rw [e, e1]; rw [e] at f2; exact flight_got f2 rfl rfl (Nat.le_refl _)
      · rw [e2 _ e]; exact f2
    · rw [if_neg hjl, if_neg hjl]
      have hj2 : j - P.length < (E k).out.length := by simp at hj; omega
      have er : (List.replicate m (1 - k)).getD (j - P.length) 0 = 1 - k := by
        simp [List.getD_eq_getElem?_getD, hm, hj2]
      rw [er, show 1 - (1 - k) = k from by omega, e1]
      refine ⟨by omega, flight_got (A := E k) (flight_out (h.ok k hk) ?_) rfl rfl (Nat.le_refl _)⟩
      rw [List.getD_eq_getElem?_getD, List.getElem?_eq_getElem hj2]
      exact List.getElem_mem _
/-- What a packet under way does. -/
theorem ord_in {i : Nat} {E : Nat → St} {P : List Bs} {T : List Nat} (h : OrdP i E P T) {j t : Nat} (hj : j < P.length) (ht : t = T.getD j 0) (hi : i ≤ 900) : ∃ ls S, (E t).inn (P.getD j []) = (ls, 0, S) ∧ OrdP (i + 1) (upd E t S) P T ∧
    S.sent = (E t).sent ∧ S.got = (E t).got + ls.length ∧ ls.length ≤ i + 1 ∧ ∀ r, r < ls.length → (E t).got + r < (E (1 - t)).sent.length ∧ ls.getD r [] = (E (1 - t)).sent.getD ((E t).got + r) [] := by
  obtain ⟨f1, f2⟩ := h.fl j hj
  rw [← ht] at f1 f2
  obtain ⟨s, a, m, e, hm, ha, hs⟩ := f2
  have hA := h.ok (1 - t) (by omega)
  have hB := h.ok t f1
  have hgA := hA.got
  have hsA := hA.sent
  have hd1 := h.dir (1 - t) (by omega)
  have hd2 := h.dir t f1
  rw [show 1 - (1 - t) = t from by omega] at hd1
  have hgB := h.got t f1
  have hinn : (E t).inn (P.getD j []) = (((E t).take s a m).1, 0, ((E t).take s a m).2) := by
    rw [e, hd1.key]
    exact inn_pkt (by omega) (by omega) hm (by rcases hs with hs | hs; exact .inr hs.2; exact .inl (by omega))
  obtain ⟨t1, t2, t3, t4, t5, t6, t7, t8⟩ := flight_take (h.once t f1) hd1 hd2 ha hs
  obtain ⟨o1, o2, o3, o4, o5⟩ := ok_take (s := s) (a := a) hB hm (by omega)
  refine ⟨_, _, hinn, ?_, t4, t5, by omega, fun r hr => ⟨by omega, t7 r hr⟩⟩
  have e1 : upd E t ((E t).take s a m).2 t = ((E t).take s a m).2 := upd_same _ _ _
  have e2 : ∀ j, j ≠ t → upd E t ((E t).take s a m).2 j = E j := fun j hj => upd_other _ _ hj
  generalize upd E t ((E t).take s a m).2 = E' at *
  refine ⟨fun j hj => ?_, fun j hj => ?_, fun j hj => ?_, fun j hj => ?_, fun j hj => ?_, fun j hj => ?_, h.len, by have := h.cap; omega, fun j hj => ?_⟩
  · by_cases e : j = t
    · rw [e, e1]; exact o1
    · rw [e2 j e]; exact h.ok j hj
  · by_cases e : j = t
    · rw [e, e1]; exact t3
    · rw [e2 j e]; exact h.once j hj
  · by_cases e : j = t
    · rw [e, e1, e2 (1 - t) (by omega)]; exact t2
    · have e3 : j = 1 - t := by omega
      rw [e2 j e, e3, show 1 - (1 - t) = t from by omega, e1]; exact t1
  · by_cases e : j = t
    · rw [e, e1, t4]; have := h.sent t f1; omega
    · rw [e2 j e]; have := h.sent j hj; omega
  · by_cases e : j = t
    · rw [e, e1]; omega
    · rw [e2 j e]; have := h.got j hj; omega
  · by_cases e : j = t
    · rw [e, e1, o3]; exact h.forged t f1
    · rw [e2 j e]; exact h.forged j hj
  · obtain ⟨g1, g2⟩ := h.fl j hj
    refine ⟨g1, ?_⟩
    by_cases e : 1 - T.getD j 0 = t
    · rw [e, e1]; rw [e] at g2; exact flight_got g2 t8 t4 (by omega)
    · rw [e2 _ e]; exact g2
/-- What lies in memory. -/
structure OrdM (w0 : World) (f : Nat → Nat) (w : World) (be bg bs : Nat) (G : Nat → Nat) (E : Nat → St) (got : Nat → Nat) (V : Nat → Value) (VS : Nat → List Value) (SL : Nat → List Bs) (vp : List Value) (P : List Bs) (T : List Nat) (u10 u11 : Value) : Prop where
  two : Two w0 f w be G E
  got : At f w 3 bg (ints2 got)
  out : At f w 4 bs (vals2 V)
  rows : ∀ j, j < 2 → RowZ f w (5 + j) (V j) (VS j) (SL j)
  packets : RowZ f w 7 u10 vp P
  tos : IntsZ f w 8 u11 T
section
variable {w0 : World} {f : Nat → Nat} {w w' : World} {be bg bs : Nat} {G : Nat → Nat} {E : Nat → St} {got : Nat → Nat} {V : Nat → Value} {VS : Nat → List Value} {SL : Nat → List Bs} {vp : List Value} {P : List Bs} {T : List Nat} {u10 u11 : Value}
theorem OrdM.new (h : OrdM w0 f w be bg bs G E got V VS SL vp P T u10 u11) (hb : Below w.heap.size w w') (l : Nat) : OrdM w0 (ext f w l) w' be bg bs G E got V VS SL vp P T u10 u11 :=
  ⟨h.two.new hb l, h.got.new hb l, h.out.new hb l, fun j hj => (h.rows j hj).new hb l, h.packets.new hb l, h.tos.new hb l⟩
theorem OrdM.put (h : OrdM w0 f w be bg bs G E got V VS SL vp P T u10 u11) {k : Nat} (hk : k < 2) {S : St} (hK : Keeps (Z f w k) w w') (hE : IsEnd (Plus (Z f w k) w) w' (G k) S) : OrdM w0 (ext f w k) w' be bg bs G (upd E k S) got V VS SL vp P T u10 u11 :=
  ⟨h.two.put hk hK hE, h.got.oth hK (by omega) k, h.out.oth hK (by omega) k, fun j hj => (h.rows j hj).oth hK (by omega) k, h.packets.oth hK (by omega) k, h.tos.oth hK (by omega) k⟩
theorem OrdM.outp (h : OrdM w0 f w be bg bs G E got V VS SL vp P T u10 u11) {k : Nat} (hk : k < 2) {S : St} (hK : Keeps (· = G k) w w') (hE : IsEnd (Z f w k) w' (G k) S) (l : Nat) : OrdM w0 (ext f w l) w' be bg bs G (upd E k S) got V VS SL vp P T u10 u11 :=
  have hK0 := hK.zone (h.two.ends k hk).dg
  ⟨h.two.out hk hK hE l, h.got.oth hK0 (by omega) l, h.out.oth hK0 (by omega) l, fun j hj => (h.rows j hj).oth hK0 (by omega) l, h.packets.oth hK0 (by omega) l, h.tos.oth hK0 (by omega) l⟩
theorem OrdM.setGot (h : OrdM w0 f w be bg bs G E got V VS SL vp P T u10 u11) {t : Nat} (ht : t < 2) (v : Nat) : OrdM w0 (ext f w 9) (w.setCell ⟨bg, t, none⟩ (.int .i64 (v : Int))) be bg bs G E (upd got t v) V VS SL vp P T u10 u11 :=
  have hK := keeps_set h.got.1 t (.int .i64 (v : Int))
  ⟨h.two.oth (by omega) (by omega) hK 9, h.got.setInt ht v 9, h.out.oth hK (by omega) 9, fun j hj => (h.rows j hj).oth hK (by omega) 9, h.packets.oth hK (by omega) 9, h.tos.oth hK (by omega) 9⟩
theorem OrdM.push (h : OrdM w0 f w be bg bs G E got V VS SL vp P T u10 u11) {k : Nat} (hk : k < 2) {vn : Value} {b : Bs} (hn : Bt (fun x => Z f w (5 + k) x ∧ (V k).ownBlock ≠ some x) w vn b) {g cap : Nat}
    (ho : w'.ownsRow 0 28 1 (.slice (some ⟨g, 0, none⟩) ((VS k).length + 1) cap) ((VS k).length + 1) (VS k ++ [vn])) (hg : w.grownBy w' (V k).ownBlock) (hat : (V k).ownBlock = some g ∨ w.heap.size < g) (hlt : g < w'.heap.size) :
    OrdM w0 (ext (ext f w (5 + k)) w' 9) (w'.setCell ⟨bs, k, none⟩ (.slice (some ⟨g, 0, none⟩) ((VS k).length + 1) cap)) be bg bs G E got (upd V k (.slice (some ⟨g, 0, none⟩) ((VS k).length + 1) cap)) (upd VS k (VS k ++ [vn])) (upd SL k (SL k ++ [b])) vp P T u10 u11 := by
  have hr := h.rows k hk
  have hK := push_keeps hr.2.1 hg
  have hr2 := hr.push hn ho hg hat hlt
  have ht := h.two.oth (by omega) (by omega) hK (5 + k)
  have hgo := h.got.oth hK (by omega) (5 + k)
  have hou := h.out.oth hK (by omega) (5 + k)
  have hpa := h.packets.oth hK (by omega) (5 + k)
  have hto := h.tos.oth hK (by omega) (5 + k)
  have hK2 := keeps_set hou.1 k (.slice (some ⟨g, 0, none⟩) ((VS k).length + 1) cap)
  refine ⟨ht.oth (by omega) (by omega) hK2 9, hgo.oth hK2 (by omega) 9, hou.setVal hk _ 9, fun j hj => ?_, hpa.oth hK2 (by omega) 9, hto.oth hK2 (by omega) 9⟩
  by_cases e : j = k
  · rw [e, upd_same, upd_same, upd_same]; exact hr2.oth hK2 (by omega) 9
  · rw [upd_other _ _ e, upd_other _ _ e, upd_other _ _ e]; exact ((h.rows j hj).oth hK (by omega) (5 + k)).oth hK2 (by omega) 9
theorem OrdM.addP (h : OrdM w0 f w be bg bs G E got V VS SL vp P T u10 u11) {vn : Value} {b : Bs} (hn : Bt (fun x => Z f w 7 x ∧ u10.ownBlock ≠ some x) w vn b) {g cap : Nat}
    (ho : w'.ownsRow 0 28 1 (.slice (some ⟨g, 0, none⟩) (vp.length + 1) cap) (vp.length + 1) (vp ++ [vn])) (hg : w.grownBy w' u10.ownBlock) (hat : u10.ownBlock = some g ∨ w.heap.size < g) (hlt : g < w'.heap.size) :
    OrdM w0 (ext f w 7) w' be bg bs G E got V VS SL (vp ++ [vn]) (P ++ [b]) T (.slice (some ⟨g, 0, none⟩) (vp.length + 1) cap) u11 :=
  have hK := push_keeps h.packets.2.1 hg
  ⟨h.two.oth (by omega) (by omega) hK 7, h.got.oth hK (by omega) 7, h.out.oth hK (by omega) 7, fun j hj => (h.rows j hj).oth hK (by omega) 7, h.packets.push hn ho hg hat hlt, h.tos.oth hK (by omega) 7⟩
theorem OrdM.addT (h : OrdM w0 f w be bg bs G E got V VS SL vp P T u10 u11) {x g cap : Nat} (ho : w'.ownsRow 0 3 1 (.slice (some ⟨g, 0, none⟩) (T.length + 1) cap) (T.length + 1) (natv T ++ [.int .i64 (x : Int)])) (hg : w.grownBy w' u11.ownBlock) (hat : u11.ownBlock = some g ∨ w.heap.size < g) (hlt : g < w'.heap.size) :
    OrdM w0 (ext f w 8) w' be bg bs G E got V VS SL vp P (T ++ [x]) u10 (.slice (some ⟨g, 0, none⟩) (T.length + 1) cap) :=
  have hK := push_keeps h.tos.2 hg
  ⟨h.two.oth (by omega) (by omega) hK 8, h.got.oth hK (by omega) 8, h.out.oth hK (by omega) 8, fun j hj => (h.rows j hj).oth hK (by omega) 8, h.packets.oth hK (by omega) 8, h.tos.push ho hg hat hlt⟩
end
theorem bv_two {i : Nat} (h : i < 256) : bv [UInt8.ofNat i, 3] = [.int .u8 (i : Int), .int .u8 3] := by
  simp [bv]
  omega
theorem run_eql_nil76 (W : World) (a : Option Addr) (n c : Nat) : (binOp .eql 76 (.slice a n c) (.slice none 0 0)).run Try.prog W = .ok (.bool a.isNone) W := Lib.run_eql_slice_nil W 76 57 a n c 0 0 Try.underlying76
set_option maxRecDepth 100000 in
set_option maxHeartbeats 12800000 in
theorem order_any (x : Int) (hx : I64 x) (key : Nat) (hky : key < 18446744073709551616) (A : Option Addr) (xs : List Int) (n c : Nat) (w : World) (hn : n = xs.length) (hR : Rd w A (iv xs)) (hI : ∀ y ∈ xs, I64 y) :
    Calls Try.prog 15 #[.int .i64 x, .int .u64 (key : Int), .slice A n c] w fun e w' => e = .returned (.bool true) ∧ Below w.heap.size w w' := by
  have hends := hide (ends_any x hx key w)
  have HN := hide hn
  have HR := hide hR
  have HI := hide hI
  have hn63 : n ≤ 9223372036854775807 := by have := hR.1; rw [iv_length] at this; omega
  clear hx hn hR hI
  go_enter Try.func15, Try.ntmps15
  go_wp2_with fail
  refine hends.out.mono ?_
  rintro e w1 ⟨f, be, G, rfl, hT⟩
  have HT := hide hT
  clear hends hT
  have hq := fun W => run_eql_nil76 W (some ⟨be, 0, none⟩) 2 2
  go_upto_region 9 with fail
  clear hq
  have hbl1 := (Below.refl w1.heap.size w1).alloc (Nat.le_refl _) (vals2 fun _ => .slice none 0 0)
  obtain ⟨W1, hW1⟩ : ∃ W1, W1 = w1.alloc (vals2 fun _ => .slice none 0 0) := ⟨_, rfl⟩
  have hbl2 := (Below.refl W1.heap.size W1).alloc (Nat.le_refl _) (ints2 fun _ => 0)
  have hT1 := HT.out.new hbl1 4
  have hO1 : At (ext f w1 4) (w1.alloc (vals2 fun _ => .slice none 0 0)) 4 w1.heap.size (vals2 fun _ => .slice none 0 0) := At.made _ 4
  rw [← hW1] at hT1 hO1
  have hM0 : Hid (OrdM w (ext (ext f w1 4) W1 3) (W1.alloc (ints2 fun _ => 0)) be W1.heap.size w1.heap.size G (fun k => St.new (winOf x k) key) (fun _ => 0) (fun _ => .slice none 0 0) (fun _ => []) (fun j => ((fun k => St.new (winOf x k) key) j).sent) [] [] [] (.slice none 0 0) (.slice none 0 0)) :=
    hide ⟨hT1.new hbl2 3, At.made _ 3, hO1.new hbl2 3, fun j _ => RowZ.nil _ _ _, RowZ.nil _ _ _, IntsZ.nil _ _ _⟩
  have ew : (w1.alloc (.cells #[.slice none 0 0, .slice none 0 0] 63)).alloc (.cells #[.int .i64 0, .int .i64 0] 3) = W1.alloc (ints2 fun _ => 0) := by rw [hW1]; rfl
  have eg : w1.heap.size + 1 = W1.heap.size := by rw [hW1]; simp
  rw [ew, eg]
  have hP0 := hide (ord_start (win := winOf x) hky (winOf_bounds x))
  have hG0 : Hid (∀ j, j < 2 → (fun _ => 0 : Nat → Nat) j = ((fun k => St.new (winOf x k) key) j).got) := hide fun _ _ => rfl
  generalize W1.alloc (ints2 fun _ => 0) = wA at *
  generalize ext (ext f w1 4) W1 3 = fA at *
  generalize W1.heap.size = bg at *
  generalize w1.heap.size = bs at *
  clear ew eg hbl1 hbl2 hT1 hO1 hW1 HT
  go_loopw [10, 11, 12] (fun u10 u11 u12 wr => ∃ (f : Nat → Nat) (E : Nat → St) (got : Nat → Nat) (V : Nat → Value) (VS : Nat → List Value) (vp : List Value) (P : List Bs) (T : List Nat) (i : Nat), i ≤ 80 ∧ u12 = .int .i64 (i : Int) ∧ Hid (OrdM w f wr be bg bs G E got V VS (fun j => (E j).sent) vp P T u10 u11) ∧ Hid (∀ j, j < 2 → got j = (E j).got) ∧ Hid (OrdP i E P T)) (fun _ _ u _ => 80 - (intOf u).toNat)
  case atStart => exact ⟨fA, _, _, _, _, [], [], [], 0, Nat.zero_le _, rfl, hM0, hG0, hP0⟩
  case round =>
    clear hM0 hG0 hP0
    obtain ⟨f, E, got, V, VS, vp, P, T, i, hi, rfl, hM, hgE, hP⟩ := hrel
    by_cases hin : i < n
    · by_cases hi80 : i < 80
      · have hii : (i : Int) < (n : Int) := by omega
        have hi8 : (i : Int) < 80 := by omega
        have hi0 : (0 : Int) ≤ (i : Int) := by omega
        obtain ⟨lb, lo, eA, hlc⟩ := HR.out.2 (by rw [iv_length, ← HN.out]; omega)
        subst eA
        obtain ⟨y, hy⟩ : ∃ y, y = xs.getD i 0 := ⟨_, rfl⟩
        have hcl : wr.cell? ⟨lb, lo + i, none⟩ = some (.int .i64 y) := by
          have h1 := hlc i (.int .i64 y) (by rw [hy, iv_getElem? xs i (by rw [← HN.out]; exact hin)])
          exact (hM.out.two.base.1.cell (World.block_lt_of_cell? _ _ h1)).trans h1
        have hy64 : I64 y := by
          rw [hy, List.getD_eq_getElem?_getD, List.getElem?_eq_getElem (by rw [← HN.out]; exact hin)]
          exact HI.out _ (List.getElem_mem _)
        have hy1 := hy64.1
        have hy2 := hy64.2
        have HY := hide hy64
        have hd := tdiv_I64 hy64 (m := 8) (by omega)
        have hd1 := hd.1
        have hd2 := hd.2
        have HD := hide hd
        clear hy64 hd hy hlc
        go_wp2_with fail
        refine (around_any (y.tdiv 8) HD.out 1073741824 (by omega) (by omega) wr).mono ?_
        rintro e wr' ⟨rfl, rfl⟩
        obtain ⟨m, hm⟩ : ∃ m, m = mag (y.tdiv 8) % 1073741824 := ⟨_, rfl⟩
        have hm30 : m < 1073741824 := by rw [hm]; exact Nat.mod_lt _ (by omega)
        rw [← hm]
        have hk : m % 2 < 2 := Nat.mod_lt _ (by omega)
        obtain ⟨k, hkd⟩ : ∃ k, k = m % 2 := ⟨_, rfl⟩
        have hrem : (m : Int).tmod 2 = (k : Int) := by rw [Int.tmod_eq_emod_of_nonneg (by omega)]; omega
        rw [← hkd] at hk
        have hki : (k : Int) < 2 := by omega
        have hk0 : (0 : Int) ≤ (k : Int) := by omega
        clear hm hkd HD hd1 hd2
        go_wp2_with fail
        refine (around_any y HY.out 8 (by omega) (by omega) wr).mono ?_
        rintro e wr' ⟨rfl, rfl⟩
        obtain ⟨s, hs⟩ : ∃ s, s = mag y % 8 := ⟨_, rfl⟩
        have hs8 : s < 8 := by rw [hs]; exact Nat.mod_lt _ (by omega)
        rw [← hs]
        clear hs hcl HY hy1 hy2
        go_upto_block 2 with fail
        go_cut [10, 11] (fun s10 s11 wx => ∃ (f : Nat → Nat) (E : Nat → St) (got : Nat → Nat) (V : Nat → Value) (VS : Nat → List Value) (vp : List Value) (P : List Bs) (T : List Nat), Hid (OrdM w f wx be bg bs G E got V VS (fun j => (E j).sent) vp P T s10 s11) ∧ Hid (∀ j, j < 2 → got j = (E j).got) ∧ Hid (OrdP (i + 1) E P T))
        case first =>
          have hcs : s = 0 ∨ s = 1 ∨ s = 2 ∨ s = 3 ∨ 4 ≤ s := by omega
          rcases hcs with rfl | rfl | rfl | rfl | hs4
          · as_aux_lemma =>
              have hw8 : IntKind.u8.wrap (i : Int) = (i : Int) := by rw [IntKind.wrap_u8]; omega
              have hbl := (Below.refl wr.heap.size wr).alloc (Nat.le_refl _) (.cells #[.int .u8 (i : Int), .int .u8 3] 5)
              have hM1 := hM.out.new hbl (5 + k)
              have hcp := hM1.two.cell hk
              have hfs : Z (ext f wr (5 + k)) (wr.alloc (.cells #[.int .u8 (i : Int), .int .u8 3] 5)) (5 + k) wr.heap.size := Z.fresh (Nat.le_refl _) (by simp)
              have hvlt : ∀ z, (V k).ownBlock = some z → z < wr.heap.size := fun z e => ((hM.out.rows k hk).2.1 z e).2
              have hrd : RdIn (fun z => Z (ext f wr (5 + k)) (wr.alloc (.cells #[.int .u8 (i : Int), .int .u8 3] 5)) (5 + k) z ∧ (V k).ownBlock ≠ some z) (wr.alloc (.cells #[.int .u8 (i : Int), .int .u8 3] 5)) (some ⟨wr.heap.size, 0, none⟩) (bv [UInt8.ofNat i, 3]) := by
                rw [bv_two (by omega)]
                exact ⟨by simp, fun _ => ⟨_, _, rfl, ⟨hfs, fun e => Nat.lt_irrefl _ (hvlt _ e)⟩, (rd_block2 wr #[.int .u8 (i : Int), .int .u8 3] 5 _ rfl (by simp)).2 (by simp) |>.elim fun b h => by
                  obtain ⟨o, e1, e2⟩ := h
                  cases e1
                  exact e2⟩⟩
              have hbt : Bt (fun z => Z (ext f wr (5 + k)) (wr.alloc (.cells #[.int .u8 (i : Int), .int .u8 3] 5)) (5 + k) z ∧ (V k).ownBlock ≠ some z) (wr.alloc (.cells #[.int .u8 (i : Int), .int .u8 3] 5)) (.slice (some ⟨wr.heap.size, 0, none⟩) 2 2) [UInt8.ofNat i, 3] := ⟨_, 2, rfl, Nat.le_refl _, hrd⟩
              have hfull : (E k).full [UInt8.ofNat i, 3] = false := by
                have h1 := hP.out.sent k hk
                have h2 : (E k).waiting ≤ (E k).sent.length := Nat.sub_le _ _
                show (decide (65536 < 2) || decide (1000 ≤ (E k).waiting)) = false
                rw [decide_eq_false (show ¬ 1000 ≤ (E k).waiting from by omega)]
                rfl
              have hsend := hide (send_fine _ (G k) (E k) _ [UInt8.ofNat i, 3] 2 2 _ (hP.out.ok k hk) (hM1.two.ends k hk) rfl (by omega) hrd.rd hfull)
              have HM1 := hide hM1
              have HBT := hide hbt
              clear hbl hM1 hfs hvlt hrd hbt hfull
              go_wp2_with fail
              with_reducible refine hsend.out.mono ?_
              rintro e w2 ⟨rfl, hE2, hK2⟩
              have hM2 := hide (HM1.out.put hk hK2 hE2)
              have hbt2 := hide ((HBT.out.stays fun z hz e => Z.stays hK2 (by omega) z hz e.1).mono fun z _ e => (⟨Z.old e.1 hK2.size, e.2⟩ : Z (ext (ext f wr (5 + k)) (wr.alloc (.cells #[.int .u8 (i : Int), .int .u8 3] 5)) k) w2 (5 + k) z ∧ (V k).ownBlock ≠ some z))
              clear hsend hE2 hK2 HM1 HBT hcp
              have hcv := hM2.out.out.val hk
              have hrow := (hM2.out.rows k hk).1
              have hvl : (VS k).length ≤ 1000000000 := by
                have h1 := (hM2.out.rows k hk).2.2.1
                have h2 := hP.out.sent k hk
                omega
              go_wp2_with (at_builtin; refine wp_grow1 rfl (.tmp 140) (.tmp 142) rfl (V k) (VS k).length (VS k) rfl hrow rfl rfl hvl ?_; intro gg cap w3 ho3 hg3 hat3 hlt3; have ho3' := hM2.out.out.oth (push_keeps (hM2.out.rows k hk).2.1 hg3) (show 4 ≠ 5 + k from by omega) 9; have hcv3 := ho3'.val hk; have hfv3 := ho3'.free k)
              have hM3 := hide (hM2.out.push hk hbt2.out ho3 hg3 hat3 hlt3)
              have hES : upd (fun j => (E j).sent) k ((E k).sent ++ [[UInt8.ofNat i, 3]]) = fun j => (upd E k ((E k).send [UInt8.ofNat i, 3]) j).sent := by
                funext j
                unfold upd
                split <;> rfl
              have hGE3 : Hid (∀ j, j < 2 → got j = (upd E k ((E k).send [UInt8.ofNat i, 3]) j).got) := hide fun j hj => by
                rw [hgE.out j hj]
                unfold upd
                split
                · rename_i e; rw [e]; rfl
                · rfl
              have hP3 := hide (ord_send hP.out hk (b := [UInt8.ofNat i, 3]) (by simp) (by omega))
              rw [hES] at hM3
              clear hM2 hbt2 ho3 hg3 hat3 hlt3 ho3' hcv3 hfv3 hcv hrow hvl hES
              go_meet
              exact ⟨_, _, _, _, _, _, _, _, hM3, hGE3, hP3⟩
          · as_aux_lemma =>
              have hw8 : IntKind.u8.wrap (i : Int) = (i : Int) := by rw [IntKind.wrap_u8]; omega
              have hbl := (Below.refl wr.heap.size wr).alloc (Nat.le_refl _) (.cells #[.int .u8 (i : Int), .int .u8 3] 5)
              have hM1 := hM.out.new hbl (5 + k)
              have hcp := hM1.two.cell hk
              have hfs : Z (ext f wr (5 + k)) (wr.alloc (.cells #[.int .u8 (i : Int), .int .u8 3] 5)) (5 + k) wr.heap.size := Z.fresh (Nat.le_refl _) (by simp)
              have hvlt : ∀ z, (V k).ownBlock = some z → z < wr.heap.size := fun z e => ((hM.out.rows k hk).2.1 z e).2
              have hrd : RdIn (fun z => Z (ext f wr (5 + k)) (wr.alloc (.cells #[.int .u8 (i : Int), .int .u8 3] 5)) (5 + k) z ∧ (V k).ownBlock ≠ some z) (wr.alloc (.cells #[.int .u8 (i : Int), .int .u8 3] 5)) (some ⟨wr.heap.size, 0, none⟩) (bv [UInt8.ofNat i, 3]) := by
                rw [bv_two (by omega)]
                exact ⟨by simp, fun _ => ⟨_, _, rfl, ⟨hfs, fun e => Nat.lt_irrefl _ (hvlt _ e)⟩, (rd_block2 wr #[.int .u8 (i : Int), .int .u8 3] 5 _ rfl (by simp)).2 (by simp) |>.elim fun b h => by
                  obtain ⟨o, e1, e2⟩ := h
                  cases e1
                  exact e2⟩⟩
              have hbt : Bt (fun z => Z (ext f wr (5 + k)) (wr.alloc (.cells #[.int .u8 (i : Int), .int .u8 3] 5)) (5 + k) z ∧ (V k).ownBlock ≠ some z) (wr.alloc (.cells #[.int .u8 (i : Int), .int .u8 3] 5)) (.slice (some ⟨wr.heap.size, 0, none⟩) 2 2) [UInt8.ofNat i, 3] := ⟨_, 2, rfl, Nat.le_refl _, hrd⟩
              have hfull : (E k).full [UInt8.ofNat i, 3] = false := by
                have h1 := hP.out.sent k hk
                have h2 : (E k).waiting ≤ (E k).sent.length := Nat.sub_le _ _
                show (decide (65536 < 2) || decide (1000 ≤ (E k).waiting)) = false
                rw [decide_eq_false (show ¬ 1000 ≤ (E k).waiting from by omega)]
                rfl
              have hsend := hide (send_fine _ (G k) (E k) _ [UInt8.ofNat i, 3] 2 2 _ (hP.out.ok k hk) (hM1.two.ends k hk) rfl (by omega) hrd.rd hfull)
              have HM1 := hide hM1
              have HBT := hide hbt
              clear hbl hM1 hfs hvlt hrd hbt hfull
              go_wp2_with fail
              with_reducible refine hsend.out.mono ?_
              rintro e w2 ⟨rfl, hE2, hK2⟩
              have hM2 := hide (HM1.out.put hk hK2 hE2)
              have hbt2 := hide ((HBT.out.stays fun z hz e => Z.stays hK2 (by omega) z hz e.1).mono fun z _ e => (⟨Z.old e.1 hK2.size, e.2⟩ : Z (ext (ext f wr (5 + k)) (wr.alloc (.cells #[.int .u8 (i : Int), .int .u8 3] 5)) k) w2 (5 + k) z ∧ (V k).ownBlock ≠ some z))
              clear hsend hE2 hK2 HM1 HBT hcp
              have hcv := hM2.out.out.val hk
              have hrow := (hM2.out.rows k hk).1
              have hvl : (VS k).length ≤ 1000000000 := by
                have h1 := (hM2.out.rows k hk).2.2.1
                have h2 := hP.out.sent k hk
                omega
              go_wp2_with (at_builtin; refine wp_grow1 rfl (.tmp 140) (.tmp 142) rfl (V k) (VS k).length (VS k) rfl hrow rfl rfl hvl ?_; intro gg cap w3 ho3 hg3 hat3 hlt3; have ho3' := hM2.out.out.oth (push_keeps (hM2.out.rows k hk).2.1 hg3) (show 4 ≠ 5 + k from by omega) 9; have hcv3 := ho3'.val hk; have hfv3 := ho3'.free k)
              have hM3 := hide (hM2.out.push hk hbt2.out ho3 hg3 hat3 hlt3)
              have hES : upd (fun j => (E j).sent) k ((E k).sent ++ [[UInt8.ofNat i, 3]]) = fun j => (upd E k ((E k).send [UInt8.ofNat i, 3]) j).sent := by
                funext j
                unfold upd
                split <;> rfl
              have hGE3 : Hid (∀ j, j < 2 → got j = (upd E k ((E k).send [UInt8.ofNat i, 3]) j).got) := hide fun j hj => by
                rw [hgE.out j hj]
                unfold upd
                split
                · rename_i e; rw [e]; rfl
                · rfl
              have hP3 := hide (ord_send hP.out hk (b := [UInt8.ofNat i, 3]) (by simp) (by omega))
              rw [hES] at hM3
              clear hM2 hbt2 ho3 hg3 hat3 hlt3 ho3' hcv3 hfv3 hcv hrow hvl hES
              go_meet
              exact ⟨_, _, _, _, _, _, _, _, hM3, hGE3, hP3⟩
          · as_aux_lemma =>
              have hcp := hM.out.two.cell hk
              have hok := hide (hP.out.ok k hk)
              have hout := out_any _ (G k) _ hok.out wr (hM.out.two.ends k hk)
              go_wp2_with fail
              with_reducible refine hout.mono ?_
              rintro e w5 ⟨vq, vqs, rfl, hrp, hE3, hK3⟩
              have hol := out_length _ hok.out
              have hM5 := hide (hM.out.outp hk hK3 hE3 7)
              have hL5 : Hid (Lst (fun z => Z (ext f wr 7) w5 7 z ∧ u10.ownBlock ≠ some z) w5 vq vqs (E k).out) := hide ((hrp.fresh (by omega)).mono fun z hz e => ⟨Z.fresh e hz, fun e' => by have := (hM.out.packets.2.1 z e').2; omega⟩)
              obtain ⟨Aq, cq, rfl, hcq, _, _⟩ := hL5.out
              obtain ⟨q, hqd⟩ : ∃ q, q = (E k).out.length := ⟨_, rfl⟩
              have hL5' := hL5
              rw [← hqd] at hcq hol hL5 ⊢
              have HQ := hide hqd
              have hES : (fun j => (E j).sent) = fun j => (upd E k (E k).quiet j).sent := by
                funext j
                unfold upd
                split
                · rename_i e; rw [e]; rfl
                · rfl
              rw [hES] at hM5
              have hGE5 : Hid (∀ j, j < 2 → got j = (upd E k (E k).quiet j).got) := hide fun j hj => by
                rw [hgE.out j hj]
                unfold upd
                split
                · rename_i e; rw [e]; rfl
                · rfl
              have hP5 := hide (ord_out hP.out hk (m := q) HQ.out)
              have hPl := hide (And.intro hP.out.len hP.out.cap)
              generalize upd E k (E k).quiet = E5 at *
              have ht : 1 - k < 2 := by omega
              obtain ⟨t, htd⟩ : ∃ t, t = 1 - k := ⟨_, rfl⟩
              have hsub : (1 : Int) - (k : Int) = (t : Int) := by omega
              have hsw : IntKind.i64.wrap ((1 : Int) - (k : Int)) = (t : Int) := by rw [IntKind.wrap_i64]; omega
              have hwt : IntKind.i64.wrap (t : Int) = (t : Int) := by rw [IntKind.wrap_i64]; omega
              rw [← htd] at hP5
              have hM5z : Hid (OrdM w (ext f wr 7) w5 be bg bs G E5 got V VS (fun j => (E5 j).sent) vp (P ++ (E k).out.take 0) (T ++ List.replicate 0 t) u10 u11) := by simpa using hM5
              clear hout hrp hE3 hK3 hcp hqd hL5' hM hgE hP hES hM5 htd ht
              go_upto_region 36 with fail
              go_loopw [10, 11, 17] (fun v10 v11 u wr => ∃ (f : Nat → Nat) (vp : List Value) (j : Nat), j ≤ q ∧ u = .int .i64 (j : Int) ∧ Hid (OrdM w f wr be bg bs G E5 got V VS (fun j => (E5 j).sent) vp (P ++ (E k).out.take j) (T ++ List.replicate j t) v10 v11) ∧ Hid (Lst (fun z => Z f wr 7 z ∧ v10.ownBlock ≠ some z) wr (.slice Aq q cq) vqs (E k).out)) (fun _ _ u _ => q - (intOf u).toNat)
              case atStart => exact ⟨_, vp, 0, Nat.zero_le _, rfl, hM5z, hL5⟩
              case round =>
                clear hM5z hL5
                obtain ⟨f, vp, j, hj, rfl, hM, hL⟩ := hrel
                by_cases hjq : j < q
                · have hj0 : (0 : Int) ≤ (j : Int) := by omega
                  have hji : (j : Int) < (q : Int) := by omega
                  obtain ⟨pb, po, _, Aj, cj, ev, _, hpc, hcj, hRj, _⟩ := hL.out.at (k := j) (by rw [← HQ.out]; exact hjq)
                  rw [← HQ.out] at ev
                  cases ev
                  have hbt : Hid (Bt (fun z => Z f wr 7 z ∧ u10.ownBlock ≠ some z) wr (.slice Aj ((E k).out.getD j []).length cj) ((E k).out.getD j [])) := hide ⟨Aj, cj, rfl, hcj, hRj⟩
                  have hrow := hM.out.packets.1
                  have hvl : vp.length ≤ 1000000000 := by
                    have h1 := hM.out.packets.2.2.1
                    have h2 := hPl.out.2
                    rw [List.length_append, List.length_take] at h1
                    omega
                  have htl : (T ++ List.replicate j t).length ≤ 1000000000 := by
                    have h2 := hPl.out
                    rw [List.length_append, List.length_replicate]
                    omega
                  have HTL := hide htl
                  clear hcj hRj htl
                  go_upto_region 39 with (at_builtin; refine wp_grow1 rfl (.tmp 159) (.tmp 164) rfl u10 vp.length vp rfl hrow rfl rfl hvl ?_; intro gg cap w3 ho3 hg3 hat3 hlt3)
                  have hM6 := hide (hM.out.addP hbt.out ho3 hg3 hat3 hlt3)
                  have hL6 := hide (hL.out.push (n := vp.length + 1) (cap := cap) hg3 hat3)
                  clear ho3 hg3 hat3 hlt3 hrow hvl hM hL hbt hpc
                  have hrow2 := hM6.out.tos.1
                  obtain ⟨tl, htl⟩ : ∃ tl, tl = (T ++ List.replicate j t).length := ⟨_, rfl⟩
                  rw [← htl] at hrow2 HTL
                  have HTE := hide htl
                  clear htl
                  go_wp2_with (at_builtin; refine wp_grow1i rfl (.tmp 166) (.tmp 169) rfl u11 _ _ rfl hrow2 rfl HTL.out ?_; intro gg2 cap2 w4 ho4 hg4 hat4 hlt4)
                  have hK8 := push_keeps (hM6.out.tos.2) hg4
                  rw [HTE.out] at ho4
                  have hM7 := hM6.out.addT ho4 hg4 hat4 hlt4
                  rw [← HTE.out] at hM7
                  have hL7 := hide ((hL6.out.stays fun z hz e => Z.stays hK8 (by omega) z hz e.1).mono fun z _ e => (⟨Z.old e.1 hK8.size, e.2⟩ : Z (ext (ext f wr 7) w3 8) w4 7 z ∧ Value.ownBlock (.slice (some ⟨gg, 0, none⟩) (vp.length + 1) cap) ≠ some z))
                  rw [List.append_assoc, ← take_succ_get (E k).out j [] (by rw [← HQ.out]; exact hjq), List.append_assoc, ← List.replicate_succ'] at hM7
                  have hM7 := hide hM7
                  clear hM6 hL6 hrow2 ho4 hg4 hat4 hlt4 hK8
                  go_roundw
                  case rel => exact ⟨_, _, j + 1, by omega, by go_num, hM7, hL7⟩
                  case measure => simp [intOf]; omega
                · obtain rfl : j = q := by omega
                  go_wp2_with fail
                  go_meet
                  exact ⟨_, _, _, _, _, _, _, _, hM, hGE5, hP5⟩
          · as_aux_lemma =>
              have hcp := hM.out.two.cell hk
              have hok := hide (hP.out.ok k hk)
              have hout := out_any _ (G k) _ hok.out wr (hM.out.two.ends k hk)
              go_wp2_with fail
              with_reducible refine hout.mono ?_
              rintro e w5 ⟨vq, vqs, rfl, hrp, hE3, hK3⟩
              have hol := out_length _ hok.out
              have hM5 := hide (hM.out.outp hk hK3 hE3 7)
              have hL5 : Hid (Lst (fun z => Z (ext f wr 7) w5 7 z ∧ u10.ownBlock ≠ some z) w5 vq vqs (E k).out) := hide ((hrp.fresh (by omega)).mono fun z hz e => ⟨Z.fresh e hz, fun e' => by have := (hM.out.packets.2.1 z e').2; omega⟩)
              obtain ⟨Aq, cq, rfl, hcq, _, _⟩ := hL5.out
              obtain ⟨q, hqd⟩ : ∃ q, q = (E k).out.length := ⟨_, rfl⟩
              have hL5' := hL5
              rw [← hqd] at hcq hol hL5 ⊢
              have HQ := hide hqd
              have hES : (fun j => (E j).sent) = fun j => (upd E k (E k).quiet j).sent := by
                funext j
                unfold upd
                split
                · rename_i e; rw [e]; rfl
                · rfl
              rw [hES] at hM5
              have hGE5 : Hid (∀ j, j < 2 → got j = (upd E k (E k).quiet j).got) := hide fun j hj => by
                rw [hgE.out j hj]
                unfold upd
                split
                · rename_i e; rw [e]; rfl
                · rfl
              have hP5 := hide (ord_out hP.out hk (m := q) HQ.out)
              have hPl := hide (And.intro hP.out.len hP.out.cap)
              generalize upd E k (E k).quiet = E5 at *
              have ht : 1 - k < 2 := by omega
              obtain ⟨t, htd⟩ : ∃ t, t = 1 - k := ⟨_, rfl⟩
              have hsub : (1 : Int) - (k : Int) = (t : Int) := by omega
              have hsw : IntKind.i64.wrap ((1 : Int) - (k : Int)) = (t : Int) := by rw [IntKind.wrap_i64]; omega
              have hwt : IntKind.i64.wrap (t : Int) = (t : Int) := by rw [IntKind.wrap_i64]; omega
              rw [← htd] at hP5
              have hM5z : Hid (OrdM w (ext f wr 7) w5 be bg bs G E5 got V VS (fun j => (E5 j).sent) vp (P ++ (E k).out.take 0) (T ++ List.replicate 0 t) u10 u11) := by simpa using hM5
              clear hout hrp hE3 hK3 hcp hqd hL5' hM hgE hP hES hM5 htd ht
              go_upto_region 36 with fail
              go_loopw [10, 11, 17] (fun v10 v11 u wr => ∃ (f : Nat → Nat) (vp : List Value) (j : Nat), j ≤ q ∧ u = .int .i64 (j : Int) ∧ Hid (OrdM w f wr be bg bs G E5 got V VS (fun j => (E5 j).sent) vp (P ++ (E k).out.take j) (T ++ List.replicate j t) v10 v11) ∧ Hid (Lst (fun z => Z f wr 7 z ∧ v10.ownBlock ≠ some z) wr (.slice Aq q cq) vqs (E k).out)) (fun _ _ u _ => q - (intOf u).toNat)
              case atStart => exact ⟨_, vp, 0, Nat.zero_le _, rfl, hM5z, hL5⟩
              case round =>
                clear hM5z hL5
                obtain ⟨f, vp, j, hj, rfl, hM, hL⟩ := hrel
                by_cases hjq : j < q
                · have hj0 : (0 : Int) ≤ (j : Int) := by omega
                  have hji : (j : Int) < (q : Int) := by omega
                  obtain ⟨pb, po, _, Aj, cj, ev, _, hpc, hcj, hRj, _⟩ := hL.out.at (k := j) (by rw [← HQ.out]; exact hjq)
                  rw [← HQ.out] at ev
                  cases ev
                  have hbt : Hid (Bt (fun z => Z f wr 7 z ∧ u10.ownBlock ≠ some z) wr (.slice Aj ((E k).out.getD j []).length cj) ((E k).out.getD j [])) := hide ⟨Aj, cj, rfl, hcj, hRj⟩
                  have hrow := hM.out.packets.1
                  have hvl : vp.length ≤ 1000000000 := by
                    have h1 := hM.out.packets.2.2.1
                    have h2 := hPl.out.2
                    rw [List.length_append, List.length_take] at h1
                    omega
                  have htl : (T ++ List.replicate j t).length ≤ 1000000000 := by
                    have h2 := hPl.out
                    rw [List.length_append, List.length_replicate]
                    omega
                  have HTL := hide htl
                  clear hcj hRj htl
                  go_upto_region 39 with (at_builtin; refine wp_grow1 rfl (.tmp 159) (.tmp 164) rfl u10 vp.length vp rfl hrow rfl rfl hvl ?_; intro gg cap w3 ho3 hg3 hat3 hlt3)
                  have hM6 := hide (hM.out.addP hbt.out ho3 hg3 hat3 hlt3)
                  have hL6 := hide (hL.out.push (n := vp.length + 1) (cap := cap) hg3 hat3)
                  clear ho3 hg3 hat3 hlt3 hrow hvl hM hL hbt hpc
                  have hrow2 := hM6.out.tos.1
                  obtain ⟨tl, htl⟩ : ∃ tl, tl = (T ++ List.replicate j t).length := ⟨_, rfl⟩
                  rw [← htl] at hrow2 HTL
                  have HTE := hide htl
                  clear htl
                  go_wp2_with (at_builtin; refine wp_grow1i rfl (.tmp 166) (.tmp 169) rfl u11 _ _ rfl hrow2 rfl HTL.out ?_; intro gg2 cap2 w4 ho4 hg4 hat4 hlt4)
                  have hK8 := push_keeps (hM6.out.tos.2) hg4
                  rw [HTE.out] at ho4
                  have hM7 := hM6.out.addT ho4 hg4 hat4 hlt4
                  rw [← HTE.out] at hM7
                  have hL7 := hide ((hL6.out.stays fun z hz e => Z.stays hK8 (by omega) z hz e.1).mono fun z _ e => (⟨Z.old e.1 hK8.size, e.2⟩ : Z (ext (ext f wr 7) w3 8) w4 7 z ∧ Value.ownBlock (.slice (some ⟨gg, 0, none⟩) (vp.length + 1) cap) ≠ some z))
                  rw [List.append_assoc, ← take_succ_get (E k).out j [] (by rw [← HQ.out]; exact hjq), List.append_assoc, ← List.replicate_succ'] at hM7
                  have hM7 := hide hM7
                  clear hM6 hL6 hrow2 ho4 hg4 hat4 hlt4 hK8
                  go_roundw
                  case rel => exact ⟨_, _, j + 1, by omega, by go_num, hM7, hL7⟩
                  case measure => simp [intOf]; omega
                · obtain rfl : j = q := by omega
                  go_wp2_with fail
                  go_meet
                  exact ⟨_, _, _, _, _, _, _, _, hM, hGE5, hP5⟩
          · as_aux_lemma =>
              have hb0 : ((s : Int) == 0) = false := by rw [beq_eq_false_iff_ne]; omega
              have hb1 : ((s : Int) == 1) = false := by rw [beq_eq_false_iff_ne]; omega
              have hb2 : ((s : Int) == 2) = false := by rw [beq_eq_false_iff_ne]; omega
              have hb3 : ((s : Int) == 3) = false := by rw [beq_eq_false_iff_ne]; omega
              obtain ⟨pl, hpl⟩ : ∃ pl, pl = P.length := ⟨_, rfl⟩
              have hcap := hP.out.cap
              have hLP := hM.out.packets.lst (by omega)
              obtain ⟨Ap, cp, ep, hcp, _, _⟩ := hLP
              obtain ⟨At, ct, et, hct⟩ := hM.out.tos.form
              rw [hP.out.len] at et hct
              rw [← hpl] at ep et hcap
              have HPL := hide hpl
              subst ep
              subst et
              clear hpl hcp hct
              by_cases hpl0 : pl = 0
              · subst hpl0
                have hsk := hide (ord_skip hP.out)
                go_wp2_with fail
                go_roundw
                case rel => exact ⟨f, E, got, V, VS, vp, P, T, i + 1, by omega, by go_num, hM, hgE, hsk⟩
                case measure => simp [intOf]; omega
              · have hpe : ((pl : Int) == 0) = false := by rw [beq_eq_false_iff_ne]; omega
                have hpne : (pl : Int) ≠ 0 := by omega
                obtain ⟨m2, hm2⟩ : ∃ m2, m2 = m / 2 := ⟨_, rfl⟩
                have hq2 : (m : Int).tdiv 2 = (m2 : Int) := by rw [Int.tdiv_eq_ediv_of_nonneg (by omega)]; omega
                have hwm : IntKind.i64.wrap (m2 : Int) = (m2 : Int) := by rw [IntKind.wrap_i64]; omega
                obtain ⟨jj, hjd⟩ : ∃ jj, jj = m2 % pl := ⟨_, rfl⟩
                have hjj : jj < pl := by rw [hjd]; exact Nat.mod_lt _ (by omega)
                have hrm : (m2 : Int).tmod (pl : Int) = (jj : Int) := by rw [Int.tmod_eq_emod_of_nonneg (by omega), hjd]; rfl
                have hwj : IntKind.i64.wrap (jj : Int) = (jj : Int) := by rw [IntKind.wrap_i64]; omega
                have hji : (jj : Int) < (pl : Int) := by omega
                have hj0 : (0 : Int) ≤ (jj : Int) := by omega
                obtain ⟨t, htd⟩ : ∃ t, t = T.getD jj 0 := ⟨_, rfl⟩
                obtain ⟨tb, tc, ev, htc, hzt⟩ := hM.out.tos.at (k := jj) (by rw [hP.out.len, ← HPL.out]; exact hjj)
                rw [hP.out.len, ← HPL.out] at ev
                cases ev
                rw [← htd] at htc
                have HTD := hide htd
                have ht : t < 2 := by rw [htd]; exact (hP.out.fl jj (by rw [← HPL.out]; exact hjj)).1
                have hti : (t : Int) < 2 := by omega
                have ht0 : (0 : Int) ≤ (t : Int) := by omega
                clear hm2 hjd htd
                go_upto_region 17 with fail
                have hdr : Below wr.heap.size wr wr.drew := since_dr (Below.refl _ _)
                have hLP := hM.out.packets.lst (by have := HPL.out; omega)
                obtain ⟨pb, po, _, Aj, cj, ev, _, hpc, hcj, hRj, hzp⟩ := hLP.at (k := jj) (by rw [← HPL.out]; exact hjj)
                rw [← HPL.out] at ev
                cases ev
                obtain ⟨pn, hpn⟩ : ∃ pn, pn = (P.getD jj []).length := ⟨_, rfl⟩
                rw [← hpn] at hpc hcj
                have hMD := hM.out.new hdr 9
                obtain ⟨ls, S, hinn, hP', hsS, hgS, hls, hel⟩ := ord_in hP.out (by rw [← HPL.out]; exact hjj) HTD.out (by omega)
                have hok := hP.out.ok t ht
                have hpl2 : pn ≤ 17592186044416 := by
                  rw [hpn]
                  obtain ⟨_, s', a', m', e1, e2, _⟩ := hP.out.fl jj (by rw [← HPL.out]; exact hjj)
                  rw [e1]
                  have := pkt_length (E (1 - T.getD jj 0)).key s' a' m'
                  omega
                have f50 := hide (in_fine _ (G t) (E t) Aj (P.getD jj []) pn cj wr.drew hok (hMD.two.ends t ht) hpn hcj hpl2 (show Rd wr.drew Aj _ from hRj.rd) hinn (by omega))
                have hcp := hM.out.two.cell ht
                have HKP : Hid (∀ w', Keeps (Z (ext f wr 9) wr.drew t) wr.drew w' → w'.cell? ⟨be, t, none⟩ = some (.pointer (some ⟨G t, 0, none⟩)) ∧ w'.cell? ⟨pb, po + jj, none⟩ = some (.slice Aj pn cj)) := hide fun w' h => by
                  have hz1 := hMD.two.row.1
                  have hz2 : Z (ext f wr 9) wr.drew 7 pb := Z.old hzp (Nat.le_refl _)
                  refine ⟨(h.cell (p := ⟨be, t, none⟩) hz1.2 fun e => ?_).trans hcp, (h.cell (p := ⟨pb, po + jj, none⟩) hz2.2 fun e => ?_).trans hpc⟩
                  · have := hz1.1.symm.trans e.1; omega
                  · have := hz2.1.symm.trans e.1; omega
                have hES : (fun j => (E j).sent) = fun j => (upd E t S j).sent := by
                  funext j
                  unfold upd
                  split
                  · rename_i e; rw [e, hsS]
                  · rfl
                have hG1 : Hid (got t = (E t).got + 0 ∧ got (1 - t) = (E (1 - t)).got) := hide ⟨hgE.out t ht, hgE.out (1 - t) (by omega)⟩
                have HEL := hide hel
                have HGS := hide hgS
                have hP' := hide hP'
                have HMD := hide hMD
                clear hinn hpn hcj hpl2 hRj hok hdr hLP hel hgS hMD hsS hM hgE hP htc hzt hzp
                go_region_held3 (fun w' => w'.cell? ⟨be, t, none⟩ = some (.pointer (some ⟨G t, 0, none⟩)) ∧ w'.cell? ⟨pb, po + jj, none⟩ = some (.slice Aj pn cj))
                  (first
                    | exact ⟨hcp, hpc⟩
                    | exact HKP.out _ hK50
                    | fail)
                  (first
                    | (go_at_call 50; refine f50.out.mono ?_; rintro e w50 ⟨vx, vxs, rfl, hx50, hE50, hK50⟩)
                    | fail)
                have hM5 := HMD.out.put ht hK50 hE50
                rw [hES] at hM5
                have hM5 := hide hM5
                have hX5 := hide (hx50.mono fun k hk e => Z.plus (f := ext f wr 9) e.1 hk)
                obtain ⟨Ax, cx, rfl, hcx, _, _⟩ := hX5.out
                obtain ⟨ml, hml⟩ : ∃ ml, ml = ls.length := ⟨_, rfl⟩
                have hX5' := hX5
                rw [← hml] at hX5 hcx hls HGS ⊢
                have HML := hide hml
                obtain ⟨E5, hE5⟩ : ∃ E5, E5 = upd E t S := ⟨_, rfl⟩
                rw [← hE5] at hM5 hP'
                have hE5t : Hid (E5 t = S) := hide (by rw [hE5]; exact upd_same _ _ _)
                have hE5z : Hid (E5 (1 - t) = E (1 - t)) := hide (by rw [hE5]; exact upd_other _ _ (by omega))
                clear f50 hE50 hK50 hx50 hml hX5' HKP hcp hpc HMD hES hE5
                go_upto_region 21 with fail
                have hz : 1 - t < 2 := by omega
                obtain ⟨z, hzd⟩ : ∃ z, z = 1 - t := ⟨_, rfl⟩
                rw [← hzd] at hz hE5z hG1 HEL
                have hsub : (1 : Int) - (t : Int) = (z : Int) := by omega
                have hz0 : (0 : Int) ≤ (z : Int) := by omega
                have hzi : (z : Int) < 2 := by omega
                have hsw : IntKind.i64.wrap ((1 : Int) - (t : Int)) = (z : Int) := by rw [IntKind.wrap_i64]; omega
                have hwz : IntKind.i64.wrap (z : Int) = (z : Int) := by rw [IntKind.wrap_i64]; omega
                have hzt : z ≠ t := by omega
                have HZT := hide hzt
                clear hzd hzt
                obtain ⟨u7, hu7⟩ : ∃ u7, u7 = Value.slice (some ⟨pb, po, none⟩) pl cp := ⟨_, rfl⟩
                obtain ⟨u8, hu8⟩ : ∃ u8, u8 = Value.slice (some ⟨tb, 0, none⟩) pl ct := ⟨_, rfl⟩
                rw [← hu7, ← hu8] at hM5
                go_loopw [22] (fun u wr => ∃ (f : Nat → Nat) (got : Nat → Nat) (r : Nat), r ≤ ml ∧ u = .int .i64 (r : Int) ∧ Hid (OrdM w f wr be bg bs G E5 got V VS (fun j => (E5 j).sent) vp P T u7 u8) ∧ Hid (got t = (E t).got + r ∧ got z = (E z).got) ∧ Hid (Lst (Z f wr t) wr (.slice Ax ml cx) vxs ls)) (fun u _ => ml - (intOf u).toNat)
                case atStart => exact ⟨_, got, 0, Nat.zero_le _, rfl, hM5, hG1, hX5⟩
                case round =>
                  clear hM5 hG1 hX5
                  obtain ⟨f, got, r, hr, rfl, hM, hG, hX⟩ := hrel
                  by_cases hrm2 : r < ml
                  · have hr0 : (0 : Int) ≤ (r : Int) := by omega
                    have hri : (r : Int) < (ml : Int) := by omega
                    obtain ⟨hlt, hle⟩ := HEL.out r (by rw [← HML.out]; exact hrm2)
                    have hgt := hG.out.1
                    obtain ⟨g, hg⟩ : ∃ g, g = got t := ⟨_, rfl⟩
                    rw [← hgt, ← hg] at hlt hle
                    obtain ⟨sl, hsl⟩ : ∃ sl, sl = (E z).sent.length := ⟨_, rfl⟩
                    have hslb : sl ≤ 100 := by
                      have := hP'.out.sent z hz
                      rw [hE5z.out, ← hsl] at this
                      omega
                    have hgsl : g < sl := by rw [hsl]; exact hlt
                    have hLz := (hM.out.rows z hz).lst (by show (E5 z).sent.length ≤ _; rw [hE5z.out, ← hsl]; omega)
                    rw [hE5z.out] at hLz
                    obtain ⟨sb, so, sc, As, cs, ev, _, hsc, hcs, hRs, _⟩ := hLz.at (k := g) hlt
                    rw [← hsl] at ev
                    obtain ⟨xb, xo, _, Axr, cxr, ev2, _, hxc, hcx2, hRx, _⟩ := hX.out.at (k := r) (by rw [← HML.out]; exact hrm2)
                    rw [← HML.out] at ev2
                    cases ev2
                    rw [hle] at hxc hcx2 hRx
                    obtain ⟨msg, hmsg⟩ : ∃ msg, msg = (E z).sent.getD g [] := ⟨_, rfl⟩
                    rw [← hmsg] at hxc hRx hsc hRs
                    obtain ⟨mn, hmn⟩ : ∃ mn, mn = msg.length := ⟨_, rfl⟩
                    rw [← hmn] at hxc hsc
                    have hcv := hM.out.out.val hz
                    rw [ev] at hcv
                    have hcg := hM.out.got.int ht
                    rw [← hg] at hcg
                    have f19 : Hid (Calls Try.prog 19 #[.slice Axr mn cxr, .slice As mn cs] wr.drew (Quiet true wr.drew)) := hide (by
                      have := same_any Axr As msg msg mn mn cxr cs wr.drew hmn hmn (show Rd wr.drew _ _ from hRx.rd) (show Rd wr.drew _ _ from hRs.rd)
                      rwa [decide_eq_true rfl] at this)
                    have hd1 : decide ((sl : Int) ≤ (g : Int)) = false := by rw [decide_eq_false_iff_not]; omega
                    have hd1n : decide (sl ≤ g) = false := by rw [decide_eq_false_iff_not]; omega
                    have hgi : (g : Int) < (sl : Int) := by omega
                    have hg0 : (0 : Int) ≤ (g : Int) := by omega
                    have hwg : IntKind.i64.wrap ((g : Int) + 1) = (g : Int) + 1 := by rw [IntKind.wrap_i64]; omega
                    have hl1 := World.block_lt_of_cell? _ _ hxc
                    have hl2 := World.block_lt_of_cell? _ _ hsc
                    simp only at hl1 hl2
                    have HKP : Hid (∀ w', Below wr.heap.size wr w' → w'.cell? ⟨bg, t, none⟩ = some (.int .i64 (g : Int)) ∧ w'.cell? ⟨bs, z, none⟩ = some (.slice (some ⟨sb, so, none⟩) sl sc) ∧ w'.cell? ⟨xb, xo + r, none⟩ = some (.slice Axr mn cxr) ∧ w'.cell? ⟨sb, so + g, none⟩ = some (.slice As mn cs)) := hide fun w' h =>
                      ⟨(h.cell (p := ⟨bg, t, none⟩) hM.out.got.1.2).trans hcg, (h.cell (p := ⟨bs, z, none⟩) hM.out.out.1.2).trans hcv, (h.cell (p := ⟨xb, xo + r, none⟩) hl1).trans hxc, (h.cell (p := ⟨sb, so + g, none⟩) hl2).trans hsc⟩
                    have HG := hide hg
                    clear hlt hle hgt hg hsl hslb hgsl hLz ev hcx2 hmsg hmn hcv hcg hl1 hl2 hRx hRs hcs hxc hsc
                    go_wp2_with fail
                    go_region_held3 (fun w' => w'.cell? ⟨bg, t, none⟩ = some (.int .i64 (g : Int)) ∧ w'.cell? ⟨bs, z, none⟩ = some (.slice (some ⟨sb, so, none⟩) sl sc) ∧ w'.cell? ⟨xb, xo + r, none⟩ = some (.slice Axr mn cxr) ∧ w'.cell? ⟨sb, so + g, none⟩ = some (.slice As mn cs))
                      (first
                        | exact HKP.out _ (since_dr (Below.refl _ _))
                        | exact HKP.out _ (below_undrew' hB19)
                        | fail)
                      (first
                        | (go_at_call 19; refine f19.out.mono ?_; rintro e w19 hq19; obtain ⟨rfl, hB19⟩ := hq19.below)
                        | fail)
                    have hB0 : Below wr.heap.size wr w19 := below_undrew' hB19
                    have hMD := hM.out.new hB0 9
                    have hXD := hX.out.nw hB0 9
                    have hcg2 := hMD.got.int ht
                    rw [← HG.out] at hcg2
                    have hfg2 := hMD.got.free t
                    have hKs := keeps_set hMD.got.1 t (.int .i64 ((g + 1 : Nat) : Int))
                    have hM6 := hMD.setGot ht (g + 1)
                    have hX6 := hXD.oth hKs (by omega) 9
                    have hG6 : Hid (upd got t (g + 1) t = (E t).got + (r + 1) ∧ upd got t (g + 1) z = (E z).got) := hide ⟨by rw [upd_same, HG.out, hG.out.1]; omega, by rw [upd_other _ _ HZT.out]; exact hG.out.2⟩
                    rw [Int.natCast_add] at hM6 hX6
                    have hM6 := hide hM6
                    have hX6 := hide hX6
                    clear hKs hMD hXD hB0 hM hX hG hB19 hq19 f19 HKP
                    go_wp2_with fail
                    go_roundw
                    case rel => exact ⟨_, _, r + 1, by omega, by go_num, hM6, hG6, hX6⟩
                    case measure => simp [intOf]; omega
                  · obtain rfl : r = ml := by omega
                    have hGE : Hid (∀ j, j < 2 → got j = (E5 j).got) := hide fun j hj => by
                      have h1 := hG.out
                      have h2 := HZT.out
                      by_cases e : j = t
                      · rw [e, hE5t.out, HGS.out, h1.1]
                      · have : j = z := by omega
                        rw [this, hE5z.out, h1.2]
                    rw [hu7, hu8] at hM
                    go_wp2_with fail
                    go_meet
                    exact ⟨f, E5, got, V, VS, vp, P, T, hM, hGE, hP'⟩
        case rest =>
          as_aux_lemma =>
            clear hM hgE hP
            obtain ⟨f, E, got, V, VS, vp, P, T, hM, hgE, hP⟩ := hcut
            go_upto_region 41 with fail
            go_loopw [23] (fun u wr => ∃ j : Nat, j ≤ 2 ∧ u = .int .i64 (j : Int) ∧ Hid (Below wc.heap.size wc wr)) (fun u _ => 2 - (intOf u).toNat)
            case atStart => exact ⟨0, Nat.zero_le _, rfl, hide (Below.refl _ _)⟩
            case round =>
              obtain ⟨j, hj2, rfl, hB⟩ := hrel
              by_cases hj : j < 2
              · have hj0 : (0 : Int) ≤ (j : Int) := by omega
                have hji : (j : Int) < 2 := by omega
                have ht : 1 - j < 2 := by omega
                obtain ⟨t, htd⟩ : ∃ t, t = 1 - j := ⟨_, rfl⟩
                have hdir := hP.out.dir j hj
                rw [← htd] at ht hdir
                have hsub : (1 : Int) - (j : Int) = (t : Int) := by omega
                have ht0 : (0 : Int) ≤ (t : Int) := by omega
                have hti : (t : Int) < 2 := by omega
                have hsw : IntKind.i64.wrap ((1 : Int) - (j : Int)) = (t : Int) := by rw [IntKind.wrap_i64]; omega
                have hwt : IntKind.i64.wrap (t : Int) = (t : Int) := by rw [IntKind.wrap_i64]; omega
                have hMd := hM.out.new (since_dr hB.out) 9
                have hsl := hP.out.sent j hj
                obtain ⟨L, hL⟩ : ∃ L, L = (E j).sent.length := ⟨_, rfl⟩
                obtain ⟨Aj, cj, eV, hcj, _, _⟩ := (hMd.rows j hj).lst (by omega)
                rw [← hL] at eV hcj
                have hc1 := hMd.out.val hj
                rw [eV] at hc1
                have hc2 := hMd.got.int ht
                have hc3 := hMd.two.cell hj
                have f56 := waiting_any _ (G j) (E j) wr.drew (hP.out.ok j hj) (hMd.two.ends j hj)
                have f52 := forged_any _ (G j) (E j) wr.drew (hMd.two.ends j hj)
                rw [hP.out.forged j hj] at f52
                obtain ⟨g, hg⟩ : ∃ g, g = got t := ⟨_, rfl⟩
                obtain ⟨W0, hW0⟩ : ∃ W0, W0 = (E j).waiting := ⟨_, rfl⟩
                rw [← hg] at hc2
                rw [← hW0] at f56
                have hWL : W0 ≤ L ∧ L ≤ W0 + g := by
                  have h1 := hdir.acked
                  have h2 := hgE.out t ht
                  rw [hW0, hL, hg, h2]
                  unfold St.waiting
                  omega
                have hL81 : L ≤ 81 := by omega
                have hg81 : g ≤ 81 := by
                  rw [hg, hgE.out t ht]
                  have := hP.out.got t ht
                  omega
                have hd1 : decide ((L : Int) < (W0 : Int)) = false := by rw [decide_eq_false_iff_not]; omega
                have hd1n : decide (L < W0) = false := by rw [decide_eq_false_iff_not]; omega
                have hd2 : decide ((W0 : Int) < (L : Int) - (g : Int)) = false := by rw [decide_eq_false_iff_not]; omega
                have hwl : IntKind.i64.wrap ((L : Int) - (g : Int)) = (L : Int) - (g : Int) := by rw [IntKind.wrap_i64]; omega
                have F56 := hide f56
                have F52 := hide f52
                clear f56 f52 hg hW0 hWL hL hMd eV hcj hdir hsl htd
                go_wp2_with fail
                go_region_held3 (fun w' => w'.cell? ⟨be, j, none⟩ = some (.pointer (some ⟨G j, 0, none⟩)) ∧ w'.cell? ⟨bs, j, none⟩ = some (.slice Aj L cj) ∧ w'.cell? ⟨bg, t, none⟩ = some (.int .i64 (g : Int)))
                  (first
                    | exact ⟨hc3, hc1, hc2⟩
                    | fail)
                  (first
                    | (go_at_call 56; refine F56.out.mono ?_; rintro e w56 ⟨rfl, rfl⟩)
                    | (go_at_call 52; refine F52.out.mono ?_; rintro e w52 ⟨rfl, rfl⟩)
                    | fail)
                have hBd := hide (since_dr hB.out)
                clear hc1 hc2 hc3 F56 F52
                go_wp2_with fail
                go_roundw
                case rel => exact ⟨j + 1, by omega, by go_num, hBd⟩
                case measure => simp [intOf]; omega
              · obtain rfl : j = 2 := by omega
                have hM2 := hide (hM.out.new hB.out 9)
                go_wp2_with fail
                go_roundw
                case rel => exact ⟨_, E, got, V, VS, vp, P, T, i + 1, by omega, by go_num, hM2, hgE, hP⟩
                case measure => simp [intOf]; omega
      · have hi8 : decide ((i : Int) < 80) = false := by rw [decide_eq_false_iff_not]; omega
        have hii : (i : Int) < (n : Int) := by omega
        go_wp2_with fail
        refine (lives_any _).mono ?_
        rintro e wm ⟨rfl, hBm⟩
        go_wp2_with fail
        go_ret
        exact ⟨rfl, hM.out.two.base.1.trans (hBm.mono hM.out.two.base.1.size)⟩
    · have hii : decide ((i : Int) < (n : Int)) = false := by rw [decide_eq_false_iff_not]; omega
      go_wp2_with fail
      refine (lives_any _).mono ?_
      rintro e wm ⟨rfl, hBm⟩
      go_wp2_with fail
      go_ret
      exact ⟨rfl, hM.out.two.base.1.trans (hBm.mono hM.out.two.base.1.size)⟩
end Go.Proofs.Ytopppkafbbfobaa.W
