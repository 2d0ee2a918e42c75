/- LinkSeals. -/
import Derived.Test.YtopppkafbbfobaaL6
import Derived.Test.YtopppkafbbfobaaC63
import Derived.Deep.DeepCutAuto
namespace Go.Proofs.Ytopppkafbbfobaa.W
open Go.RowKit
attribute [local go_sem ↓] Go.wp_at_zero Go.wp_at_succ
/-- An append of bytes, at a step of a region that draws its order. -/
theorem step_app {ops : Array Oper} {o : Oper} {a : Act} {K : Act → World → Prop} {Q : Exit → Act → World → Prop} {E : Prop} {w : World} (hgd : o.guard = none) (s x : Operand)
    (ho : o.op = .call { callee := .builtin .append, args := #[s, x], argTypes := #[28, 28] }) (v : Value) (n : Nat) (xs : List Value) (hs : a.eval s = v) (hown : w.ownsRow 0 5 1 v n xs)
    (A : Option Addr) (m c : Nat) (news : List Value) (hx : a.eval x = .slice A m c) (hl : news.length = m) (hR : Rd w A news) (h1 : ∀ u ∈ news, u.oneCell' = true) (hm : n + m ≤ 140737488355328)
    (h : ∀ v' w', w'.ownsRow 0 5 1 v' (n + m) (xs ++ news) → w.grownBy w' v.ownBlock → (v'.ownBlock = v.ownBlock ∨ v'.ownBlock = some w.heap.size) → K (a.put o.dst v') w') :
    if Region.wanted o (yielded ops a.tmps) = true then Oper.wp Try.prog o a w K Q else E := by
  have hw : Region.wanted o (yielded ops a.tmps) = true := by simp [Region.wanted, hgd]
  rw [if_pos hw]
  obtain ⟨v', w', hr, h2, h3, h4⟩ := run_app (P := Try.prog) 0 28 o.type 5 (.int .u8 0) 1 1 Try.underlying28 inf5 rfl (by decide) v n xs hown A m c news (by omega) hR h1 hm (by omega) (Nat.zero_le _)
  unfold Oper.wp execOp
  simp only [ho, resolve, invoke, builtin, Sem.run_bind, Sem.run_pure, Result.andThen_ok, List.map_toArray, List.map_cons, List.map_nil, hs, hx, hr]
  exact h v' w' h2 h3 h4
theorem Since.grown {W0 w w' : World} {row : Option Nat} (h : Since W0 w) (hg : w.grownBy w' row) (hr : ∀ k, row = some k → W0.heap.size ≤ k) : Since W0 w' := Below.grown h hg (Below.size h) hr
theorem ho46' {w : World} {v : Value} {a b : Bs} (h : w.ownsRow 0 5 1 v (a.length + b.length) (bv a ++ bv b)) (hl : (a ++ b).length = a.length + b.length) (hm : a.length + b.length ≤ 9223372036854775807) :
    ∃ A c, v = .slice A (a.length + b.length) c ∧ a.length + b.length ≤ c ∧ Rd w A (bv (a ++ b)) := by
  have h' : w.ownsRow 0 5 1 v (a ++ b).length (bv (a ++ b)) := by rw [hl, bv_append]; exact h
  obtain ⟨A, c, e, hc, hR⟩ := Bt.own h' (by omega)
  rw [hl] at e hc
  exact ⟨A, c, e, hc, hR⟩
theorem ho46s {w : World} {v : Value} {x : Bs} {xn : Nat} {y : UInt8} (h : w.ownsRow 0 5 1 v (xn + 1) (bv x ++ [.int .u8 (y.toNat : Int)])) (hl : x.length = xn) (hm : xn ≤ 9223372036854775807) (hm2 : xn ≤ 68 := by omega) :
    ∃ A c, v = .slice A (xn + 1) c ∧ xn + 1 ≤ c ∧ Rd w A (bv (x ++ [y])) := by
  subst hl
  have := ho46' (a := x) (b := [y]) h (by simp) (by simp; omega)
  exact this
/-- The six byte rows that are tried. -/
def Tries (w12 wx : World) (v : Value) (ls : List Bs) : Prop := ∃ vs, Lst (fun _ => True) wx v vs ls ∧ Since w12 wx
theorem tries_mk {w12 w46 : World} {g11 xn c11 c2 mn c1 c46 : Nat} {A2 A1 A46 : Option Addr} {bent x m : Bs} {y : UInt8} (hS : Since w12 w46) (hb : Rd w12 (some ⟨g11, 0, none⟩) (bv bent)) (hbl : bent.length = xn) (hc11 : xn ≤ c11) (hx : Rd w12 A2 (bv x)) (hxl : x.length = xn) (hc2 : xn ≤ c2)
    (hm : Rd w12 A1 (bv m)) (hml : m.length = mn) (hc1 : mn ≤ c1) (hR : Rd w46 A46 (bv (x ++ [y]))) (hc46 : xn + 1 ≤ c46) :
    Tries w12 (w46.alloc (.cells #[.slice (some ⟨g11, 0, none⟩) xn c11, .slice A2 (xn - 1) c2, .slice A1 mn c1, .slice A2 xn c2, .slice none 0 0, .slice A46 (xn + 1) c46] 28)) (.slice (some ⟨w46.heap.size, 0, none⟩) 6 6) [bent, x.take (xn - 1), m, x, [], x ++ [y]] := by
  have hr := rd_block2 w46 #[.slice (some ⟨g11, 0, none⟩) xn c11, .slice A2 (xn - 1) c2, .slice A1 mn c1, .slice A2 xn c2, .slice none 0 0, .slice A46 (xn + 1) c46] 28 _ rfl (by simp)
  refine ⟨_, ⟨_, 6, rfl, Nat.le_refl _, RdIn.of_rd hr trivial, ?_⟩, Since.alloc hS _⟩
  exact Each.mk_cons (Bt.of_rd (rd_alloc (hb.below hS) _) hbl.symm hc11) (Each.mk_cons (Bt.of_rd (rd_alloc (rd_take5 (hx.below hS) _) _) (by rw [List.length_take]; omega) (by omega)) (Each.mk_cons (Bt.of_rd (rd_alloc (hm.below hS) _) hml.symm hc1)
    (Each.mk_cons (Bt.of_rd (rd_alloc (hx.below hS) _) hxl.symm hc2) (Each.mk_cons (Bt.nil _ _) (Each.mk_cons (Bt.of_rd (rd_alloc hR _) (by simp; omega) hc46) (Each.nil _ _))))))
/-- What Open's two answers say. -/
def Opened (w : World) (r : Except Nat Bs) (v u : Value) : Prop := match r with
  | .error k => v = .slice none 0 0 ∧ u = .int .i64 (k : Int)
  | .ok c => (∃ A d, v = .slice A c.length d ∧ Rd w A (bv c)) ∧ u = .int .i64 0
theorem Opened.since {w w' : World} {r : Except Nat Bs} {v u : Value} (h : Opened w r v u) (hS : Below w.heap.size w w') : Opened w' r v u := by
  unfold Opened at *
  cases r with
  | error k => exact h
  | ok c => obtain ⟨⟨A, d, e, hR⟩, e2⟩ := h; exact ⟨⟨A, d, e, hR.below hS⟩, e2⟩
theorem opened_mk {w w' : World} {r : Except Nat Bs} {e : Ending} (hr : ∀ c, r = .ok c → c.length ≤ 1000 ∧ True) (h : OpenPost w r e w') : ∃ v u, e = .returned (.tuple #[v, u]) ∧ Opened w' r v u ∧ Below w.heap.size w w' := by
  cases r with
  | error k => exact ⟨_, _, h.2, ⟨rfl, rfl⟩, h.1⟩
  | ok c =>
    obtain ⟨v, rfl, ho⟩ := h.2
    obtain ⟨A, d, e, _, hR⟩ := Bt.own ho (by have := (hr c rfl).1; omega)
    exact ⟨_, _, rfl, ⟨⟨A, d, e, hR⟩, rfl⟩, h.1⟩
theorem ropened_mk {w w' : World} {A : Option Addr} {t : Bs} {d : Nat} {r : Except Nat Bs} {e : Ending} (hr : ∀ c, r = .ok c → c.length ≤ 1000 ∧ c = t.take c.length) (hR : Rd w A (bv t)) (h : ROpenPost w A d r e w') : ∃ v u, e = .returned (.tuple #[v, u]) ∧ Opened w' r v u ∧ Below w.heap.size w w' := by
  cases r with
  | error k => exact ⟨_, _, h.2, ⟨rfl, rfl⟩, h.1⟩
  | ok c =>
    refine ⟨_, _, h.2, ⟨⟨A, d, rfl, ?_⟩, rfl⟩, h.1⟩
    rw [(hr c rfl).2]
    exact rd_take5 (hR.below h.1) _
theorem opened_same {w : World} {r : Except Nat Bs} {v u v2 u2 : Value} (h : Opened w r v u) (h2 : Opened w r v2 u2) : ∃ k : Nat, u = .int .i64 (k : Int) ∧ u2 = .int .i64 (k : Int) ∧ ∀ w', Below w.heap.size w w' → Calls Try.prog 19 #[v, v2] w' (Quiet true w') := by
  cases r with
  | error k =>
    obtain ⟨rfl, rfl⟩ := h
    obtain ⟨rfl, rfl⟩ := h2
    exact ⟨k, rfl, rfl, fun w' _ => same_any none none [] [] 0 0 0 0 w' rfl rfl (Rd.nil _ _) (Rd.nil _ _)⟩
  | ok c =>
    obtain ⟨⟨A, d, rfl, hR⟩, rfl⟩ := h
    obtain ⟨⟨A2, d2, rfl, hR2⟩, rfl⟩ := h2
    refine ⟨0, rfl, rfl, fun w' hB => ?_⟩
    have := same_any A A2 c c c.length c.length d d2 w' rfl rfl (hR.below hB) (hR2.below hB)
    rwa [decide_eq_true rfl] at this
set_option maxRecDepth 100000 in
set_option maxHeartbeats 3200000 in
theorem seals_any (key : Nat) (hk : key < 18446744073709551616) (other : Nat) (hk2 : other < 18446744073709551616) (A : Option Addr) (l : Bs) (n c : Nat) (at_ : Int) (hat : I64 at_) (by_ : UInt8) (w : World) (hn : n = l.length) (hc : n ≤ c) (hR : Rd w A (bv l)) :
    Calls Try.prog 14 #[.int .u64 (key : Int), .int .u64 (other : Int), .slice A n c, .int .i64 at_, .int .u8 (by_.toNat : Int)] w fun e w' => e = .returned (.bool true) ∧ Below w.heap.size w w' := by
  obtain ⟨m, hm⟩ : ∃ m, m = l.take 60 := ⟨_, rfl⟩
  have hml : m.length ≤ 60 := by rw [hm, List.length_take]; omega
  have hfew : Calls Try.prog 44 #[.slice A n c, .int .i64 60] w (RetB w m) := by rw [hm]; exact few_b A l n c 60 w hn hc hR (by decide)
  have HF := hide hfew
  obtain ⟨x, hx⟩ : ∃ x, x = sealed key m := ⟨_, rfl⟩
  have hsl : x.length = m.length + 8 := by rw [hx, sealed_length]
  have HX := hide hx
  have HXO := hide (show openP key x = .ok m from by rw [hx]; exact open_sealed key m)
  have HSL := hide hsl
  have hx8 : 8 ≤ x.length := by omega
  have hx2 : x.length ≤ 68 := by omega
  obtain ⟨ei, hei⟩ : ∃ ei, ei = encInts [1, 0] := ⟨_, rfl⟩
  obtain ⟨eb, heb⟩ : ∃ eb, eb = encBytes m := ⟨_, rfl⟩
  have heil : ei.length ≤ 27 := by rw [hei]; exact encInts2_length 1 0
  have hebl : eb.length ≤ 69 := by rw [heb]; have := encBytes_length m; omega
  have hpk : Hid (sealed key (ei ++ eb) = pkt key 1 0 m) := by show _ = _; rw [hei, heb]; rfl
  obtain ⟨pk, hpk2⟩ : ∃ pk, pk = sealed key (ei ++ eb) := ⟨_, rfl⟩
  have hpkl : pk.length = ei.length + eb.length + 8 := by rw [hpk2, sealed_length, List.length_append]
  have HEI := hide hei
  have HEB := hide heb
  have HPK := hide hpk2
  have HPL := hide hpkl
  have hml1 := hide (show m.length ≤ 9223372036854775807 from by omega)
  have hml2 := hide (show m.length ≤ 140737488355000 from by omega)
  have hxl1 := hide (show x.length ≤ 9223372036854775807 from by omega)
  have hei1 := hide (show ei.length ≤ 9223372036854775807 from by omega)
  have heb1 := hide (show eb.length ≤ 9223372036854775807 from by omega)
  clear hm hn hR hfew hx hsl hei heb hpk2 hpkl
  generalize hmn : m.length = mn at *
  have HMN := hide hmn
  clear hmn
  generalize hxn : x.length = xn at *
  have HXN := hide hxn
  clear hxn
  go_enter Try.func14, Try.ntmps14
  go_wp2_with fail
  with_reducible refine HF.out.mono ?_
  rintro e w1 ⟨v1, rfl, ho1, hB1⟩
  obtain ⟨A1, c1, rfl, hc1, hR1⟩ := Bt.own ho1 (by rw [HMN.out]; exact hml1.out)
  rw [HMN.out] at hc1
  have HR1 := hide hR1
  have HB1 := hide hB1
  have hseal := Seal_any key hk A1 m mn c1 w1 HMN.out.symm hc1 hR1 (by omega)
  rw [← HX.out] at hseal
  rw [HMN.out]
  clear ho1 hR1 hB1
  go_wp2_with fail
  with_reducible refine hseal.mono ?_
  rintro e w2 ⟨v2, rfl, ho2, hB2⟩
  obtain ⟨A2, c2, rfl, hc2, hR2⟩ := Bt.own ho2 (by rw [HXN.out]; exact hxl1.out)
  rw [HXN.out] at hc2
  rw [HXN.out]
  have HB2 := hide (since_call HB1.out hB2)
  have HR12 := hide (HR1.out.below hB2)
  have HR2 := hide hR2
  have hop := Open_any key hk A2 x xn c2 w2 HXN.out.symm hc2 (by omega) hR2
  rw [HXO.out] at hop
  clear hseal ho2 hR2 hB2
  go_wp2_with fail
  with_reducible refine hop.mono ?_
  rintro e w3 ⟨hB3, vy, rfl, hoy⟩
  obtain ⟨Ay, cy, rfl, hcy, hRy⟩ := Bt.own hoy (by rw [HMN.out]; exact hml1.out)
  rw [HMN.out] at hcy
  rw [HMN.out]
  have HB3 := hide (since_call HB2.out hB3)
  have HR13 := hide (HR12.out.below hB3)
  have HR23 := hide (HR2.out.below hB3)
  have HRY := hide hRy
  clear hop hoy hRy hB3
  go_wp2_with fail
  have HK := hide (show ∀ w', Since w3 w' → (convert 28 9 (.slice A1 mn c1)).run Try.prog w' = .ok (str m) w' ∧ Since w3 w' from fun w' h => ⟨run_tostr A1 m mn c1 (HR13.out.below h) HMN.out.symm, h⟩)
  have hI := hide (show ∀ z ∈ ([1, 0] : List Int), I64 z from by simp; exact ⟨⟨by decide, by decide⟩, ⟨by decide, by decide⟩⟩)
  have h15 := hide (show (2 : Nat) ≤ 15000000000000 from by decide)
  have hsumL := hide (show ei.length + eb.length ≤ 140737488355328 from by omega)
  have hel := hide (show (ei ++ eb).length = ei.length + eb.length from List.length_append)
  have hel2 := hide (show ei.length + eb.length ≤ 140737488350000 from by omega)
  have hel3 := hide (show ei.length + eb.length ≤ 9223372036854775807 from by omega)
  have f24 : Hid (∀ W A', Rd W A' (iv [1, 0]) → Calls Try.prog 24 #[.slice A' 2 2] W (RetB W ei)) := fun W A' h => by rw [HEI.out]; exact ints_any A' [1, 0] 2 2 W rfl h hI.out h15.out
  have f22 : Hid (∀ W, Calls Try.prog 22 #[str m] W (RetB W eb)) := fun W => by rw [HEB.out]; exact bytes_any m (by rw [HMN.out]; exact hml2.out) W
  have f43 : Hid (∀ W A' c', ei.length + eb.length ≤ c' → Rd W A' (bv (ei ++ eb)) → Calls Try.prog 43 #[.int .u64 (key : Int), .slice A' (ei.length + eb.length) c'] W (RetB W pk)) := fun W A' c' h1 h2 => by rw [HPK.out]; exact Seal_any key hk A' (ei ++ eb) _ c' W hel.out.symm h1 h2 hel2.out
  go_region_held3 (fun w' => (convert 28 9 (.slice A1 mn c1)).run Try.prog w' = .ok (str m) w' ∧ Since w3 w')
    (first
      | exact HK.out _ (Since.drew w3)
      | (go_split_ands; first | exact HK.out _ (Since.alloc ‹Since w3 _› _) | exact HK.out _ (Since.dr (Since.alloc (Since.undr ‹Since w3 _›) _)) | exact HK.out _ (Since.call ‹Since w3 _› hB24) | exact HK.out _ (Since.call ‹Since w3 _› hB22) | exact HK.out _ (Since.grown ‹Since w3 _› hg46 hrow24) | exact HK.out _ (Since.call ‹Since w3 _› hB43) | fail))
    (first
      | (go_at_call 24; refine (f24.out _ _ (by first | exact rd_block2 _ #[.int .i64 1, .int .i64 0] 3 _ rfl (by simp) | exact (rd_block2 _ #[.int .i64 1, .int .i64 0] 3 _ rfl (by simp)).below hB22)).mono ?_; rintro e w24 ⟨v24, rfl, ho24, hB24⟩; have hrow24 : ∀ k, v24.ownBlock = some k → w3.heap.size ≤ k := fun k hk => Nat.le_trans (by first | (simp; done) | (have := hB22.size; simp at this ⊢; omega)) (ho24.lt k hk).1)
      | (go_at_call 22; refine (f22.out _).mono ?_; rintro e w22 ⟨v22, rfl, ho22, hB22⟩; obtain ⟨A22, c22, rfl, hc22, hR22⟩ := Bt.own ho22 heb1.out)
      | (refine step_app (by rfl) _ _ (by rfl) _ ei.length (bv ei) (by rfl) (by first | exact own_rebase ho24 (Nat.zero_le _) | exact own_rebase (own_kept ho24 hB22) (Nat.zero_le _)) A22 eb.length c22 (bv eb) (by rfl) (bv_length _) (by first | exact hR22 | exact hR22.below hB24 | exact (rd_alloc hR22 _).below hB24) (bv_one _) hsumL.out ?_; intro v46 w46 ho46 hg46 hat46; obtain ⟨A46, c46, rfl, hc46, hR46⟩ := ho46' ho46 hel.out hel3.out)
      | (go_at_call 43; refine (f43.out _ _ _ hc46 hR46).mono ?_; rintro e w43 ⟨v43, rfl, ho43, hB43⟩)
      | fail)
  go_split_ands
  have hS43 : Since w3 w43 := by assumption
  have HB4 := hide (since_call HB3.out hS43)
  obtain ⟨A43, c43, rfl, hc43, hR43⟩ := Bt.own ho43 (by rw [HPL.out]; omega)
  have HS43 := hide hS43
  have HR14 := hide (HR13.out.below hS43)
  have HR24 := hide (HR23.out.below hS43)
  have HRY4 := hide (HRY.out.below hS43)
  generalize hpn : pk.length = pn at *
  have HPN := hide hpn
  have hpn1 : pn ≤ 1000 := by have := HPL.out; omega
  clear hpn ho43 hS43 hB43 hrow24 hg46 hat46 ho46 hR46
  go_wp2_with fail
  have hnew := new_ok 1 key w43 (by decide) (by decide)
  refine hnew.mono ?_
  rintro e w5 ⟨ga, rfl, hA, hB5⟩
  have hZ : Hid (IsEnd (fun k => w43.heap.size ≤ k ∧ k < w5.heap.size) w5 ga (St.new 1 key)) := hA.mono fun k hk e => ⟨e, hk⟩
  have HB5 := hide (since_call HB4.out hB5)
  have HB45 := hide hB5
  have hinn : (St.new 1 key).inn pk = ([m], 0, ((St.new 1 key).take 1 0 m).2) := by
    have e : pk = pkt (St.new 1 key).key 1 0 m := by rw [HPK.out, hpk.out]; rfl
    rw [e]
    exact inn_pkt (by decide) (by decide) (by have := HMN.out; omega) (.inl (by decide))
  have hcall := in_fine (fun k => w43.heap.size ≤ k ∧ k < w5.heap.size) ga (St.new 1 key) A43 pk pn c43 w5 (ok_new hk (by decide) (by decide)) hZ.out HPN.out.symm hc43 (by omega) (hR43.below hB5) hinn (by simp)
  clear hnew hA hB5 hinn
  go_wp2_with fail
  with_reducible refine hcall.mono ?_
  rintro e w6 ⟨vz, vzs, rfl, hz, _, hK6⟩
  have hz43 := HB45.out.size
  have HB6 : Hid (Below w.heap.size w w6) := HB5.out.trans (hK6.below HB5.out.size fun k e => by have := HB4.out.size; omega)
  have hK46 : Below w43.heap.size w43 w6 := HB45.out.trans (hK6.below hz43 fun k e => e.1)
  obtain ⟨bz, oz, cz, Az, dz, ez, hcz, hzc, hdz, hRz, _⟩ := hz.at (k := 0) (by simp)
  subst ez
  have hzc' : w6.cell? ⟨bz, oz, none⟩ = some (.slice Az mn dz) := by rw [← HMN.out]; exact hzc
  have hRz' : Rd w6 Az (bv m) := hRz.rd
  have HR16 := hide (HR14.out.below hK46)
  have HR26 := hide (HR24.out.below hK46)
  have HRY6 := hide (HRY4.out.below hK46)
  have hs1 := same_any Az A1 m m mn mn dz c1 w6 HMN.out.symm HMN.out.symm hRz' HR16.out
  rw [decide_eq_true rfl] at hs1
  have hxm : ((xn : Int) != (mn : Int) + 8) = false := by have := HSL.out; rw [bne_eq_false_iff_eq]; omega
  clear hcall hz hzc hRz hRz' hK6 hdz hcz
  go_wp2_with fail
  with_reducible refine hs1.mono ?_
  rintro e w7 hq7
  obtain ⟨rfl, hB7⟩ := hq7.below
  have hs2 := same_any Ay A1 m m mn mn cy c1 w7 HMN.out.symm HMN.out.symm (HRY6.out.below hB7) (HR16.out.below hB7)
  rw [decide_eq_true rfl] at hs2
  have HB7 := hide (since_call HB6.out hB7)
  have HR17 := hide (HR16.out.below hB7)
  have HR27 := hide (HR26.out.below hB7)
  clear hs1 hq7 hzc' hB7
  go_wp2_with fail
  with_reducible refine hs2.mono ?_
  rintro e w8 hq8
  obtain ⟨rfl, hB8⟩ := hq8.below
  have HB8 := hide (since_call HB7.out hB8)
  have HR18 := hide (HR17.out.below hB8)
  have HR28 := hide (HR27.out.below hB8)
  have hrs := rSeal_any key hk A1 m mn c1 w8 HMN.out.symm HR18.out (by omega)
  rw [← HX.out] at hrs
  clear hs2 hq8 hB8
  go_wp2_with fail
  with_reducible refine hrs.mono ?_
  rintro e w9 ⟨v9, rfl, ho9, hB9⟩
  obtain ⟨A9, c9, rfl, hc9, hR9⟩ := Bt.own ho9 (by rw [HXN.out]; exact hxl1.out)
  rw [HXN.out] at hc9 ⊢
  have hs3 := same_any A2 A9 x x xn xn c2 c9 w9 HXN.out.symm HXN.out.symm (HR28.out.below hB9) hR9
  rw [decide_eq_true rfl] at hs3
  have HB9 := hide (since_call HB8.out hB9)
  have HR19 := hide (HR18.out.below hB9)
  have HR29 := hide (HR28.out.below hB9)
  clear hrs ho9 hR9 hB9
  go_wp2_with fail
  with_reducible refine hs3.mono ?_
  rintro e w10 hq10
  obtain ⟨rfl, hB10⟩ := hq10.below
  have HB10 := hide (since_call HB9.out hB10)
  have HR110 := hide (HR19.out.below hB10)
  have HR210 := hide (HR29.out.below hB10)
  have hfx := few_b A2 x xn c2 xn w10 HXN.out.symm hc2 HR210.out (by omega)
  rw [show x.take xn = x from by rw [← HXN.out]; exact List.take_length] at hfx
  clear hs3 hq10 hB10
  go_wp2_with fail
  with_reducible refine hfx.mono ?_
  rintro e w11 ⟨v11, rfl, ho11, hB11⟩
  obtain ⟨g11, c11, e11, hg11, hgl11, hc11, hcl11⟩ := own_bytes ho11 (by rw [HXN.out]; omega)
  rw [HXN.out] at e11 hc11 hcl11
  subst e11
  rw [HXN.out] at ho11
  have HO11 := hide ho11
  have HB11 := hide hB11
  clear hfx ho11 hB11
  have hxn0 : 0 < xn := by omega
  go_wp2_with fail
  have har := around_any at_ hat xn hxn0 (by omega) w11
  with_reducible refine har.mono ?_
  rintro e w12 ⟨rfl, rfl⟩
  obtain ⟨k, hk1⟩ : ∃ k, k = mag at_ % xn := ⟨_, rfl⟩
  have hkl : k < xn := by rw [hk1]; exact Nat.mod_lt _ hxn0
  rw [← hk1]
  have hck := hcl11 k hkl
  have hfk := own_free (k := k) HO11.out
  clear har hk1 hcl11
  go_upto_region 13 with fail
  have ho12 : Hid ((w11.setCell ⟨g11, k, none⟩ (.int .u8 (by_.toNat : Int))).ownsRow w10.heap.size 5 1 (.slice (some ⟨g11, 0, none⟩) xn c11) xn (bv (x.set k by_))) := by
    have h0 := HO11.out
    have := own_set (k := k) h0 (.int .u8 (by_.toNat : Int))
    rw [bv_set] at this
    exact this
  have hB12 : Hid (Below w10.heap.size w10 (w11.setCell ⟨g11, k, none⟩ (.int .u8 (by_.toNat : Int)))) := HB11.out.setCell (p := ⟨g11, k, none⟩) hg11 _
  clear hck hfk
  generalize w11.setCell ⟨g11, k, none⟩ (.int .u8 (by_.toNat : Int)) = w12 at *
  have hxs : Hid ((x.set k by_).length = xn) := by show _ = _; rw [List.length_set]; exact HXN.out
  generalize x.set k by_ = bent at *
  have HRb : Hid (Rd w12 (some ⟨g11, 0, none⟩) (bv bent)) := by
    obtain ⟨A', c', e', _, hR'⟩ := Bt.own (l := bent) (base := w10.heap.size) (by rw [hxs.out]; exact ho12.out) (by rw [hxs.out]; exact hxl1.out)
    cases e'
    exact hR'
  have HR112 := hide (HR110.out.below hB12.out)
  have HR212 := hide (HR210.out.below hB12.out)
  have HB12 := hide (HB10.out.trans (hB12.out.mono HB10.out.size))
  have hcut := run_cut_to Try.underlying28 cel5 ino5 A2 xn c2 ((xn : Int) - 1) (by omega) (by omega)
  rw [cutAt_zero, show ((xn : Int) - 1).toNat = xn - 1 from by omega] at hcut
  have hw1 : IntKind.i64.wrap ((xn : Int) - 1) = (xn : Int) - 1 := by rw [IntKind.wrap_i64]; omega
  have f44 : Hid (∀ W, Since w12 W → Calls Try.prog 44 #[.slice A2 xn c2, .int .i64 (xn : Int)] W (RetB W x)) := fun W h => by
    have := few_b A2 x xn c2 xn W HXN.out.symm hc2 (HR212.out.below h) (by omega)
    rwa [show x.take xn = x from by rw [← HXN.out]; exact List.take_length] at this
  have hx1 := hide (show xn + 1 ≤ 140737488355328 from by omega)
  go_cut [21] (fun s21 wx => Tries w12 wx s21 [bent, x.take (xn - 1), m, x, [], x ++ [by_]])
  case first =>
    go_region_held3 (fun w' => Since w12 w')
      (first
        | exact Since.drew w12
        | (first | exact Since.alloc ‹Since w12 _› _ | exact Since.dr (Since.alloc (Since.undr ‹Since w12 _›) _) | exact Since.call ‹Since w12 _› hB44 | exact Since.grown ‹Since w12 _› hg46 hrow44 | fail))
      (first
        | (go_at_call 44; refine (f44.out _ (by assumption)).mono ?_; rintro e w44 ⟨v44, rfl, ho44, hB44⟩; have hrow44 : ∀ k, v44.ownBlock = some k → w12.heap.size ≤ k := fun k hk => Nat.le_trans (by first | (simp; done) | (simp; omega)) (ho44.lt k hk).1)
        | (refine step_app (by rfl) _ _ (by rfl) _ xn (bv x) (by rfl) (by rw [← HXN.out]; first | exact own_rebase ho44 (Nat.zero_le _) | exact own_rebase (ho44.alloc _) (Nat.zero_le _)) _ 1 1 [.int .u8 (by_.toNat : Int)] (by rfl) rfl (by first | exact rd_block2 _ #[.int .u8 (by_.toNat : Int)] 5 _ rfl (by simp) | exact (rd_block2 _ #[.int .u8 (by_.toNat : Int)] 5 _ rfl (by simp)).below hB44 | exact (rd_drew' (rd_block2 _ #[.int .u8 (by_.toNat : Int)] 5 _ rfl (by simp))).below hB44) (by intro u hu; simp only [List.mem_singleton] at hu; subst hu; rfl) hx1.out ?_; intro v46 w46 ho46 hg46 hat46; obtain ⟨A46, c46, rfl, hc46, hR46⟩ := ho46s ho46 HXN.out hxl1.out hx2; have hS46 : Since w12 w46 := Since.grown ‹Since w12 _› hg46 hrow44)
        | fail)
    all_goals
      go_wp2_with fail
      go_meet
      exact tries_mk hS46 HRb.out hxs.out hc11 HR212.out HXN.out hc2 HR112.out HMN.out hc1 hR46 hc46
  case rest =>
    obtain ⟨vs, hT, hS⟩ := hcut
    obtain ⟨ls, hls⟩ : ∃ ls, ls = [bent, x.take (xn - 1), m, x, [], x ++ [by_]] := ⟨_, rfl⟩
    have hls6 : ls.length = 6 := by rw [hls]; rfl
    have hlsm : Hid (∀ i, i < 6 → (ls.getD i []).length ≤ 1000) := by
      intro i hi
      rw [hls]
      have h1 := hxs.out
      have h2 := HXN.out
      have h3 := HMN.out
      obtain rfl | rfl | rfl | rfl | rfl | rfl : i = 0 ∨ i = 1 ∨ i = 2 ∨ i = 3 ∨ i = 4 ∨ i = 5 := by omega
      · show bent.length ≤ _; omega
      · show (x.take (xn - 1)).length ≤ _; rw [List.length_take]; omega
      · show m.length ≤ _; omega
      · show x.length ≤ _; omega
      · show ([] : Bs).length ≤ _; simp
      · show (x ++ [by_]).length ≤ _; rw [List.length_append]; simp; omega
    rw [← hls] at hT
    have HB13 := hide (since_call HB12.out hS)
    have hbk := (Below.refl wc.heap.size wc).alloc (Nat.le_refl _) (.cells #[.int .u64 (key : Int), .int .u64 (other : Int)] 51)
    have HT := hide (hT.stays (Stays.of_new hbk))
    have HB14 := hide (since_call HB13.out hbk)
    have HKC := hide (rd_block2 wc #[.int .u64 (key : Int), .int .u64 (other : Int)] 51 _ rfl (by simp))
    obtain ⟨AT, cT, eT, hcT, _, _⟩ := hT
    rw [hls6] at eT hcT
    subst eT
    have HL6 := hide hls6
    clear hls hls6 hS hbk
    go_wp2_with fail
    generalize wc.alloc (.cells #[.int .u64 (key : Int), .int .u64 (other : Int)] 51) = W0 at *
    generalize wc.heap.size = gk at *
    go_loopw [23] (fun i wr => ∃ i' : Nat, i' ≤ 6 ∧ i = .int .i64 (i' : Int) ∧ Hid (Below W0.heap.size W0 wr)) (fun i _ => 6 - (intOf i).toNat)
    case atStart => exact ⟨0, by omega, rfl, Below.refl _ _⟩
    case round =>
      obtain ⟨i', hi, rfl, hBo⟩ := hrel
      obtain ⟨wo, rfl⟩ : ∃ wo : World, wo = wr := ⟨_, rfl⟩
      by_cases hi6 : i' < 6
      · have hi0 : (0 : Int) ≤ (i' : Int) := by omega
        have hi6i : (i' : Int) < 6 := by omega
        go_wp2_with fail
        go_loopw [24] (fun k wr => ∃ k' : Nat, k' ≤ 2 ∧ k = .int .i64 (k' : Int) ∧ Hid (Below W0.heap.size W0 wr)) (fun k _ => 2 - (intOf k).toNat)
        case atStart => exact ⟨0, by omega, rfl, hBo⟩
        case round =>
          obtain ⟨k', hk', rfl, hBi⟩ := hrel
          by_cases hk2' : k' < 2
          · go_wp2_with fail
            obtain ⟨bT, oT, cT', Ai, ci, eT, _, hci, hcci, hRi, _⟩ := HT.out.at (k := i') (by rw [HL6.out]; exact hi6)
            rw [HL6.out] at eT
            cases eT
            have hlen := hlsm.out i' hi6
            generalize ls.getD i' [] = t at hci hcci hRi hlen
            obtain ⟨tn, htn⟩ : ∃ tn, tn = t.length := ⟨_, rfl⟩
            rw [← htn] at hci hcci hlen
            obtain ⟨kv, hkv, hkc⟩ : ∃ kv : Nat, kv < 18446744073709551616 ∧ W0.cell? ⟨gk, 0 + k', none⟩ = some (.int .u64 (kv : Int)) := by
              obtain ⟨b0, o0, e0, hc0⟩ := HKC.out.2 (by simp)
              cases e0
              obtain rfl | rfl : k' = 0 ∨ k' = 1 := by omega
              · exact ⟨key, hk, hc0 0 _ rfl⟩
              · exact ⟨other, hk2, hc0 1 _ rfl⟩
            rw [Nat.zero_add] at hkc
            have HRi := hide hRi.rd
            have hHS : ∀ w', Since W0 w' → w'.cell? ⟨gk, k', none⟩ = some (.int .u64 (kv : Int)) ∧ w'.cell? ⟨bT, oT + i', none⟩ = some (.slice Ai tn ci) := fun w' h =>
              ⟨(Below.cell (p := ⟨gk, k', none⟩) h (World.block_lt_of_cell? _ _ hkc)).trans hkc, (Below.cell (p := ⟨bT, oT + i', none⟩) h (World.block_lt_of_cell? _ _ hci)).trans hci⟩
            have HS := hide hHS
            have hSr : Since W0 wr := hBi.out
            have hcr := hHS wr hSr
            have f46 : Hid (∀ W, Since W0 W → Calls Try.prog 46 #[.int .u64 (kv : Int), .slice Ai tn ci] W (OpenPost W (openP kv t))) := fun W h => Open_any kv hkv Ai t tn ci W htn hcci (by omega) (HRi.out.below h)
            have f63 : Hid (∀ W, Since W0 W → Calls Try.prog 63 #[.int .u64 (kv : Int), .slice Ai tn ci] W (ROpenPost W Ai ci (openP kv t))) := fun W h => rOpen_any kv hkv Ai t tn ci W htn hcci (by omega) (HRi.out.below h)
            have HCR : Hid (∀ cr, openP kv t = .ok cr → cr.length ≤ 1000 ∧ cr = t.take cr.length) := by
              intro cr h
              obtain ⟨_, h1, _⟩ := open_ok h
              have h2 := congrArg List.length h1
              rw [List.length_take] at h2
              refine ⟨by omega, ?_⟩
              rw [h2, Nat.min_eq_left (by omega)]
              exact h1
            have HC1 : Hid (∀ cr, openP kv t = .ok cr → cr.length ≤ 1000 ∧ True) := fun c h => ⟨(HCR.out c h).1, trivial⟩
            have HSR := hide hSr
            clear hHS hkc hci hRi hSr htn
            have hk0 : (0 : Int) ≤ (k' : Int) := by omega
            have hk2i : (k' : Int) < 2 := by omega
            clear HF HX HXO HSL hpk HEI HEB HPK HPL hml1 hml2 hxl1 hei1 heb1 HMN HXN HR1 HB1 HB2 HR12 HR2 HB3 HR13 HR23 HRY HK hI h15 hsumL hel hel2 hel3 f24 f22 f43 HB4 HS43 HR14 HR24 HRY4 HPN hZ HB5 HB45 HB6 HR16 HR26 HRY6 HB7 HR17 HR27 HB8 HR18 HR28 HB9 HR19 HR29 HB10 HR110 HR210 HO11 HB11 HB12 hxs HRb HR112 HR212 f44 hx1 hlsm HKC
            go_region_held3 (fun w' => (w'.cell? ⟨gk, k', none⟩ = some (.int .u64 (kv : Int)) ∧ w'.cell? ⟨bT, oT + i', none⟩ = some (.slice Ai tn ci)) ∧ Since W0 w')
              (first
                | (with_reducible exact ⟨HS.out _ (Since.dr HSR.out), Since.dr HSR.out⟩)
                | (with_reducible exact ⟨HS.out _ (Since.call hs46 hBm), Since.call hs46 hBm⟩)
                | fail)
              (first
                | (go_at_call 46; go_split_ands; (with_reducible refine (f46.out _ (by assumption)).mono ?_); have hs46 := ‹Since W0 _›; rintro e wm h46; obtain ⟨xv46, xu46, rfl, hop46, hBm⟩ := opened_mk HC1.out h46)
                | fail)
            go_split_ands
            have hSc := Since.call hs46 hBm
            have hO := hop46
            clear hs46 hBm hop46
            have HSC := hide hSc
            have HO := hide hO
            have HS2 : Hid (∀ w', Since wm w' → w'.cell? ⟨gk, k', none⟩ = some (.int .u64 (kv : Int)) ∧ w'.cell? ⟨bT, oT + i', none⟩ = some (.slice Ai tn ci)) := fun w' h => HS.out w' (since_call HSC.out h)
            clear hSc hO
            have hcr2 := HS2.out wm (Since.refl wm)
            go_wp2_with fail
            go_region_held3 (fun w' => (w'.cell? ⟨gk, k', none⟩ = some (.int .u64 (kv : Int)) ∧ w'.cell? ⟨bT, oT + i', none⟩ = some (.slice Ai tn ci)) ∧ Since wm w')
              (first
                | (with_reducible exact ⟨HS2.out _ (Since.drew wm), Since.drew wm⟩)
                | (with_reducible exact ⟨HS2.out _ (Since.call hs63 hB63), Since.call hs63 hB63⟩)
                | fail)
              (first
                | (go_at_call 63; go_split_ands; have hs63 : Since wm wm.drew := Since.drew wm; have hs630 : Since W0 wm.drew := since_call HSC.out hs63; (with_reducible refine (f63.out _ hs630).mono ?_); rintro e w63 h63; obtain ⟨xv63, xu63, rfl, hop63, hB63⟩ := ropened_mk HCR.out (HRi.out.below (since_call HSC.out hs63)) h63)
                | fail)
            have hz : Since wm w63 := Since.call hs63 hB63
            obtain ⟨ek, e1, e2, hsame⟩ := opened_same (HO.out.since hz) hop63
            subst e1
            subst e2
            have hs19 := hsame w63 (Below.refl _ _)
            have HZ := hide (since_call HSC.out hz)
            have hne : ((ek : Int) != (ek : Int)) = false := by simp
            clear hsame hop63 hB63 hs63 hz
            go_wp2_with fail
            with_reducible refine hs19.mono ?_
            rintro e wq hq
            obtain ⟨rfl, hBq⟩ := hq.below
            have HQ := hide (since_call HZ.out hBq)
            clear hs19 hq
            go_wp2_with fail
            go_roundw
            case rel => exact ⟨k' + 1, by omega, by go_num, HQ.out⟩
            case measure => simp [intOf]; omega
          · obtain rfl : k' = 2 := by omega
            go_wp2_with fail
            go_roundw
            case rel => exact ⟨i' + 1, by omega, by go_num, hBi⟩
            case measure => simp [intOf]; omega
      · obtain rfl : i' = 6 := by omega
        go_wp2_with fail
        have HBo := hide (since_call HB14.out hBo.out)
        with_reducible refine (lives_any _).mono ?_
        rintro e wl ⟨rfl, hBl⟩
        have HE := hide (since_call HBo.out hBl)
        go_wp2_with fail
        go_ret
        exact ⟨rfl, HE.out⟩
end Go.Proofs.Ytopppkafbbfobaa.W
