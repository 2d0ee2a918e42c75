/- LinkDetects. -/
import Derived.Test.YtopppkafbbfobaaC53
import Derived.Test.YtopppkafbbfobaaA6
import Derived.Test.YtopppkafbbfobaaA7
import Derived.Deep.RegionHeld3
namespace Go.Proofs.Ytopppkafbbfobaa.W
open Go.RowKit
attribute [local go_sem ↓] Go.wp_at_zero Go.wp_at_succ
/-- A byte of a row of the call's own, replaced. -/
theorem own_set {w : World} {base g n c k : Nat} {xs : List Value} (h : w.ownsRow base 5 1 (.slice (some ⟨g, 0, none⟩) n c) n xs) (u : Value) : (w.setCell ⟨g, k, none⟩ u).ownsRow base 5 1 (.slice (some ⟨g, 0, none⟩) n c) n (xs.set k u) := by
  refine ⟨by rw [List.length_set]; exact h.1, ?_⟩
  rcases h.2 with ⟨h0, _⟩ | ⟨g', cap, cur, hv, hb, hg, hc, hm, hs, ht⟩
  · cases h0
  · cases hv
    refine .inr ⟨g, c, cur.setIfInBounds k u, rfl, hb, heap_setCell_at hg u, hc, hm, by simpa using hs, ?_⟩
    rw [← ht]
    simp only [Array.toList_setIfInBounds, Nat.mul_one]
    rw [List.take_set]
theorem bv_set (l : Bs) (k : Nat) (c : UInt8) : (bv l).set k (.int .u8 (c.toNat : Int)) = bv (l.set k c) := by
  simp [bv, List.map_set]
theorem own_free {w : World} {base g n c k : Nat} {xs : List Value} {e : TypeId} {sz : Nat} (h : w.ownsRow base e sz (.slice (some ⟨g, 0, none⟩) n c) n xs) : w.frozen? ⟨g, k, none⟩ = false := by
  rcases h.2 with ⟨h0, _⟩ | ⟨g', cap, cur, hv, hb, hg, _⟩
  · cases h0
  · cases hv
    exact frozen_of_row w g k cur e hg
/-- Bytes of a call's own, one at least: where they lie. -/
theorem own_bytes {w : World} {base : Nat} {v : Value} {l : Bs} (h : w.ownsRow base 5 1 v l.length (bv l)) (h0 : 0 < l.length) : ∃ g c, v = .slice (some ⟨g, 0, none⟩) l.length c ∧ base ≤ g ∧ g < w.heap.size ∧ l.length ≤ c ∧ ∀ k, k < l.length → w.cell? ⟨g, k, none⟩ = some (.int .u8 ((l.getD k 0).toNat : Int)) := by
  obtain ⟨g, c, rfl, hb, hg⟩ := h.form h0
  refine ⟨g, c, rfl, hb, hg, ?_, fun k hk => ?_⟩
  · rcases h.2 with ⟨e0, _⟩ | ⟨g', cap, cur, hv, _, _, hc, _⟩
    · cases e0
    · cases hv; exact hc
  · have := h.cells (g := g) rfl k _ (bv_getElem? l k hk)
    rwa [show (⟨g, 0, none⟩ : Addr).add k = ⟨g, k, none⟩ from by unfold Addr.add; split <;> simp_all] at this
theorem Bt.ownD {w : World} {base : Nat} {v : Value} {l : Bs} (h : w.ownsRow base 5 1 v l.length (bv l)) (hl : l.length ≤ 9223372036854775807) : ∃ A c, v = .slice A l.length c ∧ l.length ≤ c ∧ RdIn (fun k => base ≤ k) w A (bv l) := by
  obtain ⟨A, c, e, hc, hR⟩ := Bt.of_own h hl
  exact ⟨A, c, e, hc, hR.mono fun k _ e => (h.lt k e).1⟩
def bend (by_ : UInt8) : UInt8 := UInt8.ofNat (1 + by_.toNat % 255)
theorem bend_ne (by_ : UInt8) : bend by_ ≠ 0 := fun h => by
  have h1 := congrArg UInt8.toNat h
  unfold bend at h1
  rw [ofNat_toNat] at h1
  simp at h1
  omega
theorem bend_xor (x by_ : UInt8) : bits .xor .u8 (x.toNat : Int) (1 + (by_.toNat : Int) % 255) = ((x ^^^ bend by_).toNat : Int) := by
  have h1 : (1 + (by_.toNat : Int) % 255) = ((bend by_).toNat : Int) := by
    unfold bend
    rw [ofNat_toNat]
    omega
  rw [h1, u8_xor_nat _ _ (u8_lt _) (u8_lt _), UInt8.toNat_xor]
set_option maxRecDepth 100000 in
set_option maxHeartbeats 3200000 in
theorem detects_any (key : Nat) (hk : key < 18446744073709551616) (A : Option Addr) (l : Bs) (n c : Nat) (at_ : Int) (hat : I64 at_) (by_ : UInt8) (w : World) (hn : n = l.length) (hc : n ≤ c) (hR : Rd w A (bv l)) :
    Calls Try.prog 6 #[.int .u64 (key : Int), .slice A n c, .int .i64 at_, .int .u8 (by_.toNat : Int)] w fun e w' => e = .returned (.bool true) ∧ Below w.heap.size w w' := by
  have HN := hide hn
  have HR := hide hR
  have hby := u8_lt by_
  obtain ⟨m, hm⟩ : ∃ m, m = l.take 200 := ⟨_, rfl⟩
  have hl2 : m.length ≤ 200 := by rw [hm, List.length_take]; omega
  have hfew := few_b A l n c 200 w hn hc hR (by decide)
  rw [← hm] at hfew
  have HF := hide hfew
  obtain ⟨x, hx⟩ : ∃ x, x = sealed key m := ⟨_, rfl⟩
  have hsl : x.length = m.length + 8 := by rw [hx, sealed_length]
  have HX := hide hx
  have hx8 : 8 ≤ x.length := by omega
  have hx2 : x.length ≤ 208 := by omega
  have HSL := hide hsl
  clear hn hR hm hfew hx hsl
  go_enter Try.func6, Try.ntmps6
  go_wp2_with fail
  refine HF.out.mono ?_
  rintro e w1 ⟨v1, rfl, ho1, hB1⟩
  obtain ⟨A1, c1, rfl, hc1, hR1⟩ := Bt.own ho1 (by omega)
  go_wp2_with fail
  have hseal := Seal_any key hk A1 m m.length c1 w1 rfl hc1 hR1 (by omega)
  rw [← HX.out] at hseal
  with_reducible refine hseal.mono ?_
  rintro e w2 ⟨v2, rfl, ho2, hB2⟩
  obtain ⟨g2, c2, rfl, hg2, hgl2, hc2, hcl2⟩ := own_bytes ho2 (by omega)
  have hB02 := since_call hB1 hB2
  have hB1' := hide hB1
  clear hseal hR1 ho1 hB1 hB2
  generalize hxl : x.length = xl at *
  have HXL := hide hxl
  clear hxl
  have h8 : decide (xl < 8) = false := by rw [decide_eq_false_iff_not]; omega
  go_wp2_with fail
  have har := around_any at_ hat xl (by omega) (by omega) w2
  with_reducible refine har.mono ?_
  rintro e w3 ⟨rfl, rfl⟩
  obtain ⟨k, hk1⟩ : ∃ k, k = mag at_ % xl := ⟨_, rfl⟩
  have hkl : k < xl := by rw [hk1]; exact Nat.mod_lt _ (by omega)
  rw [← hk1]
  have hck := hcl2 k hkl
  have hfk := own_free (k := k) ho2
  have hxo := bend_xor (x.getD k 0) by_
  have HCL := hide hcl2
  clear har hk1 hcl2
  generalize hxk : x.getD k 0 = xk at hck hxo
  have HXK := hide hxk
  clear hxk
  generalize hyk : xk ^^^ bend by_ = y at hxo
  have HY := hide hyk
  clear hyk
  go_wp2_with fail
  have ho3 : Hid ((w2.setCell ⟨g2, k, none⟩ (.int .u8 (y.toNat : Int))).ownsRow w1.heap.size 5 1 (.slice (some ⟨g2, 0, none⟩) xl c2) xl (bv (x.set k y))) := by
    have := own_set (k := k) ho2 (.int .u8 (y.toNat : Int))
    rw [bv_set] at this
    exact this
  have hB03 : Hid (Below w.heap.size w (w2.setCell ⟨g2, k, none⟩ (.int .u8 (y.toNat : Int)))) := hB02.setCell (p := ⟨g2, k, none⟩) (by have := hB02.size; have := hg2; have : w.heap.size ≤ w1.heap.size := (Below.size hB1'.out); show w.heap.size ≤ g2; omega) _
  have hop : Hid (openP key (x.set k y) = .error 9) := by
    have := open_bent_any hk m (k := k) (by rw [← HX.out, HXL.out]; exact hkl) (bend by_) (bend_ne by_)
    rwa [← HX.out, HXK.out, HY.out] at this
  generalize w2.setCell ⟨g2, k, none⟩ (.int .u8 (y.toNat : Int)) = w3 at *
  have hxs : Hid ((x.set k y).length = xl) := by show _ = _; rw [List.length_set]; exact HXL.out
  generalize x.set k y = x' at *
  obtain ⟨A3, c3, e3, hc3, hR3⟩ := Bt.own (l := x') (base := w1.heap.size) (by rw [hxs.out]; exact ho3.out) (by rw [hxs.out]; omega)
  rw [hxs.out] at e3 hc3
  cases e3
  have hopen := Open_any key hk (some ⟨g2, 0, none⟩) x' xl c2 w3 hxs.out.symm hc3 (by omega) hR3
  rw [hop.out] at hopen
  with_reducible refine hopen.mono ?_
  rintro e w4 ⟨hB4, he4⟩
  obtain rfl := he4
  have hB04 := since_call hB03.out hB4
  clear hopen hck hfk hxo hR3 hB02 hB03 hB4
  go_wp2_with fail
  refine (new_ok 3 key w4 (by decide) (by decide)).mono ?_
  rintro e w5 ⟨ga, rfl, hA, hB5⟩
  have hB05 := since_call hB04 hB5
  have hZ : Hid (IsEnd (fun k => w4.heap.size ≤ k ∧ k < w5.heap.size) w5 ga (St.new 3 key)) := hA.mono fun k hk e => ⟨e, hk⟩
  have hz4 := hB04.size
  have hz5 := hB5.size
  obtain ⟨q, hq⟩ : ∃ q, q = l.take 20 := ⟨_, rfl⟩
  have hql : q.length ≤ 20 := by rw [hq, List.length_take]; omega
  have hq63 : q.length ≤ 9223372036854775807 := by omega
  have hfew2 : ∀ W, Below w.heap.size w W → Calls Try.prog 44 #[.slice A n c, .int .i64 20] W (RetB W q) := fun W h => by
    rw [hq]
    exact few_b A l n c 20 W HN.out hc (HR.out.below h) (by decide)
  have HF2 := hide hfew2
  clear hA hB04 hB5 hq hfew2
  go_wp2_with fail
  with_reducible refine (HF2.out w5 hB05).mono ?_
  rintro e w6 ⟨v6, rfl, ho6, hB6⟩
  obtain ⟨A6, c6, rfl, hc6, hR6⟩ := Bt.own ho6 (by omega)
  obtain ⟨ep, hep⟩ : ∃ ep, ep = encPkt 1 0 q := ⟨_, rfl⟩
  have hepl : ep.length ≤ 60 := by
    have h1 := encInts2_length 1 0
    have h2 := encBytes_length q
    rw [hep]
    simp only [encPkt, List.length_append]
    omega
  have hrb := rBytes_any 1 0 ⟨by decide, by decide⟩ ⟨by decide, by decide⟩ A6 q q.length c6 w6 rfl hR6 (by omega)
  rw [← hep] at hrb
  have HEP := hide hep
  clear hep
  go_wp2_with fail
  with_reducible refine hrb.mono ?_
  rintro e w7 ⟨v7, rfl, ho7, hB7⟩
  obtain ⟨A7, c7, rfl, hc7, hR7⟩ := Bt.own ho7 (by omega)
  have hrs := rSeal_any key hk A7 ep ep.length c7 w7 rfl hR7 (by omega)
  obtain ⟨pk, hpk⟩ : ∃ pk, pk = sealed key ep := ⟨_, rfl⟩
  have hpl : pk.length = ep.length + 8 := by rw [hpk, sealed_length]
  have hp8 : 8 ≤ pk.length := by omega
  have hp68 : pk.length ≤ 68 := by omega
  rw [← hpk] at hrs
  have HPK := hide hpk
  have HPL := hide hpl
  clear hpk hpl hrb
  go_wp2_with fail
  with_reducible refine hrs.mono ?_
  rintro e w8 ⟨v8, rfl, ho8, hB8⟩
  obtain ⟨A8, c8, rfl, hc8, hR8d⟩ := Bt.ownD ho8 (by omega)
  have hR8 := hR8d.rd
  have HR8D := hide (hR8d.mono (D' := fun k => w5.heap.size ≤ k) fun k _ e => Nat.le_trans (Nat.le_trans hB6.size hB7.size) e)
  clear hR8d
  have hB58 : Hid (Below w5.heap.size w5 w8) := since_call (since_call hB6 hB7) hB8
  clear hrs hR6 hR7 ho6 ho7 ho8 hB6 hB7 hB8
  have hfp := few_b A8 pk pk.length c8 pk.length w8 rfl hc8 hR8 (by omega)
  rw [List.take_length] at hfp
  generalize hpkl : pk.length = pl at *
  have HPKL := hide hpkl
  clear hpkl
  go_wp2_with fail
  with_reducible refine hfp.mono ?_
  rintro e w9 ⟨v9, rfl, ho9, hB9⟩
  rw [HPKL.out] at ho9
  obtain ⟨g9, c9, e9, hg9, hgl9, hc9, hcl9⟩ := own_bytes (l := pk) (by rw [HPKL.out]; exact ho9) (by rw [HPKL.out]; omega)
  rw [HPKL.out] at e9 hc9 hcl9
  subst e9
  have hB59 : Hid (Below w5.heap.size w5 w9) := since_call hB58.out hB9
  have HB9 := hide hB9
  have HR8 := hide hR8
  clear hfp
  go_wp2_with fail
  have har2 := around_any at_ hat pl (by omega) (by omega) w9
  with_reducible refine har2.mono ?_
  rintro e w10 ⟨rfl, rfl⟩
  obtain ⟨j, hj1⟩ : ∃ j, j = mag at_ % pl := ⟨_, rfl⟩
  have hjl : j < pl := by rw [hj1]; exact Nat.mod_lt _ (by omega)
  rw [← hj1]
  have hcj := hcl9 j hjl
  have hfj := own_free (k := j) ho9
  have hxo2 := bend_xor (pk.getD j 0) by_
  clear har2 hj1 hcl9
  generalize hxk2 : pk.getD j 0 = xk2 at hcj hxo2
  have HXK2 := hide hxk2
  clear hxk2
  generalize hyk2 : xk2 ^^^ bend by_ = y2 at hxo2
  have HY2 := hide hyk2
  clear hyk2
  go_wp2_with fail
  have ho10 : Hid ((w9.setCell ⟨g9, j, none⟩ (.int .u8 (y2.toNat : Int))).ownsRow w8.heap.size 5 1 (.slice (some ⟨g9, 0, none⟩) pl c9) pl (bv (pk.set j y2))) := by
    have := own_set (k := j) ho9 (.int .u8 (y2.toNat : Int))
    rw [bv_set] at this
    exact this
  have hB8A : Hid (Below w8.heap.size w8 (w9.setCell ⟨g9, j, none⟩ (.int .u8 (y2.toNat : Int)))) := HB9.out.setCell (p := ⟨g9, j, none⟩) hg9 _
  have hop2 : Hid (openP key (pk.set j y2) = .error 9) := by
    have := open_bent_any hk ep (k := j) (by rw [← HPK.out, HPKL.out]; exact hjl) (bend by_) (bend_ne by_)
    rwa [← HPK.out, HXK2.out, HY2.out] at this
  generalize w9.setCell ⟨g9, j, none⟩ (.int .u8 (y2.toNat : Int)) = wA at *
  have hxs2 : Hid ((pk.set j y2).length = pl) := by show _ = _; rw [List.length_set]; exact HPKL.out
  generalize pk.set j y2 = bad at *
  have hRb := Bt.own (l := bad) (base := w8.heap.size) (by rw [hxs2.out]; exact ho10.out) (by rw [hxs2.out]; omega)
  obtain ⟨AA, cA, eA, hcA, hRA⟩ := hRb
  rw [hxs2.out] at eA hcA
  cases eA
  have hB5A : Hid (Below w5.heap.size w5 wA) := since_call hB58.out hB8A.out
  have hRpA : Hid (Rd wA A8 (bv pk)) := HR8.out.below hB8A.out
  have hinn : (St.new 3 key).inn bad = ([], 9, (St.new 3 key).forge) := by
    unfold St.inn
    rw [show (St.new 3 key).key = key from rfl, hop2.out]
    rfl
  have okS : (St.new 3 key).Ok := ok_new hk (by decide) (by decide)
  have okS0 : (St.new 3 key).forge.Ok := ok_forge okS (Nat.le_of_ble_eq_true rfl)
  have okS1 : (St.new 3 key).forge.quiet.Ok := ok_quiet okS0
  have hcall := in_fine (fun k => w4.heap.size ≤ k ∧ k < w5.heap.size) ga (St.new 3 key) (some ⟨g9, 0, none⟩) bad pl c9 wA okS (hZ.out.stays (Stays.of_below hB5A.out fun k _ e => e.2)) hxs2.out.symm hcA (by omega) hRA hinn (by decide)
  with_reducible refine hcall.mono ?_
  rintro e w11 ⟨vy, vys, rfl, hy, hE11, hK11⟩
  obtain ⟨Ay, cy, ey, _, _, _⟩ := hy
  subst ey
  clear hcall hRA hcj hfj hxo2 ho9 hB9 hR8
  go_wp2_with fail
  have hout := out_any _ ga _ okS0 w11 hE11
  with_reducible refine hout.mono ?_
  rintro e w12 ⟨vo, vos, rfl, hr12, hE12, hK12⟩
  have eo : (St.new 3 key).forge.out = [] := rfl
  rw [eo] at hr12
  obtain ⟨Ao, co, eo2, _, _, _⟩ := hr12.lst (by decide)
  subst eo2
  go_wp2_with fail
  obtain ⟨hga1, hga2⟩ := hZ.out.dg
  have hR12 : Hid (RdIn (fun k => w5.heap.size ≤ k) w12 A8 (bv pk)) := ((HR8D.out.stays (Stays.of_new hB8A.out)).stays (hK11.stays fun k _ e e' => by have := e'.2; omega)).stays (hK12.stays fun k _ e e' => by omega)
  have hinn2 : (St.new 3 key).forge.quiet.inn pk = ([q], 0, ((St.new 3 key).forge.quiet.take 1 0 q).2) := by
    have e : pk = pkt (St.new 3 key).forge.quiet.key 1 0 q := by rw [HPK.out, HEP.out]; rfl
    rw [e]
    exact inn_pkt (by decide) (by decide) (by omega) (.inl (by decide))
  have hcall2 := in_fine (Plus (fun k => w4.heap.size ≤ k ∧ k < w5.heap.size) wA) ga (St.new 3 key).forge.quiet A8 pk pl c8 w12 okS1 hE12 HPKL.out.symm hc8 (by omega) hR12.out.rd hinn2 (by simp)
  with_reducible refine hcall2.mono ?_
  rintro e w13 ⟨vz, vzs, rfl, hz, hE13, hK13⟩
  have hB5e : Hid (Below w.heap.size w w13) := by
    have h1 : Below w.heap.size w wA := hB05.trans (hB5A.out.mono (by omega))
    have hA := hB5A.out.size
    have h2 : Below w.heap.size wA w11 := hK11.below (by omega) fun k e => by omega
    have h3 : Below w.heap.size w11 w12 := hK12.below (by have := hK11.size; omega) fun k e => by omega
    have h4 : Below w.heap.size w12 w13 := hK13.below (by have := hK11.size; have := hK12.size; omega) fun k e => by
      rcases e with e | e
      · omega
      · omega
    exact ((h1.trans h2).trans h3).trans h4
  obtain ⟨bz, oz, cz, Az, dz, ez, hcz, hzc, hdz, hRz, _⟩ := hz.at (k := 0) (by simp)
  subst ez
  have hzc' : w13.cell? ⟨bz, oz, none⟩ = some (.slice Az q.length dz) := hzc
  have hRz' : Rd w13 Az (bv q) := hRz.rd
  have hfo : ((St.new 3 key).forge.quiet.take 1 0 q).2.forged = 1 := rfl
  have HFO := hide hfo
  have HE13 := hide hE13
  have HRZ := hide hRz'
  have hbz := World.block_lt_of_cell? _ _ hzc'
  simp only at hbz
  have HZC := hide hzc'
  clear hcall2 hinn2 hK13 hK12 hK11 hE12 hE11 hE13 hz hzc hRz hRz' hcz hdz hR12 hfo
  have f52 : Hid (Calls Try.prog 52 #[.pointer (some ⟨ga, 0, none⟩)] w13.drew fun e w' => e = .returned (.int .i64 1) ∧ w13.drew = w') := (forged_any _ ga _ w13.drew (HE13.out.stays fun _ _ _ => rfl)).mono fun e w' h => ⟨by rw [h.1, HFO.out]; rfl, h.2⟩
  have f44 := hide (HF2.out w13.drew (since_dr hB5e.out))
  go_wp2_with fail
  go_region_held3 (fun w' => w'.cell? ⟨bz, oz, none⟩ = some (.slice Az q.length dz))
    (first
      | exact (hB53.cell (p := ⟨bz, oz, none⟩) (Nat.lt_of_lt_of_le (Nat.lt_of_lt_of_le hbz hB44.size) hB19.size)).trans ((hB19.cell (p := ⟨bz, oz, none⟩) (Nat.lt_of_lt_of_le hbz hB44.size)).trans ((hB44.cell (p := ⟨bz, oz, none⟩) hbz).trans HZC.out))
      | exact (hB19.cell (p := ⟨bz, oz, none⟩) (Nat.lt_of_lt_of_le hbz hB44.size)).trans ((hB44.cell (p := ⟨bz, oz, none⟩) hbz).trans HZC.out)
      | exact (hB44.cell (p := ⟨bz, oz, none⟩) hbz).trans HZC.out
      | exact HZC.out
      | fail)
    (first
      | (go_at_call 52; refine f52.out.mono ?_; rintro e w14 ⟨rfl, rfl⟩)
      | (go_at_call 44; refine f44.out.mono ?_; rintro e w44 ⟨v44, rfl, ho44, hB44⟩; obtain ⟨A44, c44, rfl, hc44, hR44⟩ := Bt.own ho44 hq63)
      | (go_at_call 19; refine (same_any Az A44 q q q.length q.length dz c44 w44 rfl rfl (HRZ.out.below (below_undrew' hB44)) hR44).mono ?_; rintro e w19 hq19; obtain ⟨he19, hB19⟩ := hq19.below; rw [decide_eq_true rfl] at he19; obtain rfl := he19)
      | (go_at_call 53; refine (lives_any w19).mono ?_; rintro e w53 ⟨rfl, hB53⟩))
  go_wp2
  go_ret
  exact ⟨rfl, since_call (since_call (since_call (since_dr hB5e.out) hB44) hB19) hB53⟩
end Go.Proofs.Ytopppkafbbfobaa.W
