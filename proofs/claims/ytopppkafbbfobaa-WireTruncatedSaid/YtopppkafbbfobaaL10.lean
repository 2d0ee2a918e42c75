/- What is encoded is decoded, whatever follows it: texts and lists: the walk. -/
import Derived.Test.YtopppkafbbfobaaC17
import Derived.Test.YtopppkafbbfobaaL4
import Derived.Test.YtopppkafbbfobaaA2
namespace Go.Proofs.Ytopppkafbbfobaa.W
open Go.RowKit

set_option maxRecDepth 100000 in
set_option maxHeartbeats 1000000 in
theorem list_long (x : List UInt8) (A1 A2 A3 A4 : Option Addr) (n1 c1 n2 c2 n3 c3 n4 c4 : Nat) (w : World) (hb : x.length + n1 + n3 + n4 ≤ 9223372036854775807) (h : 2000 < x.length + n1 + n3 + n4) :
    Calls Try.prog 10 #[str x, .slice A1 n1 c1, .slice A2 n2 c2, .slice A3 n3 c3, .slice A4 n4 c4] w (Yes w) := by
  unfold str
  go_enter Try.func10, Try.ntmps10
  go_wp2_with fail
  refine (sanity_any w).mono ?_
  rintro e w' ⟨rfl, hb⟩
  go_wp2
  go_ret
  exact ⟨rfl, hb⟩

set_option maxRecDepth 100000 in
set_option maxHeartbeats 1000000 in
theorem list_many (x : List UInt8) (A1 A2 A3 A4 : Option Addr) (n1 c1 n2 c2 n3 c3 n4 c4 : Nat) (t : List (List UInt8)) (w : World) (h : x.length + n1 + n3 + n4 ≤ 2000) (hn : n2 = t.length) (hR : Rd w A2 (tv t)) (ht : tot t ≤ 9223372036854775807) (hm : 2000 < tot t) :
    Calls Try.prog 10 #[str x, .slice A1 n1 c1, .slice A2 n2 c2, .slice A3 n3 c3, .slice A4 n4 c4] w (Yes w) := by
  have HN := hide hn
  have HF := hide (decide_eq_false (Nat.not_le.2 hm))
  clear hn hm
  unfold str
  go_enter Try.func10, Try.ntmps10
  go_wp2_with fail
  refine (few_any A2 t n2 c2 w HN.out hR ht).mono ?_
  rw [HF.out]
  rintro e w' ⟨rfl, rfl⟩
  go_wp2_with fail
  refine (sanity_any w).mono ?_
  rintro e w' ⟨rfl, hb⟩
  go_wp2
  go_ret
  exact ⟨rfl, hb⟩

theorem flatB_le (t : List (List UInt8)) : (t.flatMap encBytes).length ≤ 9 * t.length + (t.map (·.length)).sum := by
  induction t with
  | nil => simp
  | cons a l ih =>
    have := encInt_le9 (a.length : Int)
    simp only [List.flatMap_cons, List.length_append, List.length_cons, List.map_cons, List.sum_cons, encBytes]
    omega
theorem mem_len_le {t : List (List UInt8)} {x : List UInt8} (h : x ∈ t) : x.length ≤ (t.map (·.length)).sum := by
  induction t with
  | nil => cases h
  | cons a l ih =>
    rw [List.map_cons, List.sum_cons]
    rcases List.mem_cons.1 h with rfl | h
    · omega
    · have := ih h; omega

set_option maxRecDepth 100000 in
set_option maxHeartbeats 8000000 in
theorem list_short (x : List UInt8) (A1 A2 A3 A4 : Option Addr) (n1 c1 n2 c2 n3 c3 n4 c4 : Nat) (xs : List Int) (t ds : List (List UInt8)) (r : List UInt8) (w : World) (h : x.length + n1 + n3 + n4 ≤ 2000)
    (e1 : n1 = xs.length) (R1 : Rd w A1 (iv xs)) (I1 : ∀ y ∈ xs, I64 y) (e2 : n2 = t.length) (R2 : Rd w A2 (tv t)) (hm : tot t ≤ 2000) (e3 : n3 = ds.length) (R3 : Rd w A3 (dv ds)) (G3 : D16 ds) (e4 : n4 = r.length) (R4 : Rd w A4 (bv r)) :
    Calls Try.prog 10 #[str x, .slice A1 n1 c1, .slice A2 n2 c2, .slice A3 n3 c3, .slice A4 n4 c4] w (Yes w) := by
  have HF := hide (decide_eq_true hm)
  have hE1 : (encBytes x).length ≤ 2009 ∧ 1 ≤ (encBytes x).length := by have := encBytes_pos x; have := encInt_le9 (x.length : Int); rw [encBytes, List.length_append] at *; omega
  have hE2 : (encInts xs).length ≤ 18009 ∧ 1 ≤ (encInts xs).length := by have := enc_pos (xs.length : Int); have := encInt_le9 (xs.length : Int); have := flat_le xs; rw [encInts, List.length_append]; omega
  have hE3 : (encDigs ds).length ≤ 33009 ∧ 1 ≤ (encDigs ds).length := by have := enc_pos (ds.length : Int); have := encInt_le9 (ds.length : Int); have := flatten16 ds G3; rw [encDigs, List.length_append]; omega
  have hE4 : (encStrs t).length ≤ 20009 ∧ 1 ≤ (encStrs t).length := by have := enc_pos (t.length : Int); have := encInt_le9 (t.length : Int); have := flatB_le t; unfold tot at hm; rw [encStrs, List.length_append]; omega
  have D1 := hide (decBytes_enc x r (by omega))
  have D2 := hide (decInts_enc xs r (by omega) I1)
  have D3 := hide (decDigs_enc ds r (by omega) G3)
  have D4 := hide (decStrs_enc t r (by unfold tot at hm; omega) (fun y hy => by have := mem_len_le hy; unfold tot at hm; omega))
  have H1 := hide e1
  have H2 := hide e2
  have H3 := hide e3
  have H4 := hide e4
  have hq2 : n2 ≤ 2000 := by unfold tot at hm; omega
  clear e1 e2 e3 e4
  have K1 := hide R1
  have K2 := hide R2
  have K3 := hide R3
  have K4 := hide R4
  clear R1 R2 R3 R4
  have hxx : (x == x) = true := by simp
  have LX := bv_length (encBytes x)
  have LXS := bv_length (encInts xs)
  have LD := bv_length (encDigs ds)
  have LT := bv_length (encStrs t)
  have LX := hide LX
  have LXS := hide LXS
  have LD := hide LD
  have LT := hide LT
  unfold str
  go_enter Try.func10, Try.ntmps10
  go_wp2_with fail
  refine (few_any A2 t n2 c2 w H2.out K2.out (by omega)).mono ?_
  rw [HF.out]
  rintro e w' ⟨rfl, rfl⟩
  go_wp2_with fail
  refine (bytes_any x (by omega) w).mono ?_
  rintro e w1 ⟨v1, rfl, ho1, hB1⟩
  obtain ⟨B1, d1, rfl, S1, hd1⟩ := own_open ho1 (by rw [bv_length]; omega)
  have hs1 := hB1.size
  go_wp2_with fail
  refine (ints_any A1 xs n1 c1 w1 H1.out (K1.out.below hB1) I1 (by omega)).mono ?_
  rintro e w2 ⟨v2, rfl, ho2, hB2⟩
  obtain ⟨B2, d2, rfl, S2, hd2⟩ := own_open ho2 (by rw [bv_length]; omega)
  have S1 := S1.below hB2
  have hB2 := below_trans hB1 hB2 hs1
  have hs2 := hB2.size
  clear ho1 ho2 hB1 hs1
  go_wp2_with fail
  refine (digs_any A3 ds n3 c3 w2 H3.out (K3.out.below hB2) G3 (by omega)).mono ?_
  rintro e w3 ⟨v3, rfl, ho3, hB3⟩
  obtain ⟨B3, d3, rfl, S3, hd3⟩ := own_open ho3 (by rw [bv_length]; omega)
  have S1 := S1.below hB3
  have S2 := S2.below hB3
  have hB3 := below_trans hB2 hB3 hs2
  have hs3 := hB3.size
  clear ho3 hB2 hs2
  go_wp2_with fail
  refine (strs_any A2 t n2 c2 w3 H2.out (K2.out.below hB3) (by omega)).mono ?_
  rintro e w4 ⟨v4, rfl, ho4, hB4⟩
  obtain ⟨B4, d4, rfl, S4, hd4⟩ := own_open ho4 (by rw [bv_length]; omega)
  have S1 := hide (S1.below hB4)
  have S2 := hide (S2.below hB4)
  have S3 := hide (S3.below hB4)
  have S4 := hide S4
  have hB4 := below_trans hB3 hB4 hs3
  have hs4 := hB4.size
  clear ho4 hB3 hs3
  generalize encBytes x = X at *
  generalize encInts xs = XS at *
  generalize encDigs ds = DS at *
  generalize encStrs t = TS at *
  have cut1 := run_cut3 Try.underlying28 cel5 ino5 B1 X.length d1 (X.length : Int) (X.length : Int) (by omega) (by omega) (by omega)
  have cut2 := run_cut3 Try.underlying28 cel5 ino5 B2 XS.length d2 (XS.length : Int) (XS.length : Int) (by omega) (by omega) (by omega)
  have cut3 := run_cut3 Try.underlying28 cel5 ino5 B3 DS.length d3 (DS.length : Int) (DS.length : Int) (by omega) (by omega) (by omega)
  have cut4 := run_cut3 Try.underlying28 cel5 ino5 B4 TS.length d4 (TS.length : Int) (TS.length : Int) (by omega) (by omega) (by omega)
  rw [Int.toNat_natCast] at cut1 cut2 cut3 cut4
  clear hd1 hd2 hd3 hd4 hm
  go_wp2_with (at_builtin; (refine wp_appf rfl (.tmp 59) (.tmp 60) 28 rfl 5 (.int .u8 0) 1 1 Try.underlying28 inf5 (by decide) B1 X.length (bv X) rfl S1.out (by rw [LX.out, Nat.mul_one]) (by omega) A4 n4 c4 (bv r) rfl (by rw [bv_length, H4.out, Nat.mul_one]) (K4.out.below hB4) (by omega) (by omega) (by omega) ?_); intro E1 g1 w5 Q1 hg1 hB5)
  rw [← bv_append] at Q1
  refine (getBytes_any E1 (X ++ r) (X.length + n4) g1 w5 (by rw [List.length_append, H4.out]) hg1 Q1).mono ?_
  rw [D1.out]
  rintro e w' ⟨rfl, rfl⟩
  simp only [resB, str]
  have hB5' := below_trans hB4 hB5 hs4
  have hs5 := hB5'.size
  have S2 := hide (S2.out.below hB5)
  have S3 := hide (S3.out.below hB5)
  have S4 := hide (S4.out.below hB5)
  clear cut1 Q1 hg1 hB4 hB5 hs4
  go_wp2_with (at_builtin; (refine wp_appf rfl (.tmp 72) (.tmp 73) 28 rfl 5 (.int .u8 0) 1 1 Try.underlying28 inf5 (by decide) B2 XS.length (bv XS) rfl S2.out (by rw [LXS.out, Nat.mul_one]) (by omega) A4 n4 c4 (bv r) rfl (by rw [bv_length, H4.out, Nat.mul_one]) (K4.out.below hB5') (by omega) (by omega) (by omega) ?_); intro E2 g2 w6 Q2 hg2 hB6)
  rw [← bv_append] at Q2
  refine (getInts_any E2 (XS ++ r) (XS.length + n4) g2 w6 (by rw [List.length_append, H4.out]) hg2 Q2 (by omega)).mono ?_
  rw [D2.out]
  rintro e w7 hG
  obtain ⟨F2, f2, rfl, P2, hf2, hB7⟩ := hG.flat rfl (fun l' u hx => by simp only [Except.ok.injEq, Prod.mk.injEq] at hx; rw [← hx.1, iv_length]; have := H1.out; omega) (by omega)
  simp only [flat] at P2 hf2 ⊢
  have hB67 := below_trans hB6 hB7 hB6.size
  have hB7' := below_trans hB5' hB67 hs5
  have hs7 := hB7'.size
  have S3 := hide (S3.out.below hB67)
  have S4 := hide (S4.out.below hB67)
  have P2 := hide P2
  clear cut2 Q2 hg2 hB6 hB7 hB67 hB5' hs5 hG hf2
  go_wp2_with (at_builtin; (refine wp_appf rfl (.tmp 85) (.tmp 86) 28 rfl 5 (.int .u8 0) 1 1 Try.underlying28 inf5 (by decide) B3 DS.length (bv DS) rfl S3.out (by rw [LD.out, Nat.mul_one]) (by omega) A4 n4 c4 (bv r) rfl (by rw [bv_length, H4.out, Nat.mul_one]) (K4.out.below hB7') (by omega) (by omega) (by omega) ?_); intro E3 g3 w8 Q3 hg3 hB8)
  rw [← bv_append] at Q3
  refine (getDigs_any E3 (DS ++ r) (DS.length + n4) g3 w8 (by rw [List.length_append, H4.out]) hg3 Q3 (by omega)).mono ?_
  rw [D3.out]
  rintro e w9 hG
  obtain ⟨F3, f3, rfl, P3, hf3, hB9⟩ := hG.flat rfl (fun l' u hx => by simp only [Except.ok.injEq, Prod.mk.injEq] at hx; rw [← hx.1, dv_length ds G3]; have := H3.out; omega) (by omega)
  simp only [flat] at P3 hf3 ⊢
  have hB89 := below_trans hB8 hB9 hB8.size
  have hB9' := below_trans hB7' hB89 hs7
  have hs9 := hB9'.size
  have S4 := hide (S4.out.below hB89)
  have P2 := hide (P2.out.below hB89)
  have P3 := hide P3
  clear cut3 Q3 hg3 hB8 hB9 hB89 hB7' hs7 hG hf3
  go_wp2_with (at_builtin; (refine wp_appf rfl (.tmp 98) (.tmp 99) 28 rfl 5 (.int .u8 0) 1 1 Try.underlying28 inf5 (by decide) B4 TS.length (bv TS) rfl S4.out (by rw [LT.out, Nat.mul_one]) (by omega) A4 n4 c4 (bv r) rfl (by rw [bv_length, H4.out, Nat.mul_one]) (K4.out.below hB9') (by omega) (by omega) (by omega) ?_); intro E4 g4 wa Q4 hg4 hBa)
  rw [← bv_append] at Q4
  refine (getStrs_any E4 (TS ++ r) (TS.length + n4) g4 wa (by rw [List.length_append, H4.out]) hg4 Q4 (by omega)).mono ?_
  rw [D4.out]
  rintro e wb hG
  obtain ⟨F4, f4, rfl, P4, hf4, hBb⟩ := hG.flat rfl (fun l' u hx => by simp only [Except.ok.injEq, Prod.mk.injEq] at hx; rw [← hx.1, tv_length]; have := H2.out; omega) (by omega)
  simp only [flat] at P4 hf4 ⊢
  have hBab := below_trans hBa hBb hBa.size
  have hBb' := below_trans hB9' hBab hs9
  have hsb := hBb'.size
  have P2 := hide (P2.out.below hBab)
  have P3 := hide (P3.out.below hBab)
  have P4 := hide P4
  clear cut4 Q4 hg4 hBa hBb hBab hB9' hs9 hG hf4
  go_wp2_with fail
  refine (sanity_any wb).mono ?_
  rintro e wc ⟨rfl, hBc⟩
  have hBc' := below_trans hBb' hBc hsb
  have hsc := hBc'.size
  have P2 := hide (P2.out.below hBc)
  have P3 := hide (P3.out.below hBc)
  have P4 := hide (P4.out.below hBc)
  clear hBb' hBc hsb
  go_wp2_with fail
  refine (yes (sameTexts_any F4 A2 t t _ n2 f4 c2 wc rfl H2.out P4.out (K2.out.below hBc')) (decide_eq_true rfl)).mono ?_
  rintro e wd ⟨rfl, hBd⟩
  have hBd' := below_trans hBc' hBd hsc
  have hsd := hBd'.size
  have P2 := hide (P2.out.below hBd)
  have P3 := hide (P3.out.below hBd)
  clear hBc' hBd hsc
  go_wp2_with fail
  refine (yes (sameInts_any F2 A1 xs xs _ n1 f2 c1 wd rfl H1.out P2.out (K1.out.below hBd')) (decide_eq_true rfl)).mono ?_
  rintro e we ⟨rfl, hBe⟩
  have hBe' := below_trans hBd' hBe hsd
  have hse := hBe'.size
  have P3 := hide (P3.out.below hBe)
  clear hBd' hBe hsd
  go_wp2_with fail
  refine (yes (sameDigs_any F3 A3 ds ds _ n3 f3 c3 we rfl H3.out P3.out (K3.out.below hBe') G3 G3) (decide_eq_true rfl)).mono ?_
  rintro e wf ⟨rfl, hBf⟩
  go_wp2
  go_ret
  exact ⟨rfl, below_trans hBe' hBf hse⟩
end Go.Proofs.Ytopppkafbbfobaa.W
