/- The encoders answer as the reference does: the walk. -/
import Derived.Test.YtopppkafbbfobaaL10
import Derived.Test.YtopppkafbbfobaaC23
namespace Go.Proofs.Ytopppkafbbfobaa.W
open Go.RowKit

set_option maxRecDepth 100000 in
set_option maxHeartbeats 1000000 in
theorem enc_long (n : Int) (x : List UInt8) (A1 A2 A3 : Option Addr) (n1 c1 n2 c2 n3 c3 : Nat) (w : World) (hb : x.length + n1 + n3 ≤ 9223372036854775807) (h : 2000 < x.length + n1 + n3) :
    Calls Try.prog 3 #[.int .i64 n, str x, .slice A1 n1 c1, .slice A2 n2 c2, .slice A3 n3 c3] w (Yes w) := by
  unfold str
  go_enter Try.func3, Try.ntmps3
  go_wp2_with fail
  refine (sanity_any w).mono ?_
  rintro e w' ⟨rfl, hb⟩
  go_wp2
  go_ret
  exact ⟨rfl, hb⟩

set_option maxRecDepth 100000 in
set_option maxHeartbeats 1000000 in
theorem enc_many (n : Int) (x : List UInt8) (A1 A2 A3 : Option Addr) (n1 c1 n2 c2 n3 c3 : Nat) (t : List (List UInt8)) (w : World) (h : x.length + n1 + n3 ≤ 2000) (hn : n2 = t.length) (hR : Rd w A2 (tv t)) (ht : tot t ≤ 9223372036854775807) (hm : 2000 < tot t) :
    Calls Try.prog 3 #[.int .i64 n, str x, .slice A1 n1 c1, .slice A2 n2 c2, .slice A3 n3 c3] w (Yes w) := by
  have HN := hide hn
  have HF := hide (decide_eq_false (Nat.not_le.2 hm))
  clear hn hm
  unfold str
  go_enter Try.func3, Try.ntmps3
  go_wp2_with fail
  refine (few_any A2 t n2 c2 w HN.out hR ht).mono ?_
  rw [HF.out]
  rintro e w' ⟨rfl, rfl⟩
  go_wp2_with fail
  refine (sanity_any w).mono ?_
  rintro e w' ⟨rfl, hb⟩
  go_wp2
  go_ret
  exact ⟨rfl, hb⟩

set_option maxRecDepth 100000 in
set_option maxHeartbeats 8000000 in
theorem enc_short (n : Int) (hI : I64 n) (x : List UInt8) (A1 A2 A3 : Option Addr) (n1 c1 n2 c2 n3 c3 : Nat) (xs : List Int) (t ds : List (List UInt8)) (w : World) (h : x.length + n1 + n3 ≤ 2000)
    (e1 : n1 = xs.length) (R1 : Rd w A1 (iv xs)) (I1 : ∀ y ∈ xs, I64 y) (e2 : n2 = t.length) (R2 : Rd w A2 (tv t)) (hm : tot t ≤ 2000) (e3 : n3 = ds.length) (R3 : Rd w A3 (dv ds)) (G3 : D16 ds) :
    Calls Try.prog 3 #[.int .i64 n, str x, .slice A1 n1 c1, .slice A2 n2 c2, .slice A3 n3 c3] w (Yes w) := by
  have HF := hide (decide_eq_true hm)
  have hE0 := encInt_le9 n
  have hE1 : (encBytes x).length ≤ 2009 := by have := encInt_le9 (x.length : Int); rw [encBytes, List.length_append]; omega
  have hE2 : (encInts xs).length ≤ 18009 := by have := encInt_le9 (xs.length : Int); have := flat_le xs; rw [encInts, List.length_append]; omega
  have hE3 : (encDigs ds).length ≤ 33009 := by have := encInt_le9 (ds.length : Int); have := flatten16 ds G3; rw [encDigs, List.length_append]; omega
  have hE4 : (encStrs t).length ≤ 20009 := by have := encInt_le9 (t.length : Int); have := flatB_le t; unfold tot at hm; rw [encStrs, List.length_append]; omega
  have H1 := hide e1
  have H2 := hide e2
  have H3 := hide e3
  have hq2 : n2 ≤ 2000 := by unfold tot at hm; omega
  clear e1 e2 e3
  have K1 := hide R1
  have K2 := hide R2
  have K3 := hide R3
  clear R1 R2 R3
  unfold str
  go_enter Try.func3, Try.ntmps3
  go_wp2_with fail
  refine (few_any A2 t n2 c2 w H2.out K2.out (by omega)).mono ?_
  rw [HF.out]
  rintro e w' ⟨rfl, rfl⟩
  go_wp2_with fail
  refine (sanity_any w).mono ?_
  rintro e w0 ⟨rfl, hB0⟩
  have hs0 := hB0.size
  clear hm
  go_wp2_with fail
  refine (int_any n hI w0).mono ?_
  rintro e w1 ⟨v1, rfl, ho1, hB1⟩
  obtain ⟨P1, p1, rfl, S1, _⟩ := own_open ho1 (by rw [bv_length]; omega)
  have hB1 := below_trans hB0 hB1 hs0
  have hs1 := hB1.size
  clear ho1 hB0 hs0
  go_wp2_with fail
  refine (refInt_any n hI w1).mono ?_
  rintro e w2 ⟨v2, rfl, ho2, hB2⟩
  obtain ⟨P2, p2, rfl, S2, _⟩ := own_open ho2 (by rw [bv_length]; omega)
  have S1 := S1.below hB2
  have hB2 := below_trans hB1 hB2 hs1
  have hs2 := hB2.size
  clear ho2 hB1 hs1
  go_wp2_with fail
  refine (yes (same_any P1 P2 (encInt n) (encInt n) _ _ p1 p2 w2 rfl rfl S1 S2) (decide_eq_true rfl)).mono ?_
  rintro e w3 ⟨rfl, hB3⟩
  have hB3 := below_trans hB2 hB3 hs2
  have hs3 := hB3.size
  clear hB2 hs2 S1 S2 hE0
  go_wp2_with fail
  refine (bytes_any x (by omega) w3).mono ?_
  rintro e w4 ⟨v4, rfl, ho4, hB4⟩
  obtain ⟨P4, p4, rfl, S4, _⟩ := own_open ho4 (by rw [bv_length]; omega)
  have hB4 := below_trans hB3 hB4 hs3
  have hs4 := hB4.size
  clear ho4 hB3 hs3
  go_wp2_with fail
  refine (rbytes_any x (by omega) w4).mono ?_
  rintro e w5 ⟨v5, rfl, ho5, hB5⟩
  obtain ⟨P5, p5, rfl, S5, _⟩ := own_open ho5 (by rw [bv_length]; omega)
  have S4 := S4.below hB5
  have hB5 := below_trans hB4 hB5 hs4
  have hs5 := hB5.size
  clear ho5 hB4 hs4
  go_wp2_with fail
  refine (yes (same_any P4 P5 (encBytes x) (encBytes x) _ _ p4 p5 w5 rfl rfl S4 S5) (decide_eq_true rfl)).mono ?_
  rintro e w6 ⟨rfl, hB6⟩
  have hB6 := below_trans hB5 hB6 hs5
  have hs6 := hB6.size
  clear hB5 hs5 S4 S5 hE1
  go_wp2_with fail
  refine (ints_any A1 xs n1 c1 w6 H1.out (K1.out.below hB6) I1 (by omega)).mono ?_
  rintro e w7 ⟨v7, rfl, ho7, hB7⟩
  obtain ⟨P7, p7, rfl, S7, _⟩ := own_open ho7 (by rw [bv_length]; omega)
  have hB7 := below_trans hB6 hB7 hs6
  have hs7 := hB7.size
  clear ho7 hB6 hs6
  go_wp2_with fail
  refine (rints_any A1 xs n1 c1 w7 H1.out (K1.out.below hB7) I1 (by omega)).mono ?_
  rintro e w8 ⟨v8, rfl, ho8, hB8⟩
  obtain ⟨P8, p8, rfl, S8, _⟩ := own_open ho8 (by rw [bv_length]; omega)
  have S7 := S7.below hB8
  have hB8 := below_trans hB7 hB8 hs7
  have hs8 := hB8.size
  clear ho8 hB7 hs7
  go_wp2_with fail
  refine (yes (same_any P7 P8 (encInts xs) (encInts xs) _ _ p7 p8 w8 rfl rfl S7 S8) (decide_eq_true rfl)).mono ?_
  rintro e w9 ⟨rfl, hB9⟩
  have hB9 := below_trans hB8 hB9 hs8
  have hs9 := hB9.size
  clear hB8 hs8 S7 S8 hE2
  go_wp2_with fail
  refine (strs_any A2 t n2 c2 w9 H2.out (K2.out.below hB9) (by omega)).mono ?_
  rintro e wa ⟨va, rfl, hoa, hBa⟩
  obtain ⟨Pa, pa, rfl, Sa, _⟩ := own_open hoa (by rw [bv_length]; omega)
  have hBa := below_trans hB9 hBa hs9
  have hsa := hBa.size
  clear hoa hB9 hs9
  go_wp2_with fail
  refine (rstrs_any A2 t n2 c2 wa H2.out (K2.out.below hBa) (by omega)).mono ?_
  rintro e wb ⟨vb, rfl, hob, hBb⟩
  obtain ⟨Pb, pb, rfl, Sb, _⟩ := own_open hob (by rw [bv_length]; omega)
  have Sa := Sa.below hBb
  have hBb := below_trans hBa hBb hsa
  have hsb := hBb.size
  clear hob hBa hsa
  go_wp2_with fail
  refine (yes (same_any Pa Pb (encStrs t) (encStrs t) _ _ pa pb wb rfl rfl Sa Sb) (decide_eq_true rfl)).mono ?_
  rintro e wc ⟨rfl, hBc⟩
  have hBc := below_trans hBb hBc hsb
  have hsc := hBc.size
  clear hBb hsb Sa Sb hE4
  go_wp2_with fail
  refine (digs_any A3 ds n3 c3 wc H3.out (K3.out.below hBc) G3 (by omega)).mono ?_
  rintro e wd ⟨vd, rfl, hod, hBd⟩
  obtain ⟨Pd, pd, rfl, Sd, _⟩ := own_open hod (by rw [bv_length]; omega)
  have hBd := below_trans hBc hBd hsc
  have hsd := hBd.size
  clear hod hBc hsc
  go_wp2_with fail
  refine (rdigs_any A3 ds n3 c3 wd H3.out (K3.out.below hBd) G3 (by omega)).mono ?_
  rintro e we ⟨ve, rfl, hoe, hBe⟩
  obtain ⟨Pe, pe, rfl, Se, _⟩ := own_open hoe (by rw [bv_length]; omega)
  have Sd := Sd.below hBe
  have hBe := below_trans hBd hBe hsd
  have hse := hBe.size
  clear hoe hBd hsd
  go_wp2_with fail
  refine (yes (same_any Pd Pe (encDigs ds) (encDigs ds) _ _ pd pe we rfl rfl Sd Se) (decide_eq_true rfl)).mono ?_
  rintro e wf ⟨rfl, hBf⟩
  have hBf := below_trans hBe hBf hse
  go_wp2
  go_ret
  exact ⟨rfl, hBf⟩
end Go.Proofs.Ytopppkafbbfobaa.W
