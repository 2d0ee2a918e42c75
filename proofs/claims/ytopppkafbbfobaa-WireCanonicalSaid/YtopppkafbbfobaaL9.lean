/- What is decoded without error is an encoding: the walk. -/
import Derived.Test.YtopppkafbbfobaaA3
import Derived.Test.YtopppkafbbfobaaC31
namespace Go.Proofs.Ytopppkafbbfobaa.W
open Go.RowKit

set_option maxRecDepth 100000 in
set_option maxHeartbeats 1000000 in
theorem clo_err (g m d : Nat) (B : Option Addr) (u k : Int) (w : World) (hk : (k != 0) = true) :
    Calls Try.prog 57 #[.slice B m d, .int .i64 u, .int .i64 k, .pointer (some ⟨g, 0, none⟩)] w (Yes w) := by
  go_enter Try.func57, Try.ntmps57
  go_wp2_with fail
  go_ret
  exact ⟨rfl, Below.refl _ _⟩

set_option maxRecDepth 100000 in
set_option maxHeartbeats 1000000 in
theorem clo_ok (g n c m d q : Nat) (A B : Option Addr) (l e : List UInt8) (w : World) (hn : n = l.length) (hnc : n ≤ c) (hR : Rd w A (bv l)) (h0 : w.cell? ⟨g, 0, none⟩ = some (.slice A n c)) (hm : m = e.length) (hE : Rd w B (bv e)) (hq : q ≤ n) (he : e = l.take q) :
    Calls Try.prog 57 #[.slice B m d, .int .i64 (q : Int), .int .i64 0, .pointer (some ⟨g, 0, none⟩)] w (Yes w) := by
  have hM : n ≤ 9223372036854775807 := by have := hR.len; rw [bv_length] at this; omega
  have hcut := run_cut_to Try.underlying28 cel5 ino5 A n c (q : Int) (by omega) (by omega)
  rw [cutAt_zero, Int.toNat_natCast] at hcut
  have HR := hide (rd_take hR q)
  have HE := hide hE
  have He := hide he
  have HM := hide hm
  have Hl := hide (show q = (l.take q).length from by rw [List.length_take]; omega)
  clear hE hR he hm hn
  rcases Nat.eq_zero_or_pos q with hz | hz
  · subst hz
    rcases Nat.eq_zero_or_pos n with hn0 | hn0
    · subst hn0
      go_enter Try.func57, Try.ntmps57
      go_wp2_with fail
      refine (yes (same_any B A e (l.take 0) _ _ d c w HM.out Hl.out HE.out HR.out) (decide_eq_true He.out)).mono ?_
      rintro e' w1 ⟨rfl, hB⟩
      go_wp2_with fail
      go_ret
      exact ⟨rfl, hB⟩
    · skip
      go_enter Try.func57, Try.ntmps57
      go_wp2_with fail
      refine (yes (same_any B A e (l.take 0) _ _ d c w HM.out Hl.out HE.out HR.out) (decide_eq_true He.out)).mono ?_
      rintro e' w1 ⟨rfl, hB⟩
      go_wp2_with fail
      go_ret
      exact ⟨rfl, hB⟩
  · rcases Nat.lt_or_eq_of_le hq with hq' | hq'
    · skip
      go_enter Try.func57, Try.ntmps57
      go_wp2_with fail
      refine (yes (same_any B A e (l.take q) _ _ d c w HM.out Hl.out HE.out HR.out) (decide_eq_true He.out)).mono ?_
      rintro e' w1 ⟨rfl, hB⟩
      go_wp2_with fail
      go_ret
      exact ⟨rfl, hB⟩
    · subst hq'
      go_enter Try.func57, Try.ntmps57
      go_wp2_with fail
      refine (yes (same_any B A e (l.take q) _ _ d c w HM.out Hl.out HE.out HR.out) (decide_eq_true He.out)).mono ?_
      rintro e' w1 ⟨rfl, hB⟩
      go_wp2_with fail
      go_ret
      exact ⟨rfl, hB⟩
/-- The closure. -/
theorem clo_any (g n c m d : Nat) (A B : Option Addr) (l e : List UInt8) (u k : Int) (w : World) (hn : n = l.length) (hnc : n ≤ c) (hR : Rd w A (bv l)) (h0 : w.cell? ⟨g, 0, none⟩ = some (.slice A n c)) (hm : m = e.length) (hE : Rd w B (bv e)) (hC : Can l e u k) :
    Calls Try.prog 57 #[.slice B m d, .int .i64 u, .int .i64 k, .pointer (some ⟨g, 0, none⟩)] w (Yes w) := by
  rcases hC with hk | ⟨rfl, q, hq, rfl, he⟩
  · exact clo_err g m d B u k w (by rw [bne_iff_ne]; exact hk)
  · exact clo_ok g n c m d q A B l e w hn hnc hR h0 hm hE (by omega) he

set_option maxRecDepth 100000 in
set_option maxHeartbeats 1000000 in
theorem canon_long (A : Option Addr) (m c : Nat) (w : World) (hm : m ≤ 9223372036854775807) (h : 2000 < m) :
    Calls Try.prog 9 #[.slice A m c] w (Yes w) := by
  go_enter Try.func9, Try.ntmps9
  go_wp2_with fail
  refine (sanity_any _).mono ?_
  rintro e w' ⟨rfl, hb⟩
  go_wp2
  go_ret
  exact ⟨rfl, ((Below.refl _ _).alloc (Nat.le_refl _) _).trans (hb.mono (by simp))⟩

set_option maxRecDepth 100000 in
set_option maxHeartbeats 8000000 in
theorem canon_short (A : Option Addr) (l : List UInt8) (m c : Nat) (w : World) (hml : m = l.length) (hmc : m ≤ c) (hR : Rd w A (bv l)) (h : m ≤ 2000) :
    Calls Try.prog 9 #[.slice A m c] w (Yes w) := by
  obtain ⟨a1, u1, k1, hI, hIa, C1⟩ := can_int l
  obtain ⟨a2, u2, k2, hBy, hBl, C2⟩ := can_bytes l
  have hl2000 : l.length ≤ 2000 := by omega
  have HM := hide hml
  have HI := hide hI
  have HBy := hide hBy
  have C1 := hide C1
  have C2 := hide C2
  have HL := hide hl2000
  have ha2 : a2.length ≤ 2000 := by omega
  clear hml hI hBy hl2000
  have hB0 : Below w.heap.size w (w.alloc (.cells #[.slice A m c] 28)) := (Below.refl _ _).alloc (Nat.le_refl _) _
  have hcell0 : (w.alloc (.cells #[.slice A m c] 28)).cell? ⟨w.heap.size, 0, none⟩ = some (.slice A m c) := by simp
  have hR0 := hR.alloc (.cells #[.slice A m c] 28)
  have hsz0 : w.heap.size < (w.alloc (.cells #[.slice A m c] 28)).heap.size := by simp
  go_enter Try.func9, Try.ntmps9
  go_wp2_with fail
  generalize hW0 : w.alloc (.cells #[.slice A m c] 28) = W0 at *
  clear hW0
  refine (getInt_any A l m c W0 HM.out hmc hR0).mono ?_
  rw [HI.out]
  rintro e w' ⟨rfl, rfl⟩
  go_wp2_with fail
  refine (getBytes_any A l m c W0 HM.out hmc hR0).mono ?_
  rw [HBy.out]
  rintro e w' ⟨rfl, rfl⟩
  simp only [str]
  go_wp2_with fail
  refine (getInts_any A l m c W0 HM.out hmc hR0 (by omega)).mono ?_
  rintro e w3 hG
  obtain ⟨A3, c3, rfl, hR3, hc3, hB3⟩ := flat_ints (by have := HL.out; omega) hG
  generalize hF : flat (decList decInt 1 l) = F3 at *
  obtain ⟨xs3, u3, k3⟩ := F3
  obtain ⟨I3, L3, C3⟩ := can_ints l xs3 u3 k3 hF
  have C3 := hide C3
  have L3 : xs3.length ≤ 2000 := by have := HL.out; omega
  simp only at hR3 ⊢
  have hcell3 := (hB3.cell (p := ⟨w.heap.size, 0, none⟩) hsz0).trans hcell0
  have hR3' := hR0.below hB3
  have hsz3 : w.heap.size < w3.heap.size := Nat.lt_of_lt_of_le hsz0 hB3.size
  have hB3' := hB0.trans (hB3.mono (Nat.le_of_lt hsz0))
  clear hG hc3 hF hB3 hcell0 hR0 hsz0 hB0
  go_wp2_with fail
  refine (getStrs_any A l m c w3 HM.out hmc hR3' (by omega)).mono ?_
  rintro e w4 hG
  obtain ⟨A4, c4, rfl, hR4, hc4, hB4⟩ := flat_strs (by have := HL.out; omega) hG
  generalize hF : flat (decList decBytes 1 l) = F4 at *
  obtain ⟨xs4, u4, k4⟩ := F4
  obtain ⟨L4, C4⟩ := can_strs l xs4 u4 k4 hF
  have C4 := hide C4
  have L4 : (encStrs xs4).length ≤ 2001 := by have := HL.out; omega
  simp only at hR4 ⊢
  have hcell4 := (hB4.cell (p := ⟨w.heap.size, 0, none⟩) hsz3).trans hcell3
  have hR3 := hR3.below hB4
  have hR4' := hR3'.below hB4
  have hsz4 : w.heap.size < w4.heap.size := Nat.lt_of_lt_of_le hsz3 hB4.size
  have hB4' := hB3'.trans (hB4.mono (Nat.le_of_lt hsz3))
  clear hG hc4 hF hB4 hcell3 hR3' hsz3 hB3'
  go_wp2_with fail
  refine (getDigs_any A l m c w4 HM.out hmc hR4' (by omega)).mono ?_
  rintro e w5 hG
  obtain ⟨A5, c5, rfl, hR5, hc5, hB5⟩ := flat_digs (by have := HL.out; omega) hG
  generalize hF : flat (decList decDig 16 l) = F5 at *
  obtain ⟨xs5, u5, k5⟩ := F5
  obtain ⟨G5, L5, C5⟩ := can_digs l xs5 u5 k5 hF
  have C5 := hide C5
  have L5 : xs5.length ≤ 2000 := by have := HL.out; omega
  simp only at hR5 ⊢
  have hcell5 := (hB5.cell (p := ⟨w.heap.size, 0, none⟩) hsz4).trans hcell4
  have hR3 := hR3.below hB5
  have hR4 := hR4.below hB5
  have hR5' := hR4'.below hB5
  have hsz5 : w.heap.size < w5.heap.size := Nat.lt_of_lt_of_le hsz4 hB5.size
  have hB5' := hB4'.trans (hB5.mono (Nat.le_of_lt hsz4))
  clear hG hc5 hF hB5 hcell4 hR4' hsz4 hB4'
  go_wp2_with fail
  refine (sanity_any w5).mono ?_
  rintro e w6 ⟨rfl, hB6⟩
  have hcell6 := (hB6.cell (p := ⟨w.heap.size, 0, none⟩) hsz5).trans hcell5
  have hR3 := hR3.below hB6
  have hR4 := hR4.below hB6
  have hR5 := hR5.below hB6
  have hR6 := hR5'.below hB6
  have hsz6 : w.heap.size < w6.heap.size := Nat.lt_of_lt_of_le hsz5 hB6.size
  have hB6' := hB5'.trans (hB6.mono (Nat.le_of_lt hsz5))
  clear hB6 hcell5 hR5' hsz5 hB5'
  go_wp2_with fail
  refine (int_any a1 hIa w6).mono ?_
  rintro e w7 ⟨v7, rfl, ho7, hB7⟩
  obtain ⟨P7, p7, rfl, S7, _⟩ := own_open ho7 (by rw [bv_length]; have := encInt_le9 a1; omega)
  have hcell7 := (hB7.cell (p := ⟨w.heap.size, 0, none⟩) hsz6).trans hcell6
  have hR3 := hR3.below hB7
  have hR4 := hR4.below hB7
  have hR5 := hR5.below hB7
  have hR7 := hR6.below hB7
  have hsz7 : w.heap.size < w7.heap.size := Nat.lt_of_lt_of_le hsz6 hB7.size
  have hB7' := hB6'.trans (hB7.mono (Nat.le_of_lt hsz6))
  clear ho7 hB7 hcell6 hR6 hsz6 hB6'
  go_wp2_with fail
  refine (clo_any w.heap.size m c _ p7 A P7 l (encInt a1) u1 k1 w7 HM.out hmc hR7 hcell7 rfl S7 C1.out).mono ?_
  rintro e w8 ⟨rfl, hB8⟩
  have hcell8 := (hB8.cell (p := ⟨w.heap.size, 0, none⟩) hsz7).trans hcell7
  have hR3 := hR3.below hB8
  have hR4 := hR4.below hB8
  have hR5 := hR5.below hB8
  have hR8 := hR7.below hB8
  have hsz8 : w.heap.size < w8.heap.size := Nat.lt_of_lt_of_le hsz7 hB8.size
  have hB8' := hB7'.trans (hB8.mono (Nat.le_of_lt hsz7))
  clear hB8 hcell7 hR7 hsz7 hB7' S7
  go_wp2_with fail
  refine (bytes_any a2 (by omega) w8).mono ?_
  rintro e w9 ⟨v9, rfl, ho9, hB9⟩
  obtain ⟨P9, p9, rfl, S9, _⟩ := own_open ho9 (by rw [bv_length]; have := encInt_le9 (a2.length : Int); rw [encBytes, List.length_append]; omega)
  have hcell9 := (hB9.cell (p := ⟨w.heap.size, 0, none⟩) hsz8).trans hcell8
  have hR3 := hR3.below hB9
  have hR4 := hR4.below hB9
  have hR5 := hR5.below hB9
  have hR9 := hR8.below hB9
  have hsz9 : w.heap.size < w9.heap.size := Nat.lt_of_lt_of_le hsz8 hB9.size
  have hB9' := hB8'.trans (hB9.mono (Nat.le_of_lt hsz8))
  clear ho9 hB9 hcell8 hR8 hsz8 hB8'
  go_wp2_with fail
  refine (clo_any w.heap.size m c _ p9 A P9 l (encBytes a2) u2 k2 w9 HM.out hmc hR9 hcell9 rfl S9 C2.out).mono ?_
  rintro e wa ⟨rfl, hBa⟩
  have hcella := (hBa.cell (p := ⟨w.heap.size, 0, none⟩) hsz9).trans hcell9
  have hR3 := hR3.below hBa
  have hR4 := hR4.below hBa
  have hR5 := hR5.below hBa
  have hRa := hR9.below hBa
  have hsza : w.heap.size < wa.heap.size := Nat.lt_of_lt_of_le hsz9 hBa.size
  have hBa' := hB9'.trans (hBa.mono (Nat.le_of_lt hsz9))
  clear hBa hcell9 hR9 hsz9 hB9' S9
  go_wp2_with fail
  refine (ints_any A3 xs3 _ c3 wa rfl hR3 I3 (by omega)).mono ?_
  rintro e wb ⟨vb, rfl, hob, hBb⟩
  obtain ⟨Pb, pb, rfl, Sb, _⟩ := own_open hob (by rw [bv_length]; have := encInt_le9 (xs3.length : Int); have := flat_le xs3; rw [encInts, List.length_append]; omega)
  have hcellb := (hBb.cell (p := ⟨w.heap.size, 0, none⟩) hsza).trans hcella
  have hR4 := hR4.below hBb
  have hR5 := hR5.below hBb
  have hRb := hRa.below hBb
  have hszb : w.heap.size < wb.heap.size := Nat.lt_of_lt_of_le hsza hBb.size
  have hBb' := hBa'.trans (hBb.mono (Nat.le_of_lt hsza))
  clear hob hBb hcella hRa hsza hBa' hR3
  go_wp2_with fail
  refine (clo_any w.heap.size m c _ pb A Pb l (encInts xs3) u3 k3 wb HM.out hmc hRb hcellb rfl Sb C3.out).mono ?_
  rintro e wc ⟨rfl, hBc⟩
  have hcellc := (hBc.cell (p := ⟨w.heap.size, 0, none⟩) hszb).trans hcellb
  have hR4 := hR4.below hBc
  have hR5 := hR5.below hBc
  have hRc := hRb.below hBc
  have hszc : w.heap.size < wc.heap.size := Nat.lt_of_lt_of_le hszb hBc.size
  have hBc' := hBb'.trans (hBc.mono (Nat.le_of_lt hszb))
  clear hBc hcellb hRb hszb hBb' Sb
  go_wp2_with fail
  refine (strs_any A4 xs4 _ c4 wc rfl hR4 (by omega)).mono ?_
  rintro e wd ⟨vd, rfl, hod, hBd⟩
  obtain ⟨Pd, pd, rfl, Sd, _⟩ := own_open hod (by rw [bv_length]; omega)
  have hcelld := (hBd.cell (p := ⟨w.heap.size, 0, none⟩) hszc).trans hcellc
  have hR5 := hR5.below hBd
  have hRd := hRc.below hBd
  have hszd : w.heap.size < wd.heap.size := Nat.lt_of_lt_of_le hszc hBd.size
  have hBd' := hBc'.trans (hBd.mono (Nat.le_of_lt hszc))
  clear hod hBd hcellc hRc hszc hBc' hR4
  go_wp2_with fail
  refine (clo_any w.heap.size m c _ pd A Pd l (encStrs xs4) u4 k4 wd HM.out hmc hRd hcelld rfl Sd C4.out).mono ?_
  rintro e we ⟨rfl, hBe⟩
  have hcelle := (hBe.cell (p := ⟨w.heap.size, 0, none⟩) hszd).trans hcelld
  have hR5 := hR5.below hBe
  have hRe := hRd.below hBe
  have hsze : w.heap.size < we.heap.size := Nat.lt_of_lt_of_le hszd hBe.size
  have hBe' := hBd'.trans (hBe.mono (Nat.le_of_lt hszd))
  clear hBe hcelld hRd hszd hBd' Sd
  go_wp2_with fail
  refine (digs_any A5 xs5 _ c5 we rfl hR5 G5 (by omega)).mono ?_
  rintro e wf ⟨vf, rfl, hof, hBf⟩
  obtain ⟨Pf, pf, rfl, Sf, _⟩ := own_open hof (by rw [bv_length]; have := encInt_le9 (xs5.length : Int); have := flatten16 xs5 G5; rw [encDigs, List.length_append]; omega)
  have hcellf := (hBf.cell (p := ⟨w.heap.size, 0, none⟩) hsze).trans hcelle
  have hRf := hRe.below hBf
  have hszf : w.heap.size < wf.heap.size := Nat.lt_of_lt_of_le hsze hBf.size
  have hBf' := hBe'.trans (hBf.mono (Nat.le_of_lt hsze))
  clear hof hBf hcelle hRe hsze hBe' hR5
  go_wp2_with fail
  refine (clo_any w.heap.size m c _ pf A Pf l (encDigs xs5) u5 k5 wf HM.out hmc hRf hcellf rfl Sf C5.out).mono ?_
  rintro e wg ⟨rfl, hBg⟩
  have hBg' := hBf'.trans (hBg.mono (Nat.le_of_lt hszf))
  go_wp2
  go_ret
  exact ⟨rfl, hBg'⟩
end Go.Proofs.Ytopppkafbbfobaa.W
