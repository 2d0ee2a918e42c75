/- Encodings laid end to end are read one after the other: the walk. -/
import Derived.Test.YtopppkafbbfobaaL4
import Derived.Test.YtopppkafbbfobaaA2
namespace Go.Proofs.Ytopppkafbbfobaa.W
open Go.RowKit

theorem own_empty (w : World) : (w.alloc (.cells #[] 5)).ownsRow w.heap.size 5 1 (.slice (some ⟨w.heap.size, 0, none⟩) 0 0) 0 [] :=
  ⟨rfl, .inr ⟨w.heap.size, 0, #[], rfl, Nat.le_refl _, heap_alloc_new w _, Nat.le_refl _, Nat.zero_le _, rfl, rfl⟩⟩

set_option maxRecDepth 100000 in
set_option maxHeartbeats 1000000 in
theorem concat_long (x : List UInt8) (hx : x.length ≤ 140737488355328) (A : Option Addr) (m c : Nat) (w : World) (hm : m ≤ 140737488355328) (h : 2000 < x.length + m) :
    Calls Try.prog 12 #[str x, .slice A m c] w (Yes w) := by
  unfold str
  go_enter Try.func12, Try.ntmps12
  go_wp2_with fail
  refine (sanity_any w).mono ?_
  rintro e w' ⟨rfl, hb⟩
  go_wp2
  go_ret
  exact ⟨rfl, hb⟩

set_option maxRecDepth 100000 in
set_option maxHeartbeats 4000000 in
theorem concat_short (x : List UInt8) (A : Option Addr) (l : List Int) (m c : Nat) (w : World) (hml : m = l.length) (hR : Rd w A (iv l)) (hI : ∀ y ∈ l, I64 y) (h : x.length + m ≤ 2000) :
    Calls Try.prog 12 #[str x, .slice A m c] w (Yes w) := by
  have HM := hide hml
  have hxx : (x == x) = true := by simp
  have hz : ((0 : Int) != 0) = false := by decide
  have hE1 : (encBytes x).length ≤ 2009 := by have := encInt_le9 (x.length : Int); rw [encBytes, List.length_append]; omega
  have hE2 : (encInts l).length ≤ 18009 := by have := encInt_le9 (l.length : Int); have := flat_le l; rw [encInts, List.length_append]; omega
  have HD1 := hide (decBytes_enc x (encInts l) (by omega))
  have HD2 := hide (show decList decInt 1 (encInts l) = .ok (l, (encInts l).length) from by have := decInts_enc l [] (by omega) hI; rwa [List.append_nil] at this)
  have HR := hide hR
  have hxl : x.length ≤ 2000 := by omega
  clear hml hR
  unfold str
  go_enter Try.func12, Try.ntmps12
  go_wp2_with fail
  refine (bytes_any x (by omega) _).mono ?_
  rintro e w1 ⟨v, rfl, ho, hB⟩
  obtain ⟨A1, c1, rfl, hR1, hc1⟩ := own_open ho (by rw [bv_length]; omega)
  have hB0 : Below w.heap.size w w1 := ((Below.refl _ _).alloc (Nat.le_refl _) _).trans (hB.mono (by simp))
  have hs1 := hB0.size
  have hoe : w1.ownsRow w.heap.size 5 1 (.slice (some ⟨w.heap.size, 0, none⟩) 0 0) 0 [] := own_kept (own_empty w) hB
  have hs0 := hB.size
  have hR1h := hide hR1
  clear hR1 hB ho hxl
  go_wp2_with (at_builtin; go_loud (refine wp_app (w0 := w) rfl (.tmp 19) (.tmp 21) 28 rfl w.heap.size 5 (.int .u8 0) 1 1 Try.underlying28 inf5 rfl (by decide) _ 0 [] rfl hoe A1 (encBytes x).length c1 (bv (encBytes x)) rfl (by rw [bv_length, Nat.mul_one]) hR1h.out (bv_one _) (by omega) (by omega) hs1 hB0 ?_); intro v2 w2 ho2 hB2 z1 z2; clear z1 z2)
  rw [Nat.zero_add, List.nil_append] at ho2
  have hs2 := hB2.size
  refine (ints_any A l m c w2 HM.out (HR.out.below hB2) hI (by omega)).mono ?_
  rintro e w3 ⟨v3, rfl, ho3, hB3⟩
  obtain ⟨A3, c3, rfl, hR3, hc3⟩ := own_open ho3 (by rw [bv_length]; omega)
  have ho2' := own_kept ho2 hB3
  have hB3' := below_trans hB2 hB3 hs2
  have hs3 := hB3'.size
  have hR3h := hide hR3
  clear ho2 hB2 ho3 hB3 hR3 hB0 hs1 hoe hs2 hs0
  go_wp2_with (at_builtin; go_loud (refine wp_app (w0 := w) rfl (.tmp 22) (.tmp 24) 28 rfl w.heap.size 5 (.int .u8 0) 1 1 Try.underlying28 inf5 rfl (by decide) _ (encBytes x).length (bv (encBytes x)) rfl ho2' A3 (encInts l).length c3 (bv (encInts l)) rfl (by rw [bv_length, Nat.mul_one]) hR3h.out (bv_one _) (by omega) (by omega) hs3 hB3' ?_); intro v4 w4 ho4 hB4 z1 z2; clear z1 z2)
  rw [← bv_append] at ho4
  obtain ⟨A4, c4, rfl, hR4, hc4⟩ := own_open ho4 (by rw [bv_length, List.length_append]; omega)
  have hs4 := hB4.size
  have hR4h := hide hR4
  clear ho2' ho4 hR4 hB3' hs3 hc1 hc3 hR1h hR3h
  have hdrop := hide (show (encBytes x ++ encInts l).drop (encBytes x).length = encInts l from List.drop_left)
  generalize encBytes x = X at *
  generalize encInts l = Y at *
  refine (getBytes_any A4 (X ++ Y) (X.length + Y.length) c4 w4 (by rw [List.length_append]) hc4 hR4h.out).mono ?_
  rw [HD1.out]
  rintro e w5 ⟨rfl, rfl⟩
  simp only [resB, str]
  have hcut := run_cut_from Try.underlying28 cel5 ino5 A4 (X.length + Y.length) c4 (X.length : Int) (by omega) (by omega)
  rw [Int.toNat_natCast, Nat.add_sub_cancel_left] at hcut
  have hR5 := hR4h.out.cut (sz := 1) (n := X.length + Y.length) (by rw [bv_length, List.length_append, Nat.mul_one]) hc4 X.length (X.length + Y.length) (Nat.le_refl _)
  have e1 : (List.drop (X.length * 1) (bv (X ++ Y))).take ((X.length + Y.length - X.length) * 1) = bv Y := by
    rw [Nat.mul_one, Nat.mul_one, Nat.add_sub_cancel_left]
    have e2 : (bv (X ++ Y)).drop X.length = bv ((X ++ Y).drop X.length) := by simp [bv]
    rw [e2, hdrop.out, List.take_of_length_le (by rw [bv_length]; exact Nat.le_refl _)]
  rw [e1] at hR5
  clear e1
  have hR5h := hide hR5
  clear hR5
  generalize cutAt A4 c4 X.length 1 = A5 at *
  go_wp2_with fail
  refine (getInts_any A5 Y Y.length (c4 - X.length) w4 rfl (by omega) hR5h.out (by omega)).mono ?_
  rw [HD2.out]
  rintro e w6 hG
  obtain ⟨A6, c6, rfl, hR6, hc6, hB6⟩ := hG.flat rfl (fun l' u hx => by simp only [Except.ok.injEq, Prod.mk.injEq] at hx; rw [← hx.1, iv_length]; have := HM.out; omega) (by omega)
  simp only [flat] at hR6 hc6 ⊢
  have hBB6 := below_trans hB4 hB6 hs4
  have hs6 := hBB6.size
  have hR6h := hide hR6
  clear hG hR6 hB4 hB6
  go_wp2_with fail
  refine (sanity_any w6).mono ?_
  rintro e w7 ⟨rfl, hB7⟩
  go_wp2_with fail
  have hBB7 := below_trans hBB6 hB7 hs6
  have hs7 := hBB7.size
  refine (yes (sameInts_any A6 A l l _ m c6 c w7 rfl HM.out (hR6h.out.below hB7) (HR.out.below hBB7)) (decide_eq_true rfl)).mono ?_
  rintro e w8 ⟨rfl, hB8⟩
  go_wp2
  go_ret
  exact ⟨rfl, below_trans hBB7 hB8 hs7⟩
end Go.Proofs.Ytopppkafbbfobaa.W
