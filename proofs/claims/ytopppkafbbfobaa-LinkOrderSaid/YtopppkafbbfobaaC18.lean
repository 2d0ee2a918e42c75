/- The statements' examples: sanity() answers true. -/
import Derived.Test.YtopppkafbbfobaaC42
namespace Go.Proofs.Ytopppkafbbfobaa.W
open Go.RowKit

theorem rd_lit (W : World) (l : List UInt8) (cs : Array Value) (e : TypeId) (h : cs = (bv l).toArray) (hl : l.length ≤ 9223372036854775807) : Rd (W.alloc (.cells cs e)) (some ⟨W.heap.size, 0, none⟩) (bv l) := by
  rw [h]; exact rd_block W (bv l) e (by rw [bv_length]; exact hl)
theorem rd_cells (W : World) (xs : List Value) (cs : Array Value) (e : TypeId) (h : cs = xs.toArray) (hl : xs.length ≤ 9223372036854775807) : Rd (W.alloc (.cells cs e)) (some ⟨W.heap.size, 0, none⟩) xs := by
  rw [h]; exact rd_block W xs e hl
/-- What is owned, opened for reading. -/
theorem own_open {w : World} {base : Nat} {e : TypeId} {size n : Nat} {v : Value} {xs : List Value} (h : w.ownsRow base e size v n xs) (hn : xs.length ≤ 9223372036854775807) : ∃ A c, v = .slice A n c ∧ Rd w A xs ∧ n ≤ c := Rd.of_own h hn
theorem own_n {w : World} {base : Nat} {e : TypeId} {n : Nat} {v : Value} {xs : List Value} (h : w.ownsRow base e 1 v n xs) : xs.length = n := by have := h.1; omega

theorem Rd.alloc {W : World} {A : Option Addr} {xs : List Value} (h : Rd W A xs) (o : Obj) : Rd (W.alloc o) A xs := h.below ((Below.refl _ _).alloc (Nat.le_refl _) o)
theorem rd_at (W : World) (xs : List Value) (cs : Array Value) (e : TypeId) (g : Nat) (hg : g = W.heap.size) (h : cs = xs.toArray) (hl : xs.length ≤ 9223372036854775807) : Rd (W.alloc (.cells cs e)) (some ⟨g, 0, none⟩) xs := by
  rw [h, hg]; exact rd_block W xs e hl
theorem Rd.cells {W : World} {g : Nat} {xs : List Value} (h : Rd W (some ⟨g, 0, none⟩) xs) : ∀ j u, xs[j]? = some u → W.cell? ⟨g, 0 + j, none⟩ = some u := by
  intro j u hu
  have hj := (List.getElem?_eq_some_iff.1 hu).1
  obtain ⟨b, off, e, hc⟩ := h.2 (by omega)
  simp only [Option.some.injEq, Addr.mk.injEq, and_true] at e
  obtain ⟨rfl, rfl⟩ := e
  exact hc j u hu
/-- A comparison that says yes. -/
theorem yes {f : FuncId} {args : Array Value} {w : World} {b : Bool} (h : Calls Try.prog f args w (Quiet b w)) (hb : b = true) : Calls Try.prog f args w fun e w' => e = .returned (.bool true) ∧ Below w.heap.size w w' := by
  subst hb
  exact h.mono fun e w' h => h.below
/-- The digest of the examples. -/
def dig0 : List UInt8 := [1, 2, 0, 0, 0, 0, 0, 0, 0, 0, 0, 0, 0, 0, 0, 0]
theorem dig0_16 : D16 [dig0] := fun d hd => by rw [List.mem_singleton] at hd; rw [hd]; rfl

theorem dig0_len : (dv [dig0]).length = 16 := by rw [dv_length _ dig0_16]; rfl
set_option maxRecDepth 100000 in
set_option maxHeartbeats 4000000 in
theorem sanity_any (w : World) : Calls Try.prog 18 #[] w fun e w' => e = .returned (.bool true) ∧ Below w.heap.size w w' := by
  go_enter Try.func18, Try.ntmps18
  go_wp2_with fail
  refine (getInt_any _ [130, 1, 0, 9] 4 4 _ rfl (by decide) (rd_lit _ _ _ _ rfl (by decide))).mono ?_
  rintro e W1 ⟨rfl, hw⟩
  have hB1 : Below w.heap.size w W1 := by rw [← hw]; exact (Below.refl _ _).alloc (Nat.le_refl _) _
  clear hw
  rw [show resI (decInt [130, 1, 0, 9]) = .tuple #[.int .i64 256, .int .i64 3, .int .i64 0] from by kernel_rfl]
  go_wp2_with fail
  refine (getInt_any _ [130, 1] 2 2 _ rfl (by decide) (rd_lit _ _ _ _ rfl (by decide))).mono ?_
  rintro e W2 ⟨rfl, hw⟩
  have hB2 : Below w.heap.size w W2 := by rw [← hw]; exact hB1.alloc hB1.size _
  clear hw hB1
  rw [show resI (decInt [130, 1]) = .tuple #[.int .i64 0, .int .i64 0, .int .i64 3] from by kernel_rfl]
  go_wp2_with fail
  refine (getInt_any _ [129, 0] 2 2 _ rfl (by decide) (rd_lit _ _ _ _ rfl (by decide))).mono ?_
  rintro e W3 ⟨rfl, hw⟩
  have hB3 : Below w.heap.size w W3 := by rw [← hw]; exact hB2.alloc hB2.size _
  clear hw hB2
  rw [show resI (decInt [129, 0]) = .tuple #[.int .i64 0, .int .i64 0, .int .i64 2] from by kernel_rfl]
  go_wp2_with fail
  refine (getBytes_any _ [129, 2, 97, 98, 7] 5 5 _ rfl (by decide) (rd_lit _ _ _ _ rfl (by decide))).mono ?_
  rintro e W4 ⟨rfl, hw⟩
  have hB4 : Below w.heap.size w W4 := by rw [← hw]; exact hB3.alloc hB3.size _
  clear hw hB3
  rw [show resB (decBytes [129, 2, 97, 98, 7]) = .tuple #[.string ⟨#[97, 98]⟩, .int .i64 4, .int .i64 0] from by kernel_rfl]
  go_wp2_with fail
  have hgi := getInts_any _ [129, 2, 129, 1, 127] 5 5 _ rfl (by decide) (rd_lit W4 [129, 2, 129, 1, 127] _ 5 rfl (by decide)) (by decide)
  rw [show mapOk iv (decList decInt 1 [129, 2, 129, 1, 127]) = .ok (iv [1, -1], 5) from by kernel_rfl] at hgi
  refine hgi.mono ?_
  clear hgi
  rintro e W5 ⟨hb, v5, n5, rfl, ho5⟩
  obtain ⟨A5, c5, rfl, hR5, _⟩ := own_open ho5 (by decide)
  obtain rfl := own_n ho5
  have hB5 : Below w.heap.size w W5 := below_trans (hB4.alloc hB4.size _) hb (by have := hB4.size; simp; omega)
  clear ho5
  go_wp2_with fail
  have hD := rd_at W5 (dv [dig0]) #[.int .u8 1, .int .u8 2, .int .u8 0, .int .u8 0, .int .u8 0, .int .u8 0, .int .u8 0, .int .u8 0, .int .u8 0, .int .u8 0, .int .u8 0, .int .u8 0, .int .u8 0, .int .u8 0, .int .u8 0, .int .u8 0] 90 _ rfl rfl (by decide)
  refine (digs_any _ [dig0] 1 1 _ rfl (rd_at _ (dv [dig0]) _ 90 _ (by simp) rfl (by decide)) dig0_16 (by decide)).mono ?_
  rintro e W6 ⟨v6, rfl, ho6, hb6⟩
  obtain ⟨A6, c6, rfl, hR6, hc6⟩ := own_open ho6 (by decide)
  have hD6 := (hD.alloc _).below hb6
  have hR56 := ((hR5.alloc _).alloc _).below hb6
  have hB6 : Below w.heap.size w W6 := below_trans ((hB5.alloc hB5.size _).alloc (by have := hB5.size; simp; omega) _) hb6 (by have := hB5.size; simp; omega)
  clear ho6 hb6 hD hR5 hB5 hB4 hb
  go_wp2_with fail
  have hgd := getDigs_any A6 (encDigs [dig0]) _ c6 W6 rfl hc6 hR6 (by decide)
  rw [show mapOk dv (decList decDig 16 (encDigs [dig0])) = .ok (dv [dig0], 18) from by kernel_rfl] at hgd
  refine hgd.mono ?_
  clear hgd
  rintro e W7 ⟨hb7, v7, n7, rfl, ho7⟩
  obtain ⟨A7, c7, rfl, hR7, _⟩ := own_open ho7 (by decide)
  obtain rfl : n7 = 1 := by have h1 : 16 = n7 * 16 := ho7.1; omega
  have hD7 := hD6.below hb7
  have hR57 := hR56.below hb7
  have hB7 := below_trans hB6 hb7 hB6.size
  clear ho7 hb7 hD6 hR56 hB6 hR6
  go_wp2_with fail
  have hgs := getStrs_any _ [129, 2, 128, 129, 1, 97, 5] 7 7 _ rfl (by decide) (rd_lit W7 [129, 2, 128, 129, 1, 97, 5] _ 5 rfl (by decide)) (by decide)
  rw [show mapOk tv (decList decBytes 1 [129, 2, 128, 129, 1, 97, 5]) = .ok (tv [[], [97]], 6) from by kernel_rfl] at hgs
  refine hgs.mono ?_
  clear hgs
  rintro e W8 ⟨hb8, v8, n8, rfl, ho8⟩
  obtain ⟨A8, c8, rfl, hR8, _⟩ := own_open ho8 (by decide)
  obtain rfl := own_n ho8
  have hD8 := (hD7.alloc _).below hb8
  have hR58 := (hR57.alloc _).below hb8
  have hR78 := (hR7.alloc _).below hb8
  have hB8 := below_trans (hB7.alloc hB7.size _) hb8 (by have := hB7.size; simp; omega)
  clear ho8 hb8 hD7 hR57 hR7 hB7
  go_wp2_with fail
  refine (yes (sameTexts_any A8 _ [[], [97]] [[], [97]] _ 2 c8 2 _ rfl rfl (hR8.alloc _) (rd_at _ (tv [[], [97]]) _ 9 _ rfl rfl (by decide))) (by simp)).mono ?_
  rintro e W9 ⟨rfl, hb9⟩
  have hD9 := (hD8.alloc _).below hb9
  have hR59 := (hR58.alloc _).below hb9
  have hR79 := (hR78.alloc _).below hb9
  have hB9 := below_trans (hB8.alloc hB8.size _) hb9 (by have := hB8.size; simp; omega)
  clear hb9 hD8 hR58 hR78 hB8 hR8
  go_wp2_with fail
  refine (strs_any _ [[], [97]] 2 2 _ rfl (rd_at _ (tv [[], [97]]) _ 9 _ rfl rfl (by decide)) (by decide)).mono ?_
  rintro e W10 ⟨v10, rfl, ho10, hb10⟩
  obtain ⟨A10, c10, rfl, hR10, _⟩ := own_open ho10 (by decide)
  have hD10 := (hD9.alloc _).below hb10
  have hR510 := (hR59.alloc _).below hb10
  have hR710 := (hR79.alloc _).below hb10
  have hB10 := below_trans (hB9.alloc hB9.size _) hb10 (by have := hB9.size; simp; omega)
  clear hb10 hD9 hR59 hR79 hB9 ho10
  go_wp2_with fail
  refine (yes (same_any A10 _ _ [129, 2, 128, 129, 1, 97] _ 6 c10 6 _ rfl rfl (hR10.alloc _) (rd_at _ (bv [129, 2, 128, 129, 1, 97]) _ 5 _ rfl rfl (by decide))) (by kernel_rfl)).mono ?_
  rintro e W11 ⟨rfl, hb11⟩
  have hD11 := (hD10.alloc _).below hb11
  have hR511 := (hR510.alloc _).below hb11
  have hR711 := (hR710.alloc _).below hb11
  have hB11 := below_trans (hB10.alloc hB10.size _) hb11 (by have := hB10.size; simp; omega)
  clear hb11 hD10 hR510 hR710 hB10 hR10
  go_wp2_with fail
  refine (int_any (-257) ⟨by decide, by decide⟩ _).mono ?_
  rintro e W12 ⟨v12, rfl, ho12, hb12⟩
  obtain ⟨A12, c12, rfl, hR12, _⟩ := own_open ho12 (by decide)
  have hD12 := hD11.below hb12
  have hR512 := hR511.below hb12
  have hR712 := hR711.below hb12
  have hB12 := below_trans hB11 hb12 hB11.size
  clear hb12 hD11 hR511 hR711 hB11 ho12
  go_wp2_with fail
  refine (yes (same_any A12 _ _ [125, 254, 255] _ 3 c12 3 _ rfl rfl (hR12.alloc _) (rd_at _ (bv [125, 254, 255]) _ 5 _ rfl rfl (by decide))) (by kernel_rfl)).mono ?_
  rintro e W13 ⟨rfl, hb13⟩
  have hD13 := (hD12.alloc _).below hb13
  have hR513 := (hR512.alloc _).below hb13
  have hR713 := (hR712.alloc _).below hb13
  have hB13 := below_trans (hB12.alloc hB12.size _) hb13 (by have := hB12.size; simp; omega)
  clear hb13 hD12 hR512 hR712 hB12 hR12
  go_wp2_with fail
  refine (yes (sameInts_any A5 _ [1, -1] [1, -1] _ 2 c5 2 _ rfl rfl (hR513.alloc _) (rd_at _ (iv [1, -1]) _ 3 _ rfl rfl (by decide))) (by simp)).mono ?_
  rintro e W14 ⟨rfl, hb14⟩
  have hD14 := (hD13.alloc _).below hb14
  have hR714 := (hR713.alloc _).below hb14
  have hB14 := below_trans (hB13.alloc hB13.size _) hb14 (by have := hB13.size; simp; omega)
  clear hb14 hD13 hR513 hR713 hB13
  go_wp2_with fail
  refine (bytes_any [97, 98] (by decide) _).mono ?_
  rintro e W15 ⟨v15, rfl, ho15, hb15⟩
  obtain ⟨A15, c15, rfl, hR15, _⟩ := own_open ho15 (by decide)
  have hD15 := hD14.below hb15
  have hR715 := hR714.below hb15
  have hB15 := below_trans hB14 hb15 hB14.size
  clear hb15 hD14 hR714 hB14 ho15
  go_wp2_with fail
  refine (yes (same_any A15 _ _ [129, 2, 97, 98] _ 4 c15 4 _ rfl rfl (hR15.alloc _) (rd_at _ (bv [129, 2, 97, 98]) _ 5 _ rfl rfl (by decide))) (by kernel_rfl)).mono ?_
  rintro e W16 ⟨rfl, hb16⟩
  have hD16 := (hD15.alloc _).below hb16
  have hR716 := (hR715.alloc _).below hb16
  have hB16 := below_trans (hB15.alloc hB15.size _) hb16 (by have := hB15.size; simp; omega)
  clear hb16 hD15 hR715 hB15 hR15
  go_wp2_with fail
  refine (ints_any _ [1, -1] 2 2 _ rfl (rd_at _ (iv [1, -1]) _ 3 _ rfl rfl (by decide)) (by intro x hx; simp at hx; rcases hx with rfl | rfl <;> exact ⟨by decide, by decide⟩) (by decide)).mono ?_
  rintro e W17 ⟨v17, rfl, ho17, hb17⟩
  obtain ⟨A17, c17, rfl, hR17, _⟩ := own_open ho17 (by decide)
  have hD17 := (hD16.alloc _).below hb17
  have hR717 := (hR716.alloc _).below hb17
  have hB17 := below_trans (hB16.alloc hB16.size _) hb17 (by have := hB16.size; simp; omega)
  clear hb17 hD16 hR716 hB16 ho17
  go_wp2_with fail
  refine (yes (same_any A17 _ _ [129, 2, 129, 1, 127] _ 5 c17 5 _ rfl rfl (hR17.alloc _) (rd_at _ (bv [129, 2, 129, 1, 127]) _ 5 _ rfl rfl (by decide))) (by kernel_rfl)).mono ?_
  rintro e W18 ⟨rfl, hb18⟩
  have hD18 := (hD17.alloc _).below hb18
  have hR718 := (hR717.alloc _).below hb18
  have hB18 := below_trans (hB17.alloc hB17.size _) hb18 (by have := hB17.size; simp; omega)
  clear hb18 hD17 hR717 hB17 hR17
  have hDc := hide hD18.cells
  clear hD18
  go_wp2_with (first | (with_reducible show wpList _ _ _ (⟨some 150, _, _, _, _, _⟩ :: _) _ _; go_loud (refine wp_load_agg rfl 90 (.tmp 16) rfl W5.heap.size 0 rfl (dv [dig0]) _ hDc.out Try.underlying90 rfl (by rw [dig0_len]; exact inf90) ?_)) | (with_reducible show wpList _ _ _ (⟨some 151, _, _, _, _, _⟩ :: _) _ _; go_loud (refine wp_slice1 rfl 24 90 (.tmp 150) rfl (dv [dig0]).toArray rfl _ 16 Try.underlying24 (by rw [List.size_toArray, dig0_len]; exact info90) (by rw [List.size_toArray, dig0_len]; decide) (by rw [List.size_toArray, dig0_len]; decide) ?_)))
  have hc18 := hDc.out
  refine (yes (sameDigs_any A7 _ [dig0] [dig0] 1 1 c7 1 _ rfl rfl (hR718.alloc _) (rd_at _ (dv [dig0]) _ 90 _ rfl rfl (by decide)) dig0_16 dig0_16) (by simp)).mono ?_
  clear hc18
  rintro e W19 ⟨rfl, hb19⟩
  have hB19 := below_trans (hB18.alloc hB18.size _) hb19 (by have := hB18.size; simp; omega)
  clear hb19 hDc hR718 hB18
  go_wp2
  go_ret
  exact ⟨rfl, hB19⟩
end Go.Proofs.Ytopppkafbbfobaa.W
