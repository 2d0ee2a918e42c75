/- The reference's Int returns the encoding of its argument in new memory. -/
import Derived.Test.YtopppkafbbfobaaC20
namespace Go.Proofs.Ytopppkafbbfobaa.W
open Go.RowKit

theorem be_rev (k m : Nat) : (be (k + 1) m).reverse = (be k m).reverse ++ [UInt8.ofNat (m / 256 ^ k)] := by simp [be]
theorem be_rev_at (m r : Nat) : ∀ k, r < k → (bv (be k m).reverse)[r]? = some (.int .u8 ((UInt8.ofNat (m / 256 ^ r)).toNat : Int)) := by
  intro k
  induction k with
  | zero => intro h; omega
  | succ k ih =>
    intro h
    rw [be_rev, bv_append]
    rcases Nat.lt_or_ge r k with h' | h'
    · rw [List.getElem?_append_left (by rw [bv_length, List.length_reverse, be_length]; exact h')]
      exact ih h'
    · obtain rfl : r = k := by omega
      rw [List.getElem?_append_right (by rw [bv_length, List.length_reverse, be_length]; exact Nat.le_refl _), bv_length, List.length_reverse, be_length, Nat.sub_self]
      rfl
theorem div_pow_succ (M i : Nat) : M / 256 ^ i / 256 = M / 256 ^ (i + 1) := by rw [Nat.div_div_eq_div_mul, ← Nat.pow_succ]
theorem fl_true_sub (d : UInt8) : (255 : Int) - (d.toNat : Int) = ((fl true d).toNat : Int) := by
  rw [fl_toNat]
  have := u8_lt d
  simp only [if_true]
  omega
theorem head_neg (k : Nat) (h : k ≤ 8) : (127 : Int) - (k : Int) = ((fl true (UInt8.ofNat (128 + k))).toNat : Int) := by
  rw [fl_toNat, ofNat_toNat]
  simp only [if_true]
  omega
theorem head_pos (k : Nat) (h : k ≤ 8) : (128 : Int) + (k : Int) = ((fl false (UInt8.ofNat (128 + k))).toNat : Int) := by
  rw [fl_toNat, ofNat_toNat]
  simp only [Bool.false_eq_true, if_false]
  omega

set_option maxRecDepth 100000 in
set_option maxHeartbeats 1000000 in
theorem refInt_neg_core (n : Int) (M : Nat) (l : List UInt8) (hneg : n < 0) (hb1 : -9223372036854775808 ≤ n) (hM : M < 9223372036854775808) (HM : Hid (-1 - n = (M : Int)))
    (hl : Hid (l = fl true (UInt8.ofNat (128 + nb M)) :: (be (nb M) M).map (fl true))) (w : World) :
    Calls Try.prog 21 #[.int .i64 n] w (RetB w l) := by
  go_enter Try.func21, Try.ntmps21
  go_wp2
  rw [HM.out]
  clear HM
  go_loopw [3, 4] (fun m v wr => ∃ (i : Nat), i ≤ 8 ∧ m = .int .i64 ((M / 256 ^ i : Nat) : Int) ∧ Hid (0 < i → 256 ^ (i - 1) ≤ M) ∧ wr.ownsRow w.heap.size 5 1 v i (bv (be i M).reverse) ∧ Below w.heap.size w wr) (fun m _ _ => (intOf m).toNat)
  case atStart => exact ⟨0, by omega, by simp, fun h => absurd h (by omega), World.ownsRow_nil _ _ _ _, Below.refl _ _⟩
  case round =>
    obtain ⟨i, hi, rfl, hmin, hown, hB⟩ := hrel
    by_cases hq : 0 < M / 256 ^ i
    · have hi8 : i < 8 := by
        rcases Nat.lt_or_ge i 8 with h | h
        · exact h
        · obtain rfl : i = 8 := by omega
          rw [Nat.div_eq_of_lt (by omega)] at hq
          omega
      have hX : (((M / 256 ^ i : Nat) : Int) % 256) = ((UInt8.ofNat (M / 256 ^ i)).toNat : Int) := by rw [ofNat_toNat]; omega
      have hmin2 := hide (show 0 < i + 1 → 256 ^ (i + 1 - 1) ≤ M from fun _ => by
        rw [Nat.add_sub_cancel]
        exact Nat.le_of_lt_succ (Nat.lt_succ_of_le ((Nat.div_pos_iff).1 hq).2))
      have hnext := hide (div_pow_succ M i)
      have HR := hide (be_rev i M)
      have hlt : M / 256 ^ i < 9223372036854775808 := Nat.lt_of_le_of_lt (Nat.div_le_self _ _) hM
      have hbz := hB.size
      generalize UInt8.ofNat (M / 256 ^ i) = X at *
      generalize M / 256 ^ i = Q at *
      clear hmin
      go_wp2_with (at_builtin; (refine wp_app1 (w0 := w) rfl (.tmp 16) (.tmp 20) 28 rfl w.heap.size (.int .u8 0) 1 Try.underlying28 inf5 rfl _ i (bv (be i M).reverse) rfl hown rfl rfl (by omega) (by omega) hbz hB ?_); intro v' w1 ho1 hB1 _ _)
      go_roundw
      case rel => exact ⟨i + 1, by omega, by rw [← hnext.out]; rfl, hmin2, by rw [HR.out, bv_append]; exact ho1, hB1⟩
      case measure => simp [intOf]; omega
    · have hk := hide (nb_unique M i hi (by
        rcases Nat.lt_or_ge M (256 ^ i) with h | h
        · exact h
        · exact absurd ((Nat.div_pos_iff).2 ⟨Nat.pow_pos (by omega), h⟩) hq) hmin.out)
      have hq0 := hide (Nat.eq_zero_of_not_pos hq)
      have hq' : ((M / 256 ^ i : Nat) : Int) ≤ 0 := by rw [hq0.out]; decide
      generalize M / 256 ^ i = Q at *
      have HH := hide (head_neg i hi)
      generalize hHd : fl true (UInt8.ofNat (128 + i)) = H at *
      have HHd := hide hHd
      obtain ⟨A, c, rfl, hR, _⟩ := Rd.of_own hown (by rw [bv_length, List.length_reverse, be_length]; omega)
      clear hq hHd hown hmin
      have hrs := hB.size
      obtain ⟨wo, rfl⟩ : ∃ wo : World, wo = wr := ⟨_, rfl⟩
      go_wp2_with (at_builtin; (refine wp_app1 (w0 := wo) rfl (.tmp 34) (.tmp 38) 28 rfl wo.heap.size (.int .u8 0) 1 Try.underlying28 inf5 rfl _ 0 [] rfl (World.ownsRow_nil _ _ _ _) rfl rfl (by omega) (by omega) (Nat.le_refl _) (Below.refl _ _) ?_); intro v1 w1 ho1 hB1 _ _)
      have ho1' : w1.ownsRow wo.heap.size 5 1 v1 [H].length (bv [H]) := by
        rw [HH.out] at ho1
        exact ho1
      clear ho1
      go_loopw [6, 7] (fun v q wx => ∃ (r : Nat) (L : List UInt8), r ≤ i ∧ q = .int .i64 ((r : Int) - 1) ∧ Part true M i r H L ∧ wx.ownsRow wo.heap.size 5 1 v L.length (bv L) ∧ Below wo.heap.size wo wx) (fun _ q _ => (intOf q + 1).toNat)
      case atStart => exact ⟨i, [H], by omega, rfl, Part.start _ _ _ _, ho1', hB1⟩
      case round =>
        obtain ⟨r, L, hri, rfl, hP, hown, hBx⟩ := hrel
        by_cases hr0 : 0 < r
        · obtain ⟨r, rfl⟩ : ∃ q, r = q + 1 := ⟨r - 1, by omega⟩
          have e1 : ((r + 1 : Nat) : Int) - 1 = r := by omega
          rw [e1]
          clear e1
          have hL := hP.len
          have hbz := hBx.size
          obtain ⟨b, off, rfl, hc⟩ := hR.2 (by rw [bv_length, List.length_reverse, be_length]; omega)
          have hc1 := hc r _ (be_rev_at M r i (by omega))
          have hc2 := (hBx.cell (World.block_lt_of_cell? wo _ hc1)).trans hc1
          generalize hX : UInt8.ofNat (M / 256 ^ r) = X at *
          have HX := hide hX
          have hs := fl_true_sub X
          have hx256 := u8_lt X
          generalize hY : fl true X = Y at *
          have HY := hide hY
          have HP := hide hP
          clear hP hc hc1 hX hY
          go_wp2_with (at_builtin; (refine wp_app1 (w0 := wo) rfl (.tmp 54) (.tmp 56) 28 rfl wo.heap.size (.int .u8 0) 1 Try.underlying28 inf5 rfl _ L.length (bv L) rfl hown rfl rfl (by omega) (by omega) hbz hBx ?_); intro v2 w2 ho2 hB2 _ _)
          go_roundw
          case rel => exact ⟨r, L ++ [Y], by omega, rfl, HP.out.step (by rw [HX.out, HY.out]), by rw [bv_append, List.length_append]; exact ho2, hB2⟩
          case measure => simp [intOf]
        · obtain rfl : r = 0 := by omega
          have HP := hide hP
          clear hP
          go_wp2
          go_ret
          refine ⟨_, rfl, ?_, below_trans hB hBx hrs⟩
          rw [hl.out, hk.out, HHd.out, ← HP.out.done]
          exact own_rebase hown hrs
set_option maxRecDepth 100000 in
set_option maxHeartbeats 1000000 in
theorem refInt_pos_core (M : Nat) (l : List UInt8) (hM : M < 9223372036854775808)
    (hl : Hid (l = fl false (UInt8.ofNat (128 + nb M)) :: (be (nb M) M).map (fl false))) (w : World) :
    Calls Try.prog 21 #[.int .i64 (M : Int)] w (RetB w l) := by
  go_enter Try.func21, Try.ntmps21
  go_wp2
  go_loopw [3, 4] (fun m v wr => ∃ (i : Nat), i ≤ 8 ∧ m = .int .i64 ((M / 256 ^ i : Nat) : Int) ∧ Hid (0 < i → 256 ^ (i - 1) ≤ M) ∧ wr.ownsRow w.heap.size 5 1 v i (bv (be i M).reverse) ∧ Below w.heap.size w wr) (fun m _ _ => (intOf m).toNat)
  case atStart => exact ⟨0, by omega, by simp, fun h => absurd h (by omega), World.ownsRow_nil _ _ _ _, Below.refl _ _⟩
  case round =>
    obtain ⟨i, hi, rfl, hmin, hown, hB⟩ := hrel
    by_cases hq : 0 < M / 256 ^ i
    · have hi8 : i < 8 := by
        rcases Nat.lt_or_ge i 8 with h | h
        · exact h
        · obtain rfl : i = 8 := by omega
          rw [Nat.div_eq_of_lt (by omega)] at hq
          omega
      have hX : (((M / 256 ^ i : Nat) : Int) % 256) = ((UInt8.ofNat (M / 256 ^ i)).toNat : Int) := by rw [ofNat_toNat]; omega
      have hmin2 := hide (show 0 < i + 1 → 256 ^ (i + 1 - 1) ≤ M from fun _ => by
        rw [Nat.add_sub_cancel]
        exact Nat.le_of_lt_succ (Nat.lt_succ_of_le ((Nat.div_pos_iff).1 hq).2))
      have hnext := hide (div_pow_succ M i)
      have HR := hide (be_rev i M)
      have hlt : M / 256 ^ i < 9223372036854775808 := Nat.lt_of_le_of_lt (Nat.div_le_self _ _) hM
      have hbz := hB.size
      generalize UInt8.ofNat (M / 256 ^ i) = X at *
      generalize M / 256 ^ i = Q at *
      clear hmin
      go_wp2_with (at_builtin; (refine wp_app1 (w0 := w) rfl (.tmp 16) (.tmp 20) 28 rfl w.heap.size (.int .u8 0) 1 Try.underlying28 inf5 rfl _ i (bv (be i M).reverse) rfl hown rfl rfl (by omega) (by omega) hbz hB ?_); intro v' w1 ho1 hB1 _ _)
      go_roundw
      case rel => exact ⟨i + 1, by omega, by rw [← hnext.out]; rfl, hmin2, by rw [HR.out, bv_append]; exact ho1, hB1⟩
      case measure => simp [intOf]; omega
    · have hk := hide (nb_unique M i hi (by
        rcases Nat.lt_or_ge M (256 ^ i) with h | h
        · exact h
        · exact absurd ((Nat.div_pos_iff).2 ⟨Nat.pow_pos (by omega), h⟩) hq) hmin.out)
      have hq0 := hide (Nat.eq_zero_of_not_pos hq)
      have hq' : ((M / 256 ^ i : Nat) : Int) ≤ 0 := by rw [hq0.out]; decide
      generalize M / 256 ^ i = Q at *
      have HH := hide (head_pos i hi)
      generalize hHd : fl false (UInt8.ofNat (128 + i)) = H at *
      have HHd := hide hHd
      obtain ⟨A, c, rfl, hR, _⟩ := Rd.of_own hown (by rw [bv_length, List.length_reverse, be_length]; omega)
      clear hq hHd hown hmin
      have hrs := hB.size
      obtain ⟨wo, rfl⟩ : ∃ wo : World, wo = wr := ⟨_, rfl⟩
      go_wp2_with (at_builtin; (refine wp_app1 (w0 := wo) rfl (.tmp 28) (.tmp 32) 28 rfl wo.heap.size (.int .u8 0) 1 Try.underlying28 inf5 rfl _ 0 [] rfl (World.ownsRow_nil _ _ _ _) rfl rfl (by omega) (by omega) (Nat.le_refl _) (Below.refl _ _) ?_); intro v1 w1 ho1 hB1 _ _)
      have ho1' : w1.ownsRow wo.heap.size 5 1 v1 [H].length (bv [H]) := by
        rw [HH.out] at ho1
        exact ho1
      clear ho1
      go_loopw [6, 7] (fun v q wx => ∃ (r : Nat) (L : List UInt8), r ≤ i ∧ q = .int .i64 ((r : Int) - 1) ∧ Part false M i r H L ∧ wx.ownsRow wo.heap.size 5 1 v L.length (bv L) ∧ Below wo.heap.size wo wx) (fun _ q _ => (intOf q + 1).toNat)
      case atStart => exact ⟨i, [H], by omega, rfl, Part.start _ _ _ _, ho1', hB1⟩
      case round =>
        obtain ⟨r, L, hri, rfl, hP, hown, hBx⟩ := hrel
        by_cases hr0 : 0 < r
        · obtain ⟨r, rfl⟩ : ∃ q, r = q + 1 := ⟨r - 1, by omega⟩
          have e1 : ((r + 1 : Nat) : Int) - 1 = r := by omega
          rw [e1]
          clear e1
          have hL := hP.len
          have hbz := hBx.size
          obtain ⟨b, off, rfl, hc⟩ := hR.2 (by rw [bv_length, List.length_reverse, be_length]; omega)
          have hc1 := hc r _ (be_rev_at M r i (by omega))
          have hc2 := (hBx.cell (World.block_lt_of_cell? wo _ hc1)).trans hc1
          generalize hX : UInt8.ofNat (M / 256 ^ r) = X at *
          have HX := hide hX
          have HP := hide hP
          clear hP hc hc1 hX
          go_wp2_with (at_builtin; (refine wp_app1 (w0 := wo) rfl (.tmp 54) (.tmp 56) 28 rfl wo.heap.size (.int .u8 0) 1 Try.underlying28 inf5 rfl _ L.length (bv L) rfl hown rfl rfl (by omega) (by omega) hbz hBx ?_); intro v2 w2 ho2 hB2 _ _)
          go_roundw
          case rel => exact ⟨r, L ++ [X], by omega, rfl, HP.out.step (by rw [HX.out]; rfl), by rw [bv_append, List.length_append]; exact ho2, hB2⟩
          case measure => simp [intOf]
        · obtain rfl : r = 0 := by omega
          have HP := hide hP
          clear hP
          go_wp2
          go_ret
          refine ⟨_, rfl, ?_, below_trans hB hBx hrs⟩
          rw [hl.out, hk.out, HHd.out, ← HP.out.done]
          exact own_rebase hown hrs
theorem mag_neg (n : Int) (h : n < 0) : -1 - n = (mag n : Int) := by have := mag_cast n; rw [if_pos h] at this; exact this.symm
/-- ref.Int. -/
theorem refInt_any (n : Int) (hn : I64 n) (w : World) : Calls Try.prog 21 #[.int .i64 n] w (RetB w (encInt n)) := by
  by_cases h : n < 0
  · exact refInt_neg_core n (mag n) (encInt n) h hn.1 (mag_lt n hn) (hide (mag_neg n h)) (hide (by simp [encInt, h])) w
  · have hm := mag_cast n
    rw [if_neg h] at hm
    have := refInt_pos_core (mag n) (encInt n) (mag_lt n hn) (hide (by simp [encInt, h])) w
    rwa [hm] at this
end Go.Proofs.Ytopppkafbbfobaa.W
