/- The reference's Digests and GetDigests. -/
import Derived.Test.YtopppkafbbfobaaC28
import Derived.Test.YtopppkafbbfobaaC65
namespace Go.Proofs.Ytopppkafbbfobaa.W
open Go.RowKit

set_option maxRecDepth 100000 in
set_option maxHeartbeats 800000 in
theorem rdigs_any (A : Option Addr) (l : List (List UInt8)) (n c : Nat) (w : World) (hn : n = l.length) (hR : Rd w A (dv l)) (h16 : D16 l) (hl : n ≤ 8000000000000) : Calls Try.prog 29 #[.slice A n c] w (RetB w (encDigs l)) := by
  have hIn : I64 (n : Int) := ⟨by omega, by omega⟩
  have HE := hide (show encDigs l = encInt (n : Int) ++ l.flatten from by rw [hn]; rfl)
  have HN := hide hn
  clear hn
  have h9 := encInt_le9 (n : Int)
  have HR := hide hR
  clear hR
  go_enter Try.func29, Try.ntmps29
  go_wp2_with fail
  refine (refInt_any _ hIn w).mono ?_
  rintro e w1 ⟨v, rfl, ho, hB⟩
  go_wp2_with fail
  go_loopw [3, 4] (fun v i wr => ∃ k : Nat, k ≤ n ∧ i = .int .i64 (k : Int) ∧ wr.ownsRow w.heap.size 5 1 v (encInt (n : Int) ++ (l.take k).flatten).length (bv (encInt (n : Int) ++ (l.take k).flatten)) ∧ Below w.heap.size w wr)
    (fun _ i _ => n - (intOf i).toNat)
  case atStart => exact ⟨0, Nat.zero_le _, rfl, by simpa using ho, hB⟩
  case round =>
    obtain ⟨k, hk, rfl, hown, hBr⟩ := hrel
    by_cases hkn : k < n
    · have hkl : k < l.length := by rw [← HN.out]; exact hkn
      obtain ⟨b, off, rfl, hc⟩ := HR.out.2 (by rw [dv_length l h16]; omega)
      have hx16 : (l.getD k []).length = 16 := h16 _ (by rw [List.getD_eq_getElem?_getD, List.getElem?_eq_getElem hkl]; exact List.getElem_mem _)
      have hc1 : ∀ W, Below w.heap.size w W → ∀ j, j < 16 → W.cell? ⟨b, off + k * 16 + j, none⟩ = some (.int .u8 (((l.getD k []).getD j 0).toNat : Int)) := fun W hW j hj => by
        have h1 := hc _ _ (dv_at l h16 k hkl j _ (bv_getElem? _ j (by rw [hx16]; exact hj)))
        rw [← Nat.add_assoc] at h1
        exact (hW.cell (World.block_lt_of_cell? w _ h1)).trans h1
      have HC := hide hc1
      have HT := hide (take_succ_get l k [] hkl)
      have hlen : (encInt (n : Int) ++ (l.take k).flatten).length ≤ 9 + k * 16 := by
        have h1 := flatten16 (l.take k) (fun d hd => h16 d (List.mem_of_mem_take hd))
        rw [List.length_take] at h1
        rw [List.length_append]
        omega
      have H16 := hide hx16
      generalize l.getD k [] = x at *
      generalize hpre : encInt (n : Int) ++ (l.take k).flatten = pre at *
      have HP := hide hpre
      clear hc hc1 hx16 ho hB hpre
      obtain ⟨wo, rfl⟩ : ∃ wo : World, wo = wr := ⟨_, rfl⟩
      go_wp2_with fail
      go_loopw [3, 5] (fun v q wx => ∃ j : Nat, j ≤ 16 ∧ q = .int .i64 (j : Int) ∧ wx.ownsRow w.heap.size 5 1 v (pre ++ x.take j).length (bv (pre ++ x.take j)) ∧ Below w.heap.size w wx) (fun _ q _ => 16 - (intOf q).toNat)
      case atStart => exact ⟨0, Nat.zero_le _, rfl, by simpa using hown, hBr⟩
      case round =>
        obtain ⟨j, hj, rfl, hownx, hBx⟩ := hrel
        by_cases hj16 : j < 16
        · have hcell := HC.out _ hBx j hj16
          have hTx := hide (take_succ_get x j 0 (by rw [H16.out]; exact hj16))
          have hbz := hBx.size
          have hln : (pre ++ x.take j).length ≤ 25 + k * 16 := by
            rw [List.length_append, List.length_take, H16.out]; omega
          generalize x.getD j 0 = X at *
          go_wp2_with (at_builtin; (refine wp_app1 (w0 := w) rfl (.tmp 19) (.tmp 26) 28 rfl w.heap.size (.int .u8 0) 1 Try.underlying28 inf5 rfl _ (pre ++ x.take j).length (bv (pre ++ x.take j)) rfl hownx rfl rfl (by omega) (by omega) hbz hBx ?_); intro v2 w2 ho2 hB2 _ _)
          go_roundw
          case rel => exact ⟨j + 1, by omega, by go_num, by rw [hTx.out, ← List.append_assoc, bv_append, List.length_append]; exact ho2, hB2⟩
          case measure => simp [intOf]; omega
        · obtain rfl : j = 16 := by omega
          rw [List.take_of_length_le (by rw [H16.out]; exact Nat.le_refl _)] at hownx
          clear hown hBr
          go_wp2
          go_roundw
          case rel => exact ⟨k + 1, by omega, by go_num, by rw [HT.out, List.flatten_append, ← List.append_assoc, HP.out, List.flatten_cons, List.flatten_nil, List.append_nil]; exact hownx, hBx⟩
          case measure => simp [intOf]; omega
    · obtain rfl : k = n := by omega
      go_wp2
      go_ret
      exact ⟨_, rfl, by rw [HE.out]; rw [List.take_of_length_le (by rw [HN.out]; exact Nat.le_refl _)] at hown; exact hown, hBr⟩

set_option maxRecDepth 100000 in
set_option maxHeartbeats 400000 in
theorem rgetDigs_err (A : Option Addr) (l : List UInt8) (n c k : Nat) (w : World) (hn : n = l.length) (hnc : n ≤ c) (hR : Rd w A (bv l)) (hm : n ≤ 8796093022208) (hd : Hid (cnt l 16 = .error k)) (hk : ((k : Int) != 0) = true) :
    Calls Try.prog 41 #[.slice A n c] w (GetPost w (.error k) 90 16) := by
  have HN := hide hn
  clear hn
  go_enter Try.func41, Try.ntmps41
  go_wp2_with fail
  refine (rcount_any A l n c 16 _ HN.out hnc hR (by omega) (by omega) (by omega)).mono ?_
  rw [hd.out]
  rintro e w' ⟨hBc, a, b, rfl⟩
  go_wp2
  go_ret3
  exact ⟨hBc, rfl⟩

theorem zero16 (wo : World) (i : Nat) (hi : i < 16) : (wo.alloc (.cells #[.int .u8 0, .int .u8 0, .int .u8 0, .int .u8 0, .int .u8 0, .int .u8 0, .int .u8 0, .int .u8 0, .int .u8 0, .int .u8 0, .int .u8 0, .int .u8 0, .int .u8 0, .int .u8 0, .int .u8 0, .int .u8 0] 90)).cell? ⟨wo.heap.size, i, none⟩ = some (.int .u8 0) := by
  rw [World.cell?_alloc_at (w := wo) _ 90 wo.heap.size i rfl]
  rcases i with _ | _ | _ | _ | _ | _ | _ | _ | _ | _ | _ | _ | _ | _ | _ | _ | i <;> first | rfl | omega
set_option maxRecDepth 100000 in
set_option maxHeartbeats 800000 in
theorem rgetDigs_ok (A : Option Addr) (l : List UInt8) (n c m u : Nat) (w : World) (hn : n = l.length) (hnc : n ≤ c) (hR : Rd w A (bv l)) (hd : Hid (cnt l 16 = .ok (m, u))) (hum : u + m * 16 ≤ n) (hm : n ≤ 8796093022208)
    (r : Except Nat (List (List UInt8) × Nat)) (hr : Hid (r = more [] u (decN decDig m (l.drop u)))) :
    Calls Try.prog 41 #[.slice A n c] w (GetPost w (mapOk dv r) 90 16) := by
  have HN := hide hn
  clear hn
  go_enter Try.func41, Try.ntmps41
  go_wp2_with fail
  refine (rcount_any A l n c 16 _ HN.out hnc hR (by omega) (by omega) (by omega)).mono ?_
  rw [hd.out]
  rintro e w0 ⟨hBc, rfl⟩
  go_wp2_with fail
  have HRB := hide hR
  clear hR
  go_loopw [6, 8, 9] (fun a v i wr => ∃ (k at_ : Nat) (acc : List (List UInt8)), k ≤ m ∧ i = .int .i64 (k : Int) ∧ a = .int .i64 (at_ : Int) ∧ at_ + (m - k) * 16 ≤ n ∧ Hid (acc.length = k) ∧ D16 acc ∧ wr.ownsRow w.heap.size 90 16 v acc.length (dv acc) ∧ Below w.heap.size w wr ∧
      Hid (r = more acc at_ (decN decDig (m - k) (l.drop at_))))
    (fun _ _ i _ => m - (intOf i).toNat)
  case atStart =>
    exact ⟨0, u, [], Nat.zero_le _, rfl, rfl, by omega, rfl, fun _ h => (by cases h), World.ownsRow_nil _ _ _ _, hBc, hr⟩
  case round =>
    obtain ⟨k, at_, acc, hk, rfl, rfl, hat, HA, h16, hown, hB, hrr⟩ := hrel
    by_cases hkm : k < m
    · have hat16 : at_ + 16 ≤ n := by omega
      obtain ⟨b, off, rfl, hc⟩ := HRB.out.2 (by rw [bv_length, ← HN.out]; omega)
      have hlen : ((l.drop at_).take 16).length = 16 := by rw [List.length_take, List.length_drop, ← HN.out]; omega
      have hc1 : ∀ W, Below w.heap.size w W → ∀ j, j < 16 → W.cell? ⟨b, off + (at_ + j), none⟩ = some (.int .u8 ((((l.drop at_).take 16).getD j 0).toNat : Int)) := fun W hW j hj => by
        have e1 : ((l.drop at_).take 16).getD j 0 = l.getD (at_ + j) 0 := by simp [List.getD_eq_getElem?_getD, hj]
        have h1 := hc (at_ + j) _ (bv_getElem? l (at_ + j) (by rw [← HN.out]; omega))
        rw [e1]
        exact (hW.cell (World.block_lt_of_cell? w _ h1)).trans h1
      have HC := hide hc1
      have HR2 := hide (more_ok (acc := acc) (d := decDig) (j := m - k - 1) (at_ := at_) (l := l) rfl)
      rw [show m - k - 1 + 1 = m - k from by omega, show m - k - 1 = m - (k + 1) from by omega] at HR2
      have HL := hide hlen
      have hs2 := hB.size
      generalize (l.drop at_).take 16 = x at *
      clear hc hc1 hlen
      obtain ⟨wo, rfl⟩ : ∃ wo : World, wo = wr := ⟨_, rfl⟩
      go_wp2_with fail
      go_loopw [11] (fun q wx => ∃ j : Nat, j ≤ 16 ∧ q = .int .i64 (j : Int) ∧ Below wo.heap.size wo wx ∧ wo.heap.size < wx.heap.size ∧ Hid (∀ i, i < 16 → ∃ v, wx.cell? ⟨wo.heap.size, i, none⟩ = some v) ∧ Hid (∀ i, i < 16 → wx.frozen? ⟨wo.heap.size, i, none⟩ = false) ∧ Hid (∀ i, i < j → wx.cell? ⟨wo.heap.size, i, none⟩ = some (.int .u8 ((x.getD i 0).toNat : Int)))) (fun q _ => 16 - (intOf q).toNat)
      case atStart => exact ⟨0, Nat.zero_le _, rfl, (Below.refl _ _).alloc (Nat.le_refl _) _, by simp, fun i hi => ⟨.int .u8 0, zero16 wo i hi⟩, (fun i hi => by simp), fun i hi => absurd hi (Nat.not_lt_zero _)⟩
      case round =>
        obtain ⟨j, hj, rfl, hBx, hbk, hsome, hfr, hset⟩ := hrel
        by_cases hj16 : j < 16
        · have hcell := HC.out _ (below_trans hB hBx hs2) j hj16
          obtain ⟨old, hold⟩ := hsome.out j hj16
          have hfj := hfr.out j hj16
          generalize hX : x.getD j 0 = X at *
          have HX := hide hX
          clear hX
          go_wp2
          go_roundw
          case rel =>
            have hadd : ∀ i, i ≠ j → (⟨wo.heap.size, j, none⟩ : Addr) ≠ ⟨wo.heap.size, i, none⟩ := fun i hi h => hi (by injection h with _ h; exact h.symm)
            refine ⟨j + 1, by omega, by go_num, hBx.setCell (Nat.le_refl _) _, by simpa using hbk, fun i hi => ?_, fun i hi => by simpa using hfr.out i hi, fun i hi => ?_⟩
            · by_cases hij : i = j
              · subst hij
                exact ⟨_, World.cell?_setCell_same _ _ _ hold⟩
              · obtain ⟨v, hv⟩ := hsome.out i hi
                exact ⟨v, (World.cell?_setCell_other _ _ _ _ (hadd i hij)).trans hv⟩
            · by_cases hij : i = j
              · subst hij
                rw [HX.out]
                exact World.cell?_setCell_same _ _ _ hold
              · exact (World.cell?_setCell_other _ _ _ _ (hadd i hij)).trans (hset.out i (by omega))
          case measure => simp [intOf]; omega
        · obtain rfl : j = 16 := by omega
          have hxc : ∀ j u, (bv x)[j]? = some u → wr.cell? ⟨wo.heap.size, 0 + j, none⟩ = some u := fun j u hu => by
            have hj : j < 16 := by
              have := (List.getElem?_eq_some_iff.1 hu).1
              rwa [bv_length, HL.out] at this
            rw [Nat.zero_add, hset.out j hj, ← hu, bv_getElem? x j (by rw [HL.out]; exact hj)]
          have hownx := own_kept hown hBx
          have hBB := below_trans hB hBx hs2
          have hsx := hBB.size
          have HC2 := hide hxc
          clear hsome hfr hset hxc hown hB hBx
          go_wp2_with (first | (with_reducible show wpList _ _ _ (⟨some 39, _, _, _, _, _⟩ :: _) _ _; go_loud (refine wp_load_agg rfl 90 (.tmp 10) rfl wo.heap.size 0 rfl (bv x) _ HC2.out Try.underlying90 rfl (by rw [bv_length, HL.out]; exact inf90) ?_)) | (with_reducible show wpList _ _ _ (⟨some 40, _, _, _, _, _⟩ :: _) _ _; go_loud (refine wp_slice1 rfl 24 90 (.tmp 39) rfl (bv x).toArray rfl _ 16 Try.underlying24 (by rw [List.size_toArray, bv_length, HL.out]; exact info90) (by simp [bv_length, HL.out]) (by simp [bv_length, HL.out]) ?_)) | (at_builtin; go_loud (refine wp_app (w0 := w) rfl (.tmp 38) (.tmp 40) 24 rfl w.heap.size 90 _ 16 16 Try.underlying24 info90 rfl (by decide) _ acc.length (dv acc) rfl (hownx.alloc _) (some ⟨wr.heap.size, 0, none⟩) 1 1 (bv x) rfl (by rw [bv_length, HL.out]) (rd_block wr (bv x) 90 (by rw [bv_length, HL.out]; omega)) (bv_one _) (by have := HA.out; omega) (by have := HA.out; omega) (by simp; omega) (hBB.alloc hsx _) ?_); intro v' w' ho' hB' _ _))
          go_roundw
          case rel =>
            refine ⟨k + 1, at_ + 16, acc ++ [x], by omega, by go_num, by go_num, by omega, by show _ = _; rw [List.length_append, HA.out]; rfl, ?_, by rw [dv_append, List.length_append]; simpa [dv] using ho', hB', HR2.out ▸ hrr⟩
            intro d hd
            rcases List.mem_append.1 hd with h | h
            · exact h16 d h
            · rw [List.mem_singleton] at h; rw [h]; exact HL.out
          case measure => simp [intOf]; omega
    · obtain rfl : k = m := by omega
      go_wp2
      go_ret3
      rw [Nat.sub_self, more_done] at hrr
      refine ⟨hB, ?_⟩
      rw [hrr.out]
      exact ⟨_, _, rfl, hown⟩
/-- The reference's GetDigests. -/
theorem rgetDigs_any (A : Option Addr) (l : List UInt8) (n c : Nat) (w : World) (hn : n = l.length) (hnc : n ≤ c) (hR : Rd w A (bv l)) (hm : n ≤ 8796093022208) :
    Calls Try.prog 41 #[.slice A n c] w (GetPost w (mapOk dv (decList decDig 16 l)) 90 16) := by
  unfold decList
  cases hd : cnt l 16 with
  | error k =>
    have := cnt_err hd
    exact rgetDigs_err A l n c k w hn hnc hR hm (hide hd) (by rw [bne_iff_ne]; omega)
  | ok r =>
    obtain ⟨m, u⟩ := r
    obtain ⟨h1, h2⟩ := cnt_ok hd
    obtain ⟨_, _, _, hu⟩ := dec_bounds h1
    have : m * 16 ≤ l.length - u := by omega
    exact rgetDigs_ok A l n c m u w hn hnc hR (hide hd) (by omega) hm _ (hide (more_nil u _).symm)
end Go.Proofs.Ytopppkafbbfobaa.W
