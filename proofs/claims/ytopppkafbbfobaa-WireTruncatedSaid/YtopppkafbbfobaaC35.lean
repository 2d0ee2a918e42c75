/- The reference's GetInts and GetStrings. -/
import Derived.Test.YtopppkafbbfobaaC37
import Derived.Test.YtopppkafbbfobaaC65
namespace Go.Proofs.Ytopppkafbbfobaa.W
open Go.RowKit

set_option maxRecDepth 100000 in
set_option maxHeartbeats 400000 in
theorem rgetInts_err (A : Option Addr) (l : List UInt8) (n c k : Nat) (w : World) (hn : n = l.length) (hnc : n ≤ c) (hR : Rd w A (bv l)) (hm : n ≤ 8796093022208) (hd : Hid (cnt l 1 = .error k)) (hk : ((k : Int) != 0) = true) :
    Calls Try.prog 35 #[.slice A n c] w (GetPost w (.error k) 3 1) := by
  have HN := hide hn
  clear hn
  go_enter Try.func35, Try.ntmps35
  go_wp2_with fail
  refine (rcount_any A l n c 1 _ HN.out hnc hR (by omega) (by omega) (by omega)).mono ?_
  rw [hd.out]
  rintro e w' ⟨hBc, a, b, rfl⟩
  go_wp2
  go_ret3
  exact ⟨hBc, rfl⟩
set_option maxRecDepth 100000 in
set_option maxHeartbeats 400000 in
theorem rgetInts_ok (A : Option Addr) (l : List UInt8) (n c m u : Nat) (w : World) (hn : n = l.length) (hnc : n ≤ c) (hR : Rd w A (bv l)) (hd : Hid (cnt l 1 = .ok (m, u))) (hum : u + m ≤ n) (hm : n ≤ 8796093022208)
    (r : Except Nat (List Int × Nat)) (hr : Hid (r = more [] u (decN decInt m (l.drop u)))) :
    Calls Try.prog 35 #[.slice A n c] w (GetPost w (mapOk iv r) 3 1) := by
  have HN := hide hn
  clear hn
  go_enter Try.func35, Try.ntmps35
  go_wp2_with fail
  refine (rcount_any A l n c 1 _ HN.out hnc hR (by omega) (by omega) (by omega)).mono ?_
  rw [hd.out]
  rintro e w0 ⟨hBc, rfl⟩
  go_wp2_with fail
  have HRB := hide hR
  clear hR
  go_loopw [6, 8, 9] (fun a v i wr => ∃ (k at_ : Nat) (acc : List Int), k ≤ m ∧ i = .int .i64 (k : Int) ∧ a = .int .i64 (at_ : Int) ∧ at_ ≤ n ∧ acc.length = k ∧ wr.ownsRow w.heap.size 3 1 v acc.length (iv acc) ∧ Below w.heap.size w wr ∧
      Hid (r = more acc at_ (decN decInt (m - k) (l.drop at_))))
    (fun _ _ i _ => m - (intOf i).toNat)
  case atStart =>
    exact ⟨0, u, [], Nat.zero_le _, rfl, rfl, by omega, rfl, World.ownsRow_nil _ _ _ _, hBc, hr⟩
  case round =>
    obtain ⟨k, at_, acc, hk, rfl, rfl, hat, hacc, hown, hB, hrr⟩ := hrel
    have HA := hide hacc
    clear hacc
    by_cases hkm : k < m
    · have hcut := run_cut_from Try.underlying28 cel5 ino5 A n c (at_ : Int) (by omega) (by omega)
      rw [Int.toNat_natCast] at hcut
      have hR' := (HRB.out.below hB).cut (sz := 1) (n := n) (by rw [bv_length, HN.out]; omega) hnc at_ n (Nat.le_refl _)
      have e1 : (List.drop (at_ * 1) (bv l)).take ((n - at_) * 1) = bv (l.drop at_) := by
        rw [Nat.mul_one, Nat.mul_one, List.take_of_length_le (by rw [List.length_drop, bv_length, HN.out]; omega)]
        simp [bv]
      rw [e1] at hR'
      clear e1
      have HLL := hide (show n - at_ = (l.drop at_).length from by rw [List.length_drop, HN.out])
      generalize cutAt A c at_ 1 = A' at *
      cases hd2 : decInt (l.drop at_) with
      | error e =>
        have hE := dec_err hd2
        have hne : ((e : Int) != 0) = true := by rw [bne_iff_ne]; omega
        have HD := hide hd2
        have HR2 := hide (more_err (acc := acc) (at_ := at_) (j := m - k - 1) hd2)
        rw [show m - k - 1 + 1 = m - k from by omega] at HR2
        clear hd2 hE
        have hs2 := hB.size
        go_wp2_with fail
        refine (refGetInt_any A' (l.drop at_) (n - at_) (c - at_) _ HLL.out (by omega) hR').mono ?_
        rw [HD.out]
        rintro e' w2 ⟨rfl, hB2⟩
        simp only [resI]
        go_wp2
        go_ret3
        refine ⟨below_trans hB hB2 hs2, ?_⟩
        rw [hrr.out, HR2.out]
        rfl
      | ok res =>
        obtain ⟨x, v2⟩ := res
        have hv2 := (dec_bounds hd2).2.2.2
        rw [List.length_drop, ← HN.out] at hv2
        have HD := hide hd2
        have HR2 := hide (more_ok (acc := acc) (j := m - k - 1) hd2)
        rw [show m - k - 1 + 1 = m - k from by omega, show m - k - 1 = m - (k + 1) from by omega] at HR2
        clear hd2
        have hs2 := hB.size
        go_wp2_with fail
        refine (refGetInt_any A' (l.drop at_) (n - at_) (c - at_) _ HLL.out (by omega) hR').mono ?_
        rw [HD.out]
        rintro e' w2 ⟨rfl, hB2⟩
        have hown2 := own_kept hown hB2
        have hBB := below_trans hB hB2 hs2
        have hs3 := hBB.size
        clear hown hB hB2 hs2
        simp only [resI]
        go_wp2_with (at_builtin; refine wp_app1 (w0 := w) rfl (.tmp 38) (.tmp 40) 22 rfl w.heap.size (.int .i64 0) 8 Try.underlying22 inf3 rfl _ acc.length (iv acc) rfl hown2 rfl rfl (by have := HA.out; omega) (by have := HA.out; omega) hs3 hBB ?_; intro v' w3 ho3 hB3 _ _)
        go_roundw
        case rel =>
          exact ⟨k + 1, at_ + v2, acc ++ [x], by omega, by go_num, by go_num, by omega, by rw [List.length_append, HA.out]; rfl, by rw [iv_append, List.length_append]; exact ho3, hB3, HR2.out ▸ hrr⟩
        case measure => simp [intOf]; omega
    · obtain rfl : k = m := by omega
      go_wp2
      go_ret3
      rw [Nat.sub_self, more_done] at hrr
      refine ⟨hB, ?_⟩
      rw [hrr.out]
      exact ⟨_, _, rfl, hown⟩
/-- wire.GetStrings. -/
theorem rgetInts_any (A : Option Addr) (l : List UInt8) (n c : Nat) (w : World) (hn : n = l.length) (hnc : n ≤ c) (hR : Rd w A (bv l)) (hm : n ≤ 8796093022208) :
    Calls Try.prog 35 #[.slice A n c] w (GetPost w (mapOk iv (decList decInt 1 l)) 3 1) := by
  unfold decList
  cases hd : cnt l 1 with
  | error k =>
    have := cnt_err hd
    exact rgetInts_err A l n c k w hn hnc hR hm (hide hd) (by rw [bne_iff_ne]; omega)
  | ok r =>
    obtain ⟨m, u⟩ := r
    obtain ⟨h1, h2⟩ := cnt_ok hd
    obtain ⟨_, _, _, hu⟩ := dec_bounds h1
    rw [Nat.div_one] at h2
    exact rgetInts_ok A l n c m u w hn hnc hR (hide hd) (by omega) hm _ (hide (more_nil u _).symm)

set_option maxRecDepth 100000 in
set_option maxHeartbeats 400000 in
theorem rgetStrs_err (A : Option Addr) (l : List UInt8) (n c k : Nat) (w : World) (hn : n = l.length) (hnc : n ≤ c) (hR : Rd w A (bv l)) (hm : n ≤ 8796093022208) (hd : Hid (cnt l 1 = .error k)) (hk : ((k : Int) != 0) = true) :
    Calls Try.prog 38 #[.slice A n c] w (GetPost w (.error k) 9 1) := by
  have HN := hide hn
  clear hn
  go_enter Try.func38, Try.ntmps38
  go_wp2_with fail
  refine (rcount_any A l n c 1 _ HN.out hnc hR (by omega) (by omega) (by omega)).mono ?_
  rw [hd.out]
  rintro e w' ⟨hBc, a, b, rfl⟩
  go_wp2
  go_ret3
  exact ⟨hBc, rfl⟩
set_option maxRecDepth 100000 in
set_option maxHeartbeats 400000 in
theorem rgetStrs_ok (A : Option Addr) (l : List UInt8) (n c m u : Nat) (w : World) (hn : n = l.length) (hnc : n ≤ c) (hR : Rd w A (bv l)) (hd : Hid (cnt l 1 = .ok (m, u))) (hum : u + m ≤ n) (hm : n ≤ 8796093022208)
    (r : Except Nat (List (List UInt8) × Nat)) (hr : Hid (r = more [] u (decN decBytes m (l.drop u)))) :
    Calls Try.prog 38 #[.slice A n c] w (GetPost w (mapOk tv r) 9 1) := by
  have HN := hide hn
  clear hn
  go_enter Try.func38, Try.ntmps38
  go_wp2_with fail
  refine (rcount_any A l n c 1 _ HN.out hnc hR (by omega) (by omega) (by omega)).mono ?_
  rw [hd.out]
  rintro e w0 ⟨hBc, rfl⟩
  go_wp2_with fail
  have HRB := hide hR
  clear hR
  go_loopw [6, 8, 9] (fun a v i wr => ∃ (k at_ : Nat) (acc : List (List UInt8)), k ≤ m ∧ i = .int .i64 (k : Int) ∧ a = .int .i64 (at_ : Int) ∧ at_ ≤ n ∧ acc.length = k ∧ wr.ownsRow w.heap.size 9 1 v acc.length (tv acc) ∧ Below w.heap.size w wr ∧
      Hid (r = more acc at_ (decN decBytes (m - k) (l.drop at_))))
    (fun _ _ i _ => m - (intOf i).toNat)
  case atStart =>
    exact ⟨0, u, [], Nat.zero_le _, rfl, rfl, by omega, rfl, World.ownsRow_nil _ _ _ _, hBc, hr⟩
  case round =>
    obtain ⟨k, at_, acc, hk, rfl, rfl, hat, hacc, hown, hB, hrr⟩ := hrel
    have HA := hide hacc
    clear hacc
    by_cases hkm : k < m
    · have hcut := run_cut_from Try.underlying28 cel5 ino5 A n c (at_ : Int) (by omega) (by omega)
      rw [Int.toNat_natCast] at hcut
      have hR' := (HRB.out.below hB).cut (sz := 1) (n := n) (by rw [bv_length, HN.out]; omega) hnc at_ n (Nat.le_refl _)
      have e1 : (List.drop (at_ * 1) (bv l)).take ((n - at_) * 1) = bv (l.drop at_) := by
        rw [Nat.mul_one, Nat.mul_one, List.take_of_length_le (by rw [List.length_drop, bv_length, HN.out]; omega)]
        simp [bv]
      rw [e1] at hR'
      clear e1
      have HLL := hide (show n - at_ = (l.drop at_).length from by rw [List.length_drop, HN.out])
      generalize cutAt A c at_ 1 = A' at *
      cases hd2 : decBytes (l.drop at_) with
      | error e =>
        have hE := decBytes_err hd2
        have hne : ((e : Int) != 0) = true := by rw [bne_iff_ne]; omega
        have HD := hide hd2
        have HR2 := hide (more_err (acc := acc) (at_ := at_) (j := m - k - 1) hd2)
        rw [show m - k - 1 + 1 = m - k from by omega] at HR2
        clear hd2 hE
        have hs2 := hB.size
        go_wp2_with fail
        refine (rgetBytes_any A' (l.drop at_) (n - at_) (c - at_) _ HLL.out (by omega) hR' (by omega)).mono ?_
        rw [HD.out]
        rintro e' w2 ⟨rfl, hB2⟩
        simp only [resB]
        go_wp2
        go_ret3
        refine ⟨below_trans hB hB2 hs2, ?_⟩
        rw [hrr.out, HR2.out]
        rfl
      | ok res =>
        obtain ⟨x, v2⟩ := res
        have hv2 := decBytes_le hd2
        rw [List.length_drop, ← HN.out] at hv2
        have HD := hide hd2
        have HR2 := hide (more_ok (acc := acc) (j := m - k - 1) hd2)
        rw [show m - k - 1 + 1 = m - k from by omega, show m - k - 1 = m - (k + 1) from by omega] at HR2
        clear hd2
        have hs2 := hB.size
        go_wp2_with fail
        refine (rgetBytes_any A' (l.drop at_) (n - at_) (c - at_) _ HLL.out (by omega) hR' (by omega)).mono ?_
        rw [HD.out]
        rintro e' w2 ⟨rfl, hB2⟩
        have hown2 := own_kept hown hB2
        have hBB := below_trans hB hB2 hs2
        have hs3 := hBB.size
        clear hown hB hB2 hs2
        simp only [resB, str]
        go_wp2_with (at_builtin; refine wp_app1 (w0 := w) rfl (.tmp 38) (.tmp 40) 23 rfl w.heap.size (.string ⟨#[]⟩) 16 Try.underlying23 inf9 rfl _ acc.length (tv acc) rfl hown2 rfl rfl (by have := HA.out; omega) (by have := HA.out; omega) hs3 hBB ?_; intro v' w3 ho3 hB3 _ _)
        go_roundw
        case rel =>
          exact ⟨k + 1, at_ + v2, acc ++ [x], by omega, by go_num, by go_num, by omega, by rw [List.length_append, HA.out]; rfl, by rw [tv_append, List.length_append]; exact ho3, hB3, HR2.out ▸ hrr⟩
        case measure => simp [intOf]; omega
    · obtain rfl : k = m := by omega
      go_wp2
      go_ret3
      rw [Nat.sub_self, more_done] at hrr
      refine ⟨hB, ?_⟩
      rw [hrr.out]
      exact ⟨_, _, rfl, hown⟩
/-- wire.GetStrings. -/
theorem rgetStrs_any (A : Option Addr) (l : List UInt8) (n c : Nat) (w : World) (hn : n = l.length) (hnc : n ≤ c) (hR : Rd w A (bv l)) (hm : n ≤ 8796093022208) :
    Calls Try.prog 38 #[.slice A n c] w (GetPost w (mapOk tv (decList decBytes 1 l)) 9 1) := by
  unfold decList
  cases hd : cnt l 1 with
  | error k =>
    have := cnt_err hd
    exact rgetStrs_err A l n c k w hn hnc hR hm (hide hd) (by rw [bne_iff_ne]; omega)
  | ok r =>
    obtain ⟨m, u⟩ := r
    obtain ⟨h1, h2⟩ := cnt_ok hd
    obtain ⟨_, _, _, hu⟩ := dec_bounds h1
    rw [Nat.div_one] at h2
    exact rgetStrs_ok A l n c m u w hn hnc hR (hide hd) (by omega) hm _ (hide (more_nil u _).symm)
end Go.Proofs.Ytopppkafbbfobaa.W
