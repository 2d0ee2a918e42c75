/- wire.GetStrings. -/
import Derived.Test.YtopppkafbbfobaaC34
namespace Go.Proofs.Ytopppkafbbfobaa.W
open Go.RowKit

set_option maxRecDepth 100000 in
set_option maxHeartbeats 400000 in
theorem getStrs_err (A : Option Addr) (l : List UInt8) (n c k : Nat) (w : World) (hn : n = l.length) (hnc : n ≤ c) (hR : Rd w A (bv l)) (hd : Hid (cnt l 1 = .error k)) (hk : ((k : Int) != 0) = true) :
    Calls Try.prog 37 #[.slice A n c] w (GetPost w (.error k) 9 1) := by
  have HN := hide hn
  clear hn
  go_enter Try.func37, Try.ntmps37
  go_wp2_with fail
  refine (count_any A l n c 1 _ HN.out hnc hR (by omega) (by omega)).mono ?_
  rw [hd.out]
  rintro e w' ⟨rfl, a, b, rfl⟩
  go_wp2
  go_ret3
  exact ⟨Below.refl _ _, rfl⟩
theorem decBytes_le {b : List UInt8} {x : List UInt8} {u : Nat} (h : decBytes b = .ok (x, u)) : u ≤ b.length := by
  unfold decBytes at h
  split at h
  · cases h
  · rename_i n v hc
    simp only [Except.ok.injEq, Prod.mk.injEq] at h
    obtain ⟨h1, h2⟩ := cnt_ok hc
    obtain ⟨_, _, _, hu⟩ := dec_bounds h1
    rw [Nat.div_one] at h2
    omega

set_option maxRecDepth 100000 in
set_option maxHeartbeats 400000 in
theorem getStrs_ok (A : Option Addr) (l : List UInt8) (n c m u : Nat) (w : World) (hn : n = l.length) (hnc : n ≤ c) (hR : Rd w A (bv l)) (hd : Hid (cnt l 1 = .ok (m, u))) (hum : u + m ≤ n) (hm : n ≤ 8796093022208)
    (r : Except Nat (List (List UInt8) × Nat)) (hr : Hid (r = more [] u (decN decBytes m (l.drop u)))) :
    Calls Try.prog 37 #[.slice A n c] w (GetPost w (mapOk tv r) 9 1) := by
  have HN := hide hn
  clear hn
  go_enter Try.func37, Try.ntmps37
  go_wp2_with fail
  refine (count_any A l n c 1 _ HN.out hnc hR (by omega) (by omega)).mono ?_
  rw [hd.out]
  rintro e w' ⟨rfl, rfl⟩
  go_wp2_with fail
  have HRB := hide hR
  clear hR
  go_loopw [6, 8, 22] (fun a v i wr => ∃ (k at_ : Nat) (acc : List (List UInt8)), k ≤ m ∧ i = .int .i64 (k : Int) ∧ a = .int .i64 (at_ : Int) ∧ at_ ≤ n ∧ acc.length = k ∧ wr.ownsRow w.heap.size 9 1 v acc.length (tv acc) ∧ Below w.heap.size w wr ∧
      Hid (r = more acc at_ (decN decBytes (m - k) (l.drop at_))))
    (fun _ _ i _ => m - (intOf i).toNat)
  case atStart =>
    exact ⟨0, u, [], Nat.zero_le _, rfl, rfl, by omega, rfl, World.ownsRow_nil _ _ _ _, Below.refl _ _, hr⟩
  case round =>
    obtain ⟨k, at_, acc, hk, rfl, rfl, hat, hacc, hown, hB, hrr⟩ := hrel
    have HA := hide hacc
    clear hacc
    by_cases hkm : k < m
    · have hcut := run_cut_from Try.underlying28 cel5 ino5 A n c (at_ : Int) (by omega) (by omega)
      rw [Int.toNat_natCast] at hcut
      have hR' := (HRB.out.below hB).cut (sz := 1) (n := n) (by rw [bv_length, HN.out]; omega) hnc at_ n (Nat.le_refl _)
      have e1 : (List.drop (at_ * 1) (bv l)).take ((n - at_) * 1) = bv (l.drop at_) := by
        rw [Nat.mul_one, Nat.mul_one, List.take_of_length_le (by rw [List.length_drop, bv_length, HN.out]; omega)]
        simp [bv]
      rw [e1] at hR'
      clear e1
      have HLL := hide (show n - at_ = (l.drop at_).length from by rw [List.length_drop, HN.out])
      generalize cutAt A c at_ 1 = A' at *
      cases hd2 : decBytes (l.drop at_) with
      | error e =>
        have hE := decBytes_err hd2
        have hne : ((e : Int) != 0) = true := by rw [bne_iff_ne]; omega
        have HD := hide hd2
        have HR2 := hide (more_err (acc := acc) (at_ := at_) (j := m - k - 1) hd2)
        rw [show m - k - 1 + 1 = m - k from by omega] at HR2
        clear hd2 hE
        go_wp2_with fail
        refine (getBytes_any A' (l.drop at_) (n - at_) (c - at_) _ HLL.out (by omega) hR').mono ?_
        rw [HD.out]
        rintro e' w2 ⟨rfl, rfl⟩
        simp only [resB]
        go_wp2
        go_ret3
        refine ⟨hB, ?_⟩
        rw [hrr.out, HR2.out]
        rfl
      | ok res =>
        obtain ⟨x, v2⟩ := res
        have hv2 := decBytes_le hd2
        rw [List.length_drop, ← HN.out] at hv2
        have HD := hide hd2
        have HR2 := hide (more_ok (acc := acc) (j := m - k - 1) hd2)
        rw [show m - k - 1 + 1 = m - k from by omega, show m - k - 1 = m - (k + 1) from by omega] at HR2
        clear hd2
        have hs2 := hB.size
        go_wp2_with fail
        refine (getBytes_any A' (l.drop at_) (n - at_) (c - at_) _ HLL.out (by omega) hR').mono ?_
        rw [HD.out]
        rintro e' w2 ⟨rfl, rfl⟩
        simp only [resB, str]
        go_wp2_with (at_builtin; refine wp_app1 (w0 := w) rfl (.tmp 35) (.tmp 37) 23 rfl w.heap.size (.string ⟨#[]⟩) 16 Try.underlying23 inf9 rfl _ acc.length (tv acc) rfl hown rfl rfl (by have := HA.out; omega) (by have := HA.out; omega) hs2 hB ?_; intro v' w3 ho3 hB3 _ _)
        go_roundw
        case rel =>
          exact ⟨k + 1, at_ + v2, acc ++ [x], by omega, by go_num, by go_num, by omega, by rw [List.length_append, HA.out]; rfl, by rw [tv_append, List.length_append]; exact ho3, hB3, HR2.out ▸ hrr⟩
        case measure => simp [intOf]; omega
    · obtain rfl : k = m := by omega
      go_wp2
      go_ret3
      rw [Nat.sub_self, more_done] at hrr
      refine ⟨hB, ?_⟩
      rw [hrr.out]
      exact ⟨_, _, rfl, hown⟩
/-- wire.GetStrings. -/
theorem getStrs_any (A : Option Addr) (l : List UInt8) (n c : Nat) (w : World) (hn : n = l.length) (hnc : n ≤ c) (hR : Rd w A (bv l)) (hm : n ≤ 8796093022208) :
    Calls Try.prog 37 #[.slice A n c] w (GetPost w (mapOk tv (decList decBytes 1 l)) 9 1) := by
  unfold decList
  cases hd : cnt l 1 with
  | error k =>
    have := cnt_err hd
    exact getStrs_err A l n c k w hn hnc hR (hide hd) (by rw [bne_iff_ne]; omega)
  | ok r =>
    obtain ⟨m, u⟩ := r
    obtain ⟨h1, h2⟩ := cnt_ok hd
    obtain ⟨_, _, _, hu⟩ := dec_bounds h1
    rw [Nat.div_one] at h2
    exact getStrs_ok A l n c m u w hn hnc hR (hide hd) (by omega) hm _ (hide (more_nil u _).symm)
end Go.Proofs.Ytopppkafbbfobaa.W
