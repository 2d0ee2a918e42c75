/- wire.Digests and wire.GetDigests. -/
import Derived.Test.YtopppkafbbfobaaC37
import Derived.Test.YtopppkafbbfobaaB2
namespace Go.Proofs.Ytopppkafbbfobaa.W
open Go.RowKit

def encDigs (l : List (List UInt8)) : List UInt8 := encInt (l.length : Int) ++ l.flatten

set_option maxRecDepth 100000 in
set_option maxHeartbeats 400000 in
theorem digs_any (A : Option Addr) (l : List (List UInt8)) (n c : Nat) (w : World) (hn : n = l.length) (hR : Rd w A (dv l)) (h16 : D16 l) (hl : n ≤ 8000000000000) : Calls Try.prog 28 #[.slice A n c] w (RetB w (encDigs l)) := by
  have hIn : I64 (n : Int) := ⟨by omega, by omega⟩
  have HE := hide (show encDigs l = encInt (n : Int) ++ l.flatten from by rw [hn]; rfl)
  have HN := hide hn
  clear hn
  have h9 := encInt_le9 (n : Int)
  have HR := hide hR
  clear hR
  go_enter Try.func28, Try.ntmps28
  go_wp2_with fail
  refine (int_any _ hIn w).mono ?_
  rintro e w1 ⟨v, rfl, ho, hB⟩
  go_wp2_with fail
  go_loopw [3, 11] (fun v i wr => ∃ k : Nat, k ≤ n ∧ i = .int .i64 (k : Int) ∧ wr.ownsRow w.heap.size 5 1 v (encInt (n : Int) ++ (l.take k).flatten).length (bv (encInt (n : Int) ++ (l.take k).flatten)) ∧ Below w.heap.size w wr)
    (fun _ i _ => n - (intOf i).toNat)
  case atStart => exact ⟨0, Nat.zero_le _, rfl, by simpa using ho, hB⟩
  case round =>
    obtain ⟨k, hk, rfl, hown, hBr⟩ := hrel
    by_cases hkn : k < n
    · have hkl : k < l.length := by rw [← HN.out]; exact hkn
      obtain ⟨b, off, rfl, hc⟩ := HR.out.2 (by rw [dv_length l h16]; omega)
      have hx16 : (l.getD k []).length = 16 := h16 _ (by rw [List.getD_eq_getElem?_getD, List.getElem?_eq_getElem hkl]; exact List.getElem_mem _)
      have hc1 : ∀ j u, (bv (l.getD k []))[j]? = some u → wr.cell? ⟨b, off + k * 16 + j, none⟩ = some u := fun j u hu => by
        have h1 := hc _ u (dv_at l h16 k hkl j u hu)
        rw [← Nat.add_assoc] at h1
        exact (hBr.cell (World.block_lt_of_cell? w _ h1)).trans h1
      have HC := hide hc1
      have HT := hide (take_succ_get l k [] hkl)
      have hlen : (encInt (n : Int) ++ (l.take k).flatten).length ≤ 9 + k * 16 := by
        have h1 := flatten16 (l.take k) (fun d hd => h16 d (List.mem_of_mem_take hd))
        rw [List.length_take] at h1
        rw [List.length_append]
        omega
      have H16 := hide hx16
      generalize l.getD k [] = x at *
      have hbz := hBr.size
      clear hc hc1 hx16 ho hB
      go_wp2_with (first | (with_reducible show wpList _ _ _ (⟨some 14, _, _, _, _, _⟩ :: _) _ _; go_loud (refine wp_load_agg rfl 90 (.tmp 13) rfl b (off + k * 16) rfl (bv x) _ HC.out Try.underlying90 rfl (by rw [bv_length, H16.out]; exact inf90) ?_)) | (with_reducible show wpList _ _ _ (⟨none, .store _ _ _, _, _, _, _⟩ :: _) _ _; go_loud (refine wp_store_new rfl 90 (.tmp 5) (.tmp 14) rfl (bv x).toArray rfl rfl (by rw [List.size_toArray, bv_length, H16.out]; exact inf90) (by simp [bv_length, H16.out]) (bv_all x) ?_)) | (at_builtin; go_loud (refine wp_app (w0 := w) rfl (.tmp 15) (.tmp 16) 28 rfl w.heap.size 5 (.int .u8 0) 1 1 Try.underlying28 inf5 rfl (by decide) _ (encInt (n : Int) ++ (l.take k).flatten).length (bv (encInt (n : Int) ++ (l.take k).flatten)) rfl (hown.alloc _) (some ⟨wr.heap.size, 0, none⟩) 16 16 (bv x) rfl (by rw [bv_length, H16.out]) (rd_block wr (bv x) 90 (by rw [bv_length, H16.out]; omega)) (bv_one _) (by omega) (by omega) (by simp; omega) (hBr.alloc hbz _) ?_); intro v' w' ho' hB' _ _))
      go_roundw
      case rel => exact ⟨k + 1, by omega, by go_num, by rw [HT.out, List.flatten_append, ← List.append_assoc, bv_append, List.length_append, List.flatten_cons, List.flatten_nil, List.append_nil, H16.out]; exact ho', hB'⟩
      case measure => simp [intOf]; omega
    · obtain rfl : k = n := by omega
      go_wp2
      go_ret
      exact ⟨_, rfl, by rw [HE.out]; rw [List.take_of_length_le (by rw [HN.out]; exact Nat.le_refl _)] at hown; exact hown, hBr⟩

/-- The next digest. -/
def decDig (b : List UInt8) : Except Nat (List UInt8 × Nat) := .ok (b.take 16, 16)

set_option maxRecDepth 100000 in
set_option maxHeartbeats 400000 in
theorem getDigs_err (A : Option Addr) (l : List UInt8) (n c k : Nat) (w : World) (hn : n = l.length) (hnc : n ≤ c) (hR : Rd w A (bv l)) (hd : Hid (cnt l 16 = .error k)) (hk : ((k : Int) != 0) = true) :
    Calls Try.prog 40 #[.slice A n c] w (GetPost w (.error k) 90 16) := by
  have HN := hide hn
  clear hn
  go_enter Try.func40, Try.ntmps40
  go_wp2_with fail
  refine (count_any A l n c 16 _ HN.out hnc hR (by omega) (by omega)).mono ?_
  rw [hd.out]
  rintro e w' ⟨rfl, a, b, rfl⟩
  go_wp2
  go_ret3
  exact ⟨Below.refl _ _, rfl⟩

set_option maxRecDepth 100000 in
set_option maxHeartbeats 400000 in
theorem getDigs_ok (A : Option Addr) (l : List UInt8) (n c m u : Nat) (w : World) (hn : n = l.length) (hnc : n ≤ c) (hR : Rd w A (bv l)) (hd : Hid (cnt l 16 = .ok (m, u))) (hum : u + m * 16 ≤ n) (hm : n ≤ 8796093022208)
    (r : Except Nat (List (List UInt8) × Nat)) (hr : Hid (r = more [] u (decN decDig m (l.drop u)))) :
    Calls Try.prog 40 #[.slice A n c] w (GetPost w (mapOk dv r) 90 16) := by
  have HN := hide hn
  clear hn
  go_enter Try.func40, Try.ntmps40
  go_wp2_with fail
  refine (count_any A l n c 16 _ HN.out hnc hR (by omega) (by omega)).mono ?_
  rw [hd.out]
  rintro e w' ⟨rfl, rfl⟩
  go_wp2_with fail
  have HRB := hide hR
  clear hR
  go_loopw [6, 8, 19] (fun a v i wr => ∃ (k at_ : Nat) (acc : List (List UInt8)), k ≤ m ∧ i = .int .i64 (k : Int) ∧ a = .int .i64 (at_ : Int) ∧ at_ + (m - k) * 16 ≤ n ∧ Hid (acc.length = k) ∧ D16 acc ∧ wr.ownsRow w.heap.size 90 16 v acc.length (dv acc) ∧ Below w.heap.size w wr ∧
      Hid (r = more acc at_ (decN decDig (m - k) (l.drop at_))))
    (fun _ _ i _ => m - (intOf i).toNat)
  case atStart =>
    exact ⟨0, u, [], Nat.zero_le _, rfl, rfl, by omega, rfl, fun _ h => (by cases h), World.ownsRow_nil _ _ _ _, Below.refl _ _, hr⟩
  case round =>
    obtain ⟨k, at_, acc, hk, rfl, rfl, hat, HA, h16, hown, hB, hrr⟩ := hrel
    by_cases hkm : k < m
    · have hat16 : at_ + 16 ≤ n := by omega
      have hcut := run_cut Try.underlying28 cel5 ino5 A n c (at_ : Int) ((at_ : Int) + 16) (by omega) (by omega) (by omega)
      rw [show ((at_ : Int) + 16).toNat - (at_ : Int).toNat = 16 from by omega, Int.toNat_natCast] at hcut
      have hR' := (HRB.out.below hB).cut (sz := 1) (n := n) (by rw [bv_length, HN.out]; omega) hnc at_ (at_ + 16) hat16
      have e1 : (List.drop (at_ * 1) (bv l)).take ((at_ + 16 - at_) * 1) = bv ((l.drop at_).take 16) := by
        rw [Nat.mul_one, Nat.mul_one, Nat.add_sub_cancel_left]
        simp [bv, List.map_take, List.map_drop]
      rw [e1] at hR'
      clear e1
      have hlen : ((l.drop at_).take 16).length = 16 := by rw [List.length_take, List.length_drop, ← HN.out]; omega
      obtain ⟨b', off', hA', hc'⟩ := hR'.2 (by rw [bv_length, hlen]; omega)
      rw [hA'] at hcut
      have HC := hide hc'
      have HR2 := hide (more_ok (acc := acc) (d := decDig) (j := m - k - 1) (at_ := at_) (l := l) rfl)
      rw [show m - k - 1 + 1 = m - k from by omega, show m - k - 1 = m - (k + 1) from by omega] at HR2
      have HL := hide hlen
      have hs2 := hB.size
      generalize (l.drop at_).take 16 = x at *
      clear hc' hlen hA' hR'
      go_wp2_with (first | (with_reducible show wpList _ _ _ (⟨some 27, _, _, _, _, _⟩ :: _) _ _; go_loud (refine wp_arr rfl 90 (.tmp 26) rfl _ 16 _ 16 5 rfl Try.underlying90 (Nat.le_refl _) ?_)) | (with_reducible show wpList _ _ _ (⟨some 28, _, _, _, _, _⟩ :: _) _ _; go_loud (refine wp_load_agg rfl 90 (.tmp 27) rfl b' off' rfl (bv x) _ HC.out Try.underlying90 rfl (by rw [bv_length, HL.out]; exact inf90) ?_)) | (with_reducible show wpList _ _ _ (⟨some 29, _, _, _, _, _⟩ :: _) _ _; go_loud (refine wp_slice1 rfl 24 90 (.tmp 28) rfl (bv x).toArray rfl _ 16 Try.underlying24 (by rw [List.size_toArray, bv_length, HL.out]; exact info90) (by simp [bv_length, HL.out]) (by simp [bv_length, HL.out]) ?_)) | (at_builtin; go_loud (refine wp_app (w0 := w) rfl (.tmp 21) (.tmp 29) 24 rfl w.heap.size 90 _ 16 16 Try.underlying24 info90 rfl (by decide) _ acc.length (dv acc) rfl (hown.alloc _) (some ⟨wr.heap.size, 0, none⟩) 1 1 (bv x) rfl (by rw [bv_length, HL.out]) (rd_block wr (bv x) 90 (by rw [bv_length, HL.out]; omega)) (bv_one _) (by have := HA.out; omega) (by have := HA.out; omega) (by simp; omega) (hB.alloc hs2 _) ?_); intro v' w' ho' hB' _ _))
      go_roundw
      case rel =>
        refine ⟨k + 1, at_ + 16, acc ++ [x], by omega, by go_num, by go_num, by omega, by show _ = _; rw [List.length_append, HA.out]; rfl, ?_, by rw [dv_append, List.length_append]; simpa [dv] using ho', hB', HR2.out ▸ hrr⟩
        intro d hd
        rcases List.mem_append.1 hd with h | h
        · exact h16 d h
        · rw [List.mem_singleton] at h; rw [h]; exact HL.out
      case measure => simp [intOf]; omega
    · obtain rfl : k = m := by omega
      go_wp2
      go_ret3
      rw [Nat.sub_self, more_done] at hrr
      refine ⟨hB, ?_⟩
      rw [hrr.out]
      exact ⟨_, _, rfl, hown⟩
/-- wire.GetDigests. -/
theorem getDigs_any (A : Option Addr) (l : List UInt8) (n c : Nat) (w : World) (hn : n = l.length) (hnc : n ≤ c) (hR : Rd w A (bv l)) (hm : n ≤ 8796093022208) :
    Calls Try.prog 40 #[.slice A n c] w (GetPost w (mapOk dv (decList decDig 16 l)) 90 16) := by
  unfold decList
  cases hd : cnt l 16 with
  | error k =>
    have := cnt_err hd
    exact getDigs_err A l n c k w hn hnc hR (hide hd) (by rw [bne_iff_ne]; omega)
  | ok r =>
    obtain ⟨m, u⟩ := r
    obtain ⟨h1, h2⟩ := cnt_ok hd
    obtain ⟨_, _, _, hu⟩ := dec_bounds h1
    have : m * 16 ≤ l.length - u := by omega
    exact getDigs_ok A l n c m u w hn hnc hR (hide hd) (by omega) hm _ (hide (more_nil u _).symm)
end Go.Proofs.Ytopppkafbbfobaa.W
