/- wire.Ints and wire.Strings. -/
import Derived.Test.YtopppkafbbfobaaC22
namespace Go.Proofs.Ytopppkafbbfobaa.W
open Go.RowKit

def encInts (l : List Int) : List UInt8 := encInt (l.length : Int) ++ l.flatMap encInt
def encStrs (l : List (List UInt8)) : List UInt8 := encInt (l.length : Int) ++ l.flatMap encBytes
theorem iv_getElem? (l : List Int) (j : Nat) (h : j < l.length) : (iv l)[j]? = some (.int .i64 (l.getD j 0)) := by
  simp [iv, List.getElem?_eq_getElem h, List.getD_eq_getElem?_getD]
theorem take_succ_get {α : Type} (l : List α) (j : Nat) (d : α) (h : j < l.length) : l.take (j + 1) = l.take j ++ [l.getD j d] := by
  rw [List.take_succ_eq_append_getElem h]
  simp [List.getD_eq_getElem?_getD, List.getElem?_eq_getElem h]
theorem encInt_le9 (n : Int) : (encInt n).length ≤ 9 := by
  have hel := encInt_length n
  have hnb := nb_le (mag n)
  omega
theorem flat_le (l : List Int) : (l.flatMap encInt).length ≤ 9 * l.length := by
  induction l with
  | nil => simp
  | cons a l ih =>
    have := encInt_le9 a
    simp only [List.flatMap_cons, List.length_append, List.length_cons]
    omega

set_option maxRecDepth 100000 in
set_option maxHeartbeats 400000 in
theorem ints_any (A : Option Addr) (l : List Int) (n c : Nat) (w : World) (hn : n = l.length) (hR : Rd w A (iv l)) (hI : ∀ x ∈ l, I64 x) (hl : n ≤ 15000000000000) : Calls Try.prog 24 #[.slice A n c] w (RetB w (encInts l)) := by
  have hIn : I64 (n : Int) := ⟨by omega, by omega⟩
  have HE := hide (show encInts l = encInt (n : Int) ++ l.flatMap encInt from by rw [hn]; rfl)
  have HN := hide hn
  clear hn
  have h9 := encInt_le9 (n : Int)
  go_enter Try.func24, Try.ntmps24
  go_wp2_with fail
  refine (int_any _ hIn w).mono ?_
  rintro e w1 ⟨v, rfl, ho, hB⟩
  go_wp2_with fail
  have hsz0 := hB.size
  have HR := hide hR
  clear hR
  go_loopw [3, 11] (fun v i wr => ∃ k : Nat, k ≤ n ∧ i = .int .i64 (k : Int) ∧ wr.ownsRow w.heap.size 5 1 v (encInt (n : Int) ++ (l.take k).flatMap encInt).length (bv (encInt (n : Int) ++ (l.take k).flatMap encInt)) ∧ Below w.heap.size w wr)
    (fun _ i _ => n - (intOf i).toNat)
  case atStart => exact ⟨0, Nat.zero_le _, rfl, by simpa using ho, hB⟩
  case round =>
    obtain ⟨k, hk, rfl, hown, hBr⟩ := hrel
    by_cases hkn : k < n
    · obtain ⟨b, off, rfl, hc⟩ := HR.out.2 (by rw [iv_length, ← HN.out]; omega)
      have hc1 := (hBr.cell (World.block_lt_of_cell? w ⟨b, off + k, none⟩ (hc k _ (iv_getElem? l k (by rw [← HN.out]; exact hkn))))).trans (hc k _ (iv_getElem? l k (by rw [← HN.out]; exact hkn)))
      have hxI : I64 (l.getD k 0) := hI _ (by rw [List.getD_eq_getElem?_getD, List.getElem?_eq_getElem (by rw [← HN.out]; exact hkn)]; exact List.getElem_mem _)
      have HT := hide (take_succ_get l k 0 (by rw [← HN.out]; exact hkn))
      generalize l.getD k 0 = x at *
      clear hc
      go_wp2_with fail
      refine (int_any x hxI _).mono ?_
      rintro e w2 ⟨v2, rfl, ho2, hB2⟩
      have h92 := encInt_le9 x
      obtain ⟨A2, c2, rfl, hR2, _⟩ := Rd.of_own ho2 (by rw [bv_length]; omega)
      have hbz := hBr.size
      have hown2 := own_kept hown hB2
      have hBB := below_trans hBr hB2 hbz
      have hbz2 := hBB.size
      have hlen : (encInt (n : Int) ++ (l.take k).flatMap encInt).length ≤ 9 + 9 * k := by
        have h1 := flat_le (l.take k)
        have h2 : (l.take k).length ≤ k := List.length_take_le _ _
        rw [List.length_append]
        omega
      clear hown ho hB ho2 hBr hB2
      go_wp2_with (at_builtin; refine wp_app (w0 := w) rfl (.tmp 15) (.tmp 17) 28 rfl w.heap.size 5 (.int .u8 0) 1 1 Try.underlying28 inf5 rfl (by decide) _ (encInt (n : Int) ++ (l.take k).flatMap encInt).length (bv (encInt (n : Int) ++ (l.take k).flatMap encInt)) rfl hown2 A2 (encInt x).length c2 (bv (encInt x)) rfl (by rw [bv_length, Nat.mul_one]) hR2 (bv_one _) (by omega) (by omega) hbz2 hBB ?_; intro v' w' ho' hB' _ _)
      go_roundw
      case rel => exact ⟨k + 1, by omega, by go_num, by rw [HT.out, List.flatMap_append, ← List.append_assoc, bv_append, List.length_append]; simpa using ho', hB'⟩
      case measure => simp [intOf]; omega
    · obtain rfl : k = n := by omega
      go_wp2
      go_ret
      exact ⟨_, rfl, by rw [HE.out]; rw [List.take_of_length_le (by rw [HN.out]; exact Nat.le_refl _)] at hown; exact hown, hBr⟩
/-- The cells of texts. -/
def tv (l : List (List UInt8)) : List Value := l.map str
theorem tv_length (l : List (List UInt8)) : (tv l).length = l.length := by simp [tv]
theorem tv_append (a b : List (List UInt8)) : tv (a ++ b) = tv a ++ tv b := by simp [tv]
theorem tv_one (l : List (List UInt8)) : ∀ u ∈ tv l, u.oneCell' = true := by
  intro u hu; obtain ⟨_, _, rfl⟩ := List.mem_map.1 hu; rfl
theorem tv_getElem? (l : List (List UInt8)) (j : Nat) (h : j < l.length) : (tv l)[j]? = some (str (l.getD j [])) := by
  simp [tv, List.getElem?_eq_getElem h, List.getD_eq_getElem?_getD]
theorem flat_ge (l : List (List UInt8)) : l.length ≤ (l.flatMap encBytes).length := by
  induction l with
  | nil => simp
  | cons a l ih =>
    have := encInt_length (a.length : Int)
    simp only [List.flatMap_cons, List.length_append, List.length_cons, encBytes]
    omega
theorem flat_take (l : List (List UInt8)) (k : Nat) : ((l.take k).flatMap encBytes).length ≤ (l.flatMap encBytes).length := by
  conv => rhs; rw [← List.take_append_drop k l, List.flatMap_append, List.length_append]
  omega

set_option maxRecDepth 100000 in
set_option maxHeartbeats 400000 in
theorem strs_any (A : Option Addr) (l : List (List UInt8)) (n c : Nat) (w : World) (hn : n = l.length) (hR : Rd w A (tv l)) (hl : (encStrs l).length ≤ 140737488355000) : Calls Try.prog 26 #[.slice A n c] w (RetB w (encStrs l)) := by
  have hnl : n ≤ 140737488355000 := by
    have := flat_ge l
    simp only [encStrs, List.length_append] at hl
    omega
  have hIn : I64 (n : Int) := ⟨by omega, by omega⟩
  have HE := hide (show encStrs l = encInt (n : Int) ++ l.flatMap encBytes from by rw [hn]; rfl)
  have HN := hide hn
  clear hn
  have h9 := encInt_le9 (n : Int)
  have HL := hide (show (encInt (n : Int)).length + (l.flatMap encBytes).length ≤ 140737488355000 from by rw [HE.out, List.length_append] at hl; exact hl)
  clear hl
  go_enter Try.func26, Try.ntmps26
  go_wp2_with fail
  refine (int_any _ hIn w).mono ?_
  rintro e w1 ⟨v, rfl, ho, hB⟩
  go_wp2_with fail
  have hsz0 := hB.size
  have HR := hide hR
  clear hR
  go_loopw [3, 11] (fun v i wr => ∃ k : Nat, k ≤ n ∧ i = .int .i64 (k : Int) ∧ wr.ownsRow w.heap.size 5 1 v (encInt (n : Int) ++ (l.take k).flatMap encBytes).length (bv (encInt (n : Int) ++ (l.take k).flatMap encBytes)) ∧ Below w.heap.size w wr)
    (fun _ i _ => n - (intOf i).toNat)
  case atStart => exact ⟨0, Nat.zero_le _, rfl, by simpa using ho, hB⟩
  case round =>
    obtain ⟨k, hk, rfl, hown, hBr⟩ := hrel
    by_cases hkn : k < n
    · obtain ⟨b, off, rfl, hc⟩ := HR.out.2 (by rw [tv_length, ← HN.out]; omega)
      have hc1 := (hBr.cell (World.block_lt_of_cell? w ⟨b, off + k, none⟩ (hc k _ (tv_getElem? l k (by rw [← HN.out]; exact hkn))))).trans (hc k _ (tv_getElem? l k (by rw [← HN.out]; exact hkn)))
      have htot := flat_take l (k + 1)
      rw [take_succ_get l k [] (by rw [← HN.out]; exact hkn), List.flatMap_append, List.length_append, List.flatMap_cons, List.flatMap_nil, List.append_nil] at htot
      have hT := HL.out
      have hbl : (encBytes (l.getD k [])).length = (encInt ((l.getD k []).length : Int)).length + (l.getD k []).length := by simp [encBytes]
      have HT := hide (take_succ_get l k [] (by rw [← HN.out]; exact hkn))
      generalize l.getD k [] = x at *
      clear hc
      go_wp2_with fail
      refine (bytes_any x (by omega) _).mono ?_
      rintro e w2 ⟨v2, rfl, ho2, hB2⟩
      obtain ⟨A2, c2, rfl, hR2, _⟩ := Rd.of_own ho2 (by rw [bv_length]; omega)
      have hbz := hBr.size
      have hown2 := own_kept hown hB2
      have hBB := below_trans hBr hB2 hbz
      have hbz2 := hBB.size
      have hlen : (encInt (n : Int) ++ (l.take k).flatMap encBytes).length + (encBytes x).length ≤ 140737488355328 := by
        rw [List.length_append]
        omega
      clear hown ho hB ho2 hBr hB2 hbl htot hT
      go_wp2_with (at_builtin; refine wp_app (w0 := w) rfl (.tmp 15) (.tmp 17) 28 rfl w.heap.size 5 (.int .u8 0) 1 1 Try.underlying28 inf5 rfl (by decide) _ (encInt (n : Int) ++ (l.take k).flatMap encBytes).length (bv (encInt (n : Int) ++ (l.take k).flatMap encBytes)) rfl hown2 A2 (encBytes x).length c2 (bv (encBytes x)) rfl (by rw [bv_length, Nat.mul_one]) hR2 (bv_one _) (by omega) (by omega) hbz2 hBB ?_; intro v' w' ho' hB' _ _)
      go_roundw
      case rel => exact ⟨k + 1, by omega, by go_num, by rw [HT.out, List.flatMap_append, ← List.append_assoc, bv_append, List.length_append]; simpa using ho', hB'⟩
      case measure => simp [intOf]; omega
    · obtain rfl : k = n := by omega
      go_wp2
      go_ret
      exact ⟨_, rfl, by rw [HE.out]; rw [List.take_of_length_le (by rw [HN.out]; exact Nat.le_refl _)] at hown; exact hown, hBr⟩
end Go.Proofs.Ytopppkafbbfobaa.W
