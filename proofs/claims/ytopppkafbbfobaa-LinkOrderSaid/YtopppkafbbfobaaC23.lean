/- The reference's Bytes, Ints and Strings. -/
import Derived.Test.YtopppkafbbfobaaC65
import Derived.Test.YtopppkafbbfobaaC24
import Derived.Laws.IdiomStrings
namespace Go.Proofs.Ytopppkafbbfobaa.W
open Go.RowKit

/-- A text's bytes, laid anew. -/
theorem run_tobytes (l : List UInt8) (hl : l.length ≤ 9223372036854775807) (w : World) : ∃ c w', (convert 9 28 (.string ⟨l.toArray⟩)).run Try.prog w = .ok (.slice (some ⟨w.heap.size, 0, none⟩) l.length c) w' ∧ Below w.heap.size w w' ∧ Rd w' (some ⟨w.heap.size, 0, none⟩) (bv l) := by
  refine ⟨_, _, run_bytes_of_string w 9 28 5 ⟨l.toArray⟩ Try.underlying9 Try.underlying28 Try.underlying5, ?_, ?_⟩
  · have h0 := Below.refl w.heap.size w
    have hb : Below w.heap.size w w.drew := ⟨h0.os, h0.tape, h0.output, h0.size, h0.block⟩
    exact hb.alloc (Nat.le_refl _) _
  · refine ⟨by rw [bv_length]; exact hl, fun h => ⟨_, 0, rfl, fun j u hu => ?_⟩⟩
    rw [Nat.zero_add]
    have hj : j < l.length := by
      have := (List.getElem?_eq_some_iff.1 hu).1
      rwa [bv_length] at this
    rw [show w.heap.size = w.drew.heap.size from rfl, World.cell?_alloc_mark, bytesRow_at _ _ _ (by simpa using hj), ← hu, bv_getElem? l j hj]
    simp [List.getD_eq_getElem?_getD, List.getElem?_eq_getElem hj]

set_option maxRecDepth 100000 in
set_option maxHeartbeats 400000 in
theorem rbytes_any (l : List UInt8) (hl : l.length ≤ 140737488355000) (w : World) : Calls Try.prog 23 #[str l] w (RetB w (encBytes l)) := by
  have hI : I64 (l.length : Int) := ⟨by omega, by omega⟩
  have hel := encInt_length (l.length : Int)
  have hnb := nb_le (mag (l.length : Int))
  have h9 : (encInt (l.length : Int)).length ≤ 9 := by omega
  clear hel hnb
  unfold str
  go_enter Try.func23, Try.ntmps23
  go_wp2_with fail
  refine (refInt_any _ hI w).mono ?_
  rintro e w1 ⟨v, rfl, ho, hB⟩
  obtain ⟨c2, w2, hcv, hB2, hR2⟩ := run_tobytes l (by omega) w1
  have hbz := hB.size
  have hBB := below_trans hB hB2 hbz
  have hbz2 := hBB.size
  have ho2 := own_kept ho hB2
  clear ho hB hB2
  go_wp2_with (at_builtin; refine wp_app (w0 := w) rfl (.tmp 5) (.tmp 7) 28 rfl w.heap.size 5 (.int .u8 0) 1 1 Try.underlying28 inf5 rfl (by decide) _ (encInt (l.length : Int)).length (bv (encInt (l.length : Int))) rfl ho2 (some ⟨w1.heap.size, 0, none⟩) l.length c2 (bv l) rfl (by rw [bv_length, Nat.mul_one]) hR2 (bv_one _) (by omega) (by omega) hbz2 hBB ?_; intro v' w' ho' hB' _ _)
  go_ret
  exact ⟨_, rfl, by rw [encBytes, List.length_append, bv_append]; simpa using ho', hB'⟩
set_option maxRecDepth 100000 in
set_option maxHeartbeats 400000 in
theorem rints_any (A : Option Addr) (l : List Int) (n c : Nat) (w : World) (hn : n = l.length) (hR : Rd w A (iv l)) (hI : ∀ x ∈ l, I64 x) (hl : n ≤ 15000000000000) : Calls Try.prog 25 #[.slice A n c] w (RetB w (encInts l)) := by
  have hIn : I64 (n : Int) := ⟨by omega, by omega⟩
  have HE := hide (show encInts l = encInt (n : Int) ++ l.flatMap encInt from by rw [hn]; rfl)
  have HN := hide hn
  clear hn
  have h9 := encInt_le9 (n : Int)
  go_enter Try.func25, Try.ntmps25
  go_wp2_with fail
  refine (refInt_any _ hIn w).mono ?_
  rintro e w1 ⟨v, rfl, ho, hB⟩
  go_wp2_with fail
  have hsz0 := hB.size
  have HR := hide hR
  clear hR
  go_loopw [3, 4] (fun v i wr => ∃ k : Nat, k ≤ n ∧ i = .int .i64 (k : Int) ∧ wr.ownsRow w.heap.size 5 1 v (encInt (n : Int) ++ (l.take k).flatMap encInt).length (bv (encInt (n : Int) ++ (l.take k).flatMap encInt)) ∧ Below w.heap.size w wr)
    (fun _ i _ => n - (intOf i).toNat)
  case atStart => exact ⟨0, Nat.zero_le _, rfl, by simpa using ho, hB⟩
  case round =>
    obtain ⟨k, hk, rfl, hown, hBr⟩ := hrel
    by_cases hkn : k < n
    · obtain ⟨b, off, rfl, hc⟩ := HR.out.2 (by rw [iv_length, ← HN.out]; omega)
      have hc1 := (hBr.cell (World.block_lt_of_cell? w ⟨b, off + k, none⟩ (hc k _ (iv_getElem? l k (by rw [← HN.out]; exact hkn))))).trans (hc k _ (iv_getElem? l k (by rw [← HN.out]; exact hkn)))
      have hxI : I64 (l.getD k 0) := hI _ (by rw [List.getD_eq_getElem?_getD, List.getElem?_eq_getElem (by rw [← HN.out]; exact hkn)]; exact List.getElem_mem _)
      have HT := hide (take_succ_get l k 0 (by rw [← HN.out]; exact hkn))
      generalize l.getD k 0 = x at *
      clear hc
      go_wp2_with fail
      refine (refInt_any x hxI _).mono ?_
      rintro e w2 ⟨v2, rfl, ho2, hB2⟩
      have h92 := encInt_le9 x
      obtain ⟨A2, c2, rfl, hR2, _⟩ := Rd.of_own ho2 (by rw [bv_length]; omega)
      have hbz := hBr.size
      have hown2 := own_kept hown hB2
      have hBB := below_trans hBr hB2 hbz
      have hbz2 := hBB.size
      have hlen : (encInt (n : Int) ++ (l.take k).flatMap encInt).length ≤ 9 + 9 * k := by
        have h1 := flat_le (l.take k)
        have h2 : (l.take k).length ≤ k := List.length_take_le _ _
        rw [List.length_append]
        omega
      clear hown ho hB ho2 hBr hB2
      go_wp2_with (at_builtin; refine wp_app (w0 := w) rfl (.tmp 14) (.tmp 19) 28 rfl w.heap.size 5 (.int .u8 0) 1 1 Try.underlying28 inf5 rfl (by decide) _ (encInt (n : Int) ++ (l.take k).flatMap encInt).length (bv (encInt (n : Int) ++ (l.take k).flatMap encInt)) rfl hown2 A2 (encInt x).length c2 (bv (encInt x)) rfl (by rw [bv_length, Nat.mul_one]) hR2 (bv_one _) (by omega) (by omega) hbz2 hBB ?_; intro v' w' ho' hB' _ _)
      go_roundw
      case rel => exact ⟨k + 1, by omega, by go_num, by rw [HT.out, List.flatMap_append, ← List.append_assoc, bv_append, List.length_append]; simpa using ho', hB'⟩
      case measure => simp [intOf]; omega
    · obtain rfl : k = n := by omega
      go_wp2
      go_ret
      exact ⟨_, rfl, by rw [HE.out]; rw [List.take_of_length_le (by rw [HN.out]; exact Nat.le_refl _)] at hown; exact hown, hBr⟩
set_option maxRecDepth 100000 in
set_option maxHeartbeats 400000 in
theorem rstrs_any (A : Option Addr) (l : List (List UInt8)) (n c : Nat) (w : World) (hn : n = l.length) (hR : Rd w A (tv l)) (hl : (encStrs l).length ≤ 140737488355000) : Calls Try.prog 27 #[.slice A n c] w (RetB w (encStrs l)) := by
  have hnl : n ≤ 140737488355000 := by
    have := flat_ge l
    simp only [encStrs, List.length_append] at hl
    omega
  have hIn : I64 (n : Int) := ⟨by omega, by omega⟩
  have HE := hide (show encStrs l = encInt (n : Int) ++ l.flatMap encBytes from by rw [hn]; rfl)
  have HN := hide hn
  clear hn
  have h9 := encInt_le9 (n : Int)
  have HL := hide (show (encInt (n : Int)).length + (l.flatMap encBytes).length ≤ 140737488355000 from by rw [HE.out, List.length_append] at hl; exact hl)
  clear hl
  go_enter Try.func27, Try.ntmps27
  go_wp2_with fail
  refine (refInt_any _ hIn w).mono ?_
  rintro e w1 ⟨v, rfl, ho, hB⟩
  go_wp2_with fail
  have hsz0 := hB.size
  have HR := hide hR
  clear hR
  go_loopw [3, 4] (fun v i wr => ∃ k : Nat, k ≤ n ∧ i = .int .i64 (k : Int) ∧ wr.ownsRow w.heap.size 5 1 v (encInt (n : Int) ++ (l.take k).flatMap encBytes).length (bv (encInt (n : Int) ++ (l.take k).flatMap encBytes)) ∧ Below w.heap.size w wr)
    (fun _ i _ => n - (intOf i).toNat)
  case atStart => exact ⟨0, Nat.zero_le _, rfl, by simpa using ho, hB⟩
  case round =>
    obtain ⟨k, hk, rfl, hown, hBr⟩ := hrel
    by_cases hkn : k < n
    · obtain ⟨b, off, rfl, hc⟩ := HR.out.2 (by rw [tv_length, ← HN.out]; omega)
      have hc1 := (hBr.cell (World.block_lt_of_cell? w ⟨b, off + k, none⟩ (hc k _ (tv_getElem? l k (by rw [← HN.out]; exact hkn))))).trans (hc k _ (tv_getElem? l k (by rw [← HN.out]; exact hkn)))
      have htot := flat_take l (k + 1)
      rw [take_succ_get l k [] (by rw [← HN.out]; exact hkn), List.flatMap_append, List.length_append, List.flatMap_cons, List.flatMap_nil, List.append_nil] at htot
      have hT := HL.out
      have hbl : (encBytes (l.getD k [])).length = (encInt ((l.getD k []).length : Int)).length + (l.getD k []).length := by simp [encBytes]
      have HT := hide (take_succ_get l k [] (by rw [← HN.out]; exact hkn))
      generalize l.getD k [] = x at *
      clear hc
      go_wp2_with fail
      refine (rbytes_any x (by omega) _).mono ?_
      rintro e w2 ⟨v2, rfl, ho2, hB2⟩
      obtain ⟨A2, c2, rfl, hR2, _⟩ := Rd.of_own ho2 (by rw [bv_length]; omega)
      have hbz := hBr.size
      have hown2 := own_kept hown hB2
      have hBB := below_trans hBr hB2 hbz
      have hbz2 := hBB.size
      have hlen : (encInt (n : Int) ++ (l.take k).flatMap encBytes).length + (encBytes x).length ≤ 140737488355328 := by
        rw [List.length_append]
        omega
      clear hown ho hB ho2 hBr hB2 hbl htot hT
      go_wp2_with (at_builtin; refine wp_app (w0 := w) rfl (.tmp 14) (.tmp 19) 28 rfl w.heap.size 5 (.int .u8 0) 1 1 Try.underlying28 inf5 rfl (by decide) _ (encInt (n : Int) ++ (l.take k).flatMap encBytes).length (bv (encInt (n : Int) ++ (l.take k).flatMap encBytes)) rfl hown2 A2 (encBytes x).length c2 (bv (encBytes x)) rfl (by rw [bv_length, Nat.mul_one]) hR2 (bv_one _) (by omega) (by omega) hbz2 hBB ?_; intro v' w' ho' hB' _ _)
      go_roundw
      case rel => exact ⟨k + 1, by omega, by go_num, by rw [HT.out, List.flatMap_append, ← List.append_assoc, bv_append, List.length_append]; simpa using ho', hB'⟩
      case measure => simp [intOf]; omega
    · obtain rfl : k = n := by omega
      go_wp2
      go_ret
      exact ⟨_, rfl, by rw [HE.out]; rw [List.take_of_length_le (by rw [HN.out]; exact Nat.le_refl _)] at hown; exact hown, hBr⟩
end Go.Proofs.Ytopppkafbbfobaa.W
