/- The reference's comparisons of two lists. -/
import Derived.Test.YtopppkafbbfobaaC28
namespace Go.Proofs.Ytopppkafbbfobaa.W
open Go.RowKit

/-- It answers a bool; memory is as it was. -/
def Quiet (b : Bool) (w : World) (e : Ending) (w' : World) : Prop := e = .returned (.bool b) ∧ ∃ q, w' = w.drewN q

set_option maxRecDepth 100000 in
set_option maxHeartbeats 400000 in
theorem same_len (A B : Option Addr) (n m c d : Nat) (w : World) (h : ((n : Int) != (m : Int)) = true) :
    Calls Try.prog 19 #[.slice A n c, .slice B m d] w (Quiet false w) := by
  go_enter Try.func19, Try.ntmps19
  go_wp2
  go_ret
  exact ⟨rfl, 0, rfl⟩

set_option maxRecDepth 100000 in
set_option maxHeartbeats 400000 in
theorem same_eq (b1 o1 b2 o2 n c d : Nat) (xs ys : List UInt8) (w : World) (hx : Hid (xs.length = n)) (hy : Hid (ys.length = n)) (hm : n ≤ 9223372036854775807)
    (h1 : Hid (∀ j, j < n → w.cell? ⟨b1, o1 + j, none⟩ = some (.int .u8 ((xs.getD j 0).toNat : Int)))) (h2 : Hid (∀ j, j < n → w.cell? ⟨b2, o2 + j, none⟩ = some (.int .u8 ((ys.getD j 0).toNat : Int)))) :
    Calls Try.prog 19 #[.slice (some ⟨b1, o1, none⟩) n c, .slice (some ⟨b2, o2, none⟩) n d] w (Quiet (decide (xs = ys)) w) := by
  go_enter Try.func19, Try.ntmps19
  go_wp2
  go_loopw [5] (fun i wr => ∃ (k : Nat), k ≤ n ∧ i = .int .i64 (k : Int) ∧ Hid (xs.take k = ys.take k) ∧ Hid (∃ q, wr = w.drewN q)) (fun i _ => n - (intOf i).toNat)
  case atStart => exact ⟨0, Nat.zero_le _, rfl, rfl, 0, rfl⟩
  case round =>
    obtain ⟨k, hk, rfl, hT, hq⟩ := hrel
    by_cases hkn : k < n
    · obtain ⟨q, rfl⟩ := hq.out
      have c1 := h1.out k hkn
      have c2 := h2.out k hkn
      by_cases he : xs.getD k 0 = ys.getD k 0
      · rw [he] at c1
        have HE := hide he
        clear he
        generalize hy0 : ys.getD k 0 = y at *
        have HY := hide hy0
        clear hy0
        go_wp2
        go_quiet (fail)
        go_wp2
        go_roundw
        case rel => exact ⟨k + 1, by omega, by go_num, by show _ = _; rw [take_succ_getD xs k (by rw [hx.out]; exact hkn), take_succ_getD ys k (by rw [hy.out]; exact hkn), hT.out, HE.out, HY.out], _, rfl⟩
        case measure => simp [intOf]; omega
      · have hne : (((xs.getD k 0).toNat : Int) != ((ys.getD k 0).toNat : Int)) = true := by
          rw [bne_iff_ne]
          intro h
          exact he (u8_ext (by omega))
        have HF := hide (show decide (xs = ys) = false from by
          rw [decide_eq_false_iff_not]
          intro h
          rw [h] at he
          exact he rfl)
        clear he
        generalize (xs.getD k 0).toNat = x0 at *
        generalize (ys.getD k 0).toNat = y0 at *
        go_wp2
        go_quiet (fail)
        go_wp2
        go_ret
        exact ⟨by rw [HF.out]; rfl, by first | exact ⟨_, rfl⟩ | exact ⟨_, World.drewN_drewN ..⟩⟩
    · obtain rfl : k = n := by omega
      obtain ⟨q, rfl⟩ := hq.out
      go_wp2
      go_ret
      refine ⟨?_, _, rfl⟩
      have hT2 := hT.out
      rw [List.take_of_length_le (by rw [hx.out]; exact Nat.le_refl _), List.take_of_length_le (by rw [hy.out]; exact Nat.le_refl _)] at hT2
      rw [hT2]
      simp

set_option maxRecDepth 100000 in
set_option maxHeartbeats 400000 in
theorem same_nil (A B : Option Addr) (c d : Nat) (w : World) : Calls Try.prog 19 #[.slice A 0 c, .slice B 0 d] w (Quiet true w) := by
  go_enter Try.func19, Try.ntmps19
  go_wp2
  go_loopw [5] (fun i wr => i = .int .i64 0 ∧ wr = w) (fun _ _ => 0)
  case atStart => exact ⟨rfl, rfl⟩
  case round =>
    obtain ⟨rfl, rfl⟩ := hrel
    go_wp2
    go_ret
    exact ⟨rfl, 0, rfl⟩

/-- ref.Same. -/
theorem same_any (A B : Option Addr) (xs ys : List UInt8) (n m c d : Nat) (w : World) (hn : n = xs.length) (hm : m = ys.length) (hA : Rd w A (bv xs)) (hB : Rd w B (bv ys)) :
    Calls Try.prog 19 #[.slice A n c, .slice B m d] w (Quiet (decide (xs = ys)) w) := by
  subst hn
  subst hm
  by_cases h : xs.length = ys.length
  · rcases Nat.eq_zero_or_pos xs.length with h0 | h0
    · have e1 : xs = [] := List.eq_nil_of_length_eq_zero h0
      have e2 : ys = [] := List.eq_nil_of_length_eq_zero (by omega)
      subst e1
      subst e2
      exact same_nil A B c d w
    · have hl := hA.len
      rw [bv_length] at hl
      obtain ⟨b1, o1, rfl, h1⟩ := hA.2 (by rw [bv_length]; exact h0)
      obtain ⟨b2, o2, rfl, h2⟩ := hB.2 (by rw [bv_length]; omega)
      rw [← h]
      exact same_eq b1 o1 b2 o2 xs.length c d xs ys w rfl h.symm hl (hide fun j hj => h1 j _ (bv_getElem? xs j hj)) (hide fun j hj => h2 j _ (bv_getElem? ys j (by omega)))
  · rw [decide_eq_false (fun e => h (by rw [e]))]
    exact same_len A B _ _ c d w (by rw [bne_iff_ne]; omega)
theorem Quiet.below {b : Bool} {w w' : World} {e : Ending} (h : Quiet b w e w') : e = .returned (.bool b) ∧ Below w.heap.size w w' := by
  obtain ⟨h1, q, rfl⟩ := h
  exact ⟨h1, below_drewN (Below.refl _ _) q⟩
set_option maxRecDepth 100000 in
set_option maxHeartbeats 400000 in
theorem sameInts_len (A B : Option Addr) (n m c d : Nat) (w : World) (h : ((n : Int) != (m : Int)) = true) :
    Calls Try.prog 36 #[.slice A n c, .slice B m d] w (Quiet false w) := by
  go_enter Try.func36, Try.ntmps36
  go_wp2
  go_ret
  exact ⟨rfl, 0, rfl⟩

set_option maxRecDepth 100000 in
set_option maxHeartbeats 400000 in
theorem sameInts_eq (b1 o1 b2 o2 n c d : Nat) (xs ys : List Int) (w : World) (hx : Hid (xs.length = n)) (hy : Hid (ys.length = n)) (hm : n ≤ 9223372036854775807)
    (h1 : Hid (∀ j, j < n → w.cell? ⟨b1, o1 + j, none⟩ = some (.int .i64 (xs.getD j 0)))) (h2 : Hid (∀ j, j < n → w.cell? ⟨b2, o2 + j, none⟩ = some (.int .i64 (ys.getD j 0)))) :
    Calls Try.prog 36 #[.slice (some ⟨b1, o1, none⟩) n c, .slice (some ⟨b2, o2, none⟩) n d] w (Quiet (decide (xs = ys)) w) := by
  go_enter Try.func36, Try.ntmps36
  go_wp2
  go_loopw [5] (fun i wr => ∃ (k : Nat), k ≤ n ∧ i = .int .i64 (k : Int) ∧ Hid (xs.take k = ys.take k) ∧ Hid (∃ q, wr = w.drewN q)) (fun i _ => n - (intOf i).toNat)
  case atStart => exact ⟨0, Nat.zero_le _, rfl, rfl, 0, rfl⟩
  case round =>
    obtain ⟨k, hk, rfl, hT, hq⟩ := hrel
    by_cases hkn : k < n
    · obtain ⟨q, rfl⟩ := hq.out
      have c1 := h1.out k hkn
      have c2 := h2.out k hkn
      by_cases he : xs.getD k 0 = ys.getD k 0
      · rw [he] at c1
        have HE := hide he
        clear he
        generalize hy0 : ys.getD k 0 = y at *
        have HY := hide hy0
        clear hy0
        go_wp2
        go_quiet (fail)
        go_wp2
        go_roundw
        case rel => exact ⟨k + 1, by omega, by go_num, by show _ = _; rw [take_succ_get xs k 0 (by rw [hx.out]; exact hkn), take_succ_get ys k 0 (by rw [hy.out]; exact hkn), hT.out, HE.out, HY.out], _, rfl⟩
        case measure => simp [intOf]; omega
      · have hne : ((xs.getD k 0) != (ys.getD k 0)) = true := by
          rw [bne_iff_ne]
          intro h
          exact he h
        have HF := hide (show decide (xs = ys) = false from by
          rw [decide_eq_false_iff_not]
          intro h
          rw [h] at he
          exact he rfl)
        clear he
        generalize xs.getD k 0 = x0 at *
        generalize ys.getD k 0 = y0 at *
        go_wp2
        go_quiet (fail)
        go_wp2
        go_ret
        exact ⟨by rw [HF.out]; rfl, by first | exact ⟨_, rfl⟩ | exact ⟨_, World.drewN_drewN ..⟩⟩
    · obtain rfl : k = n := by omega
      obtain ⟨q, rfl⟩ := hq.out
      go_wp2
      go_ret
      refine ⟨?_, _, rfl⟩
      have hT2 := hT.out
      rw [List.take_of_length_le (by rw [hx.out]; exact Nat.le_refl _), List.take_of_length_le (by rw [hy.out]; exact Nat.le_refl _)] at hT2
      rw [hT2]
      simp

set_option maxRecDepth 100000 in
set_option maxHeartbeats 400000 in
theorem sameInts_nil (A B : Option Addr) (c d : Nat) (w : World) : Calls Try.prog 36 #[.slice A 0 c, .slice B 0 d] w (Quiet true w) := by
  go_enter Try.func36, Try.ntmps36
  go_wp2
  go_loopw [5] (fun i wr => i = .int .i64 0 ∧ wr = w) (fun _ _ => 0)
  case atStart => exact ⟨rfl, rfl⟩
  case round =>
    obtain ⟨rfl, rfl⟩ := hrel
    go_wp2
    go_ret
    exact ⟨rfl, 0, rfl⟩

/-- ref.SameInts. -/
theorem sameInts_any (A B : Option Addr) (xs ys : List Int) (n m c d : Nat) (w : World) (hn : n = xs.length) (hm : m = ys.length) (hA : Rd w A (iv xs)) (hB : Rd w B (iv ys)) :
    Calls Try.prog 36 #[.slice A n c, .slice B m d] w (Quiet (decide (xs = ys)) w) := by
  subst hn
  subst hm
  by_cases h : xs.length = ys.length
  · rcases Nat.eq_zero_or_pos xs.length with h0 | h0
    · have e1 : xs = [] := List.eq_nil_of_length_eq_zero h0
      have e2 : ys = [] := List.eq_nil_of_length_eq_zero (by omega)
      subst e1
      subst e2
      exact sameInts_nil A B c d w
    · have hl := hA.len
      rw [iv_length] at hl
      obtain ⟨b1, o1, rfl, h1⟩ := hA.2 (by rw [iv_length]; exact h0)
      obtain ⟨b2, o2, rfl, h2⟩ := hB.2 (by rw [iv_length]; omega)
      rw [← h]
      exact sameInts_eq b1 o1 b2 o2 xs.length c d xs ys w rfl h.symm hl (hide fun j hj => h1 j _ (iv_getElem? xs j hj)) (hide fun j hj => h2 j _ (iv_getElem? ys j (by omega)))
  · rw [decide_eq_false (fun e => h (by rw [e]))]
    exact sameInts_len A B _ _ c d w (by rw [bne_iff_ne]; omega)
set_option maxRecDepth 100000 in
set_option maxHeartbeats 400000 in
theorem sameTexts_len (A B : Option Addr) (n m c d : Nat) (w : World) (h : ((n : Int) != (m : Int)) = true) :
    Calls Try.prog 39 #[.slice A n c, .slice B m d] w (Quiet false w) := by
  go_enter Try.func39, Try.ntmps39
  go_wp2
  go_ret
  exact ⟨rfl, 0, rfl⟩

set_option maxRecDepth 100000 in
set_option maxHeartbeats 400000 in
theorem sameTexts_eq (b1 o1 b2 o2 n c d : Nat) (xs ys : List (List UInt8)) (w : World) (hx : Hid (xs.length = n)) (hy : Hid (ys.length = n)) (hm : n ≤ 9223372036854775807)
    (h1 : Hid (∀ j, j < n → w.cell? ⟨b1, o1 + j, none⟩ = some (str (xs.getD j [])))) (h2 : Hid (∀ j, j < n → w.cell? ⟨b2, o2 + j, none⟩ = some (str (ys.getD j [])))) :
    Calls Try.prog 39 #[.slice (some ⟨b1, o1, none⟩) n c, .slice (some ⟨b2, o2, none⟩) n d] w (Quiet (decide (xs = ys)) w) := by
  go_enter Try.func39, Try.ntmps39
  go_wp2
  go_loopw [5] (fun i wr => ∃ (k : Nat), k ≤ n ∧ i = .int .i64 (k : Int) ∧ Hid (xs.take k = ys.take k) ∧ Hid (∃ q, wr = w.drewN q)) (fun i _ => n - (intOf i).toNat)
  case atStart => exact ⟨0, Nat.zero_le _, rfl, rfl, 0, rfl⟩
  case round =>
    obtain ⟨k, hk, rfl, hT, hq⟩ := hrel
    by_cases hkn : k < n
    · obtain ⟨q, rfl⟩ := hq.out
      have c1 := h1.out k hkn
      have c2 := h2.out k hkn
      unfold str at c1 c2
      by_cases he : xs.getD k [] = ys.getD k []
      · rw [he] at c1
        have HE := hide he
        clear he
        generalize hy0 : ys.getD k [] = y at *
        have HY := hide hy0
        clear hy0
        go_wp2
        go_quiet (fail)
        go_wp2
        go_roundw
        case rel => exact ⟨k + 1, by omega, by go_num, by show _ = _; rw [take_succ_get xs k [] (by rw [hx.out]; exact hkn), take_succ_get ys k [] (by rw [hy.out]; exact hkn), hT.out, HE.out, HY.out], _, rfl⟩
        case measure => simp [intOf]; omega
      · have hne : ((xs.getD k []) == (ys.getD k [])) = false := by
          rw [beq_eq_false_iff_ne]
          exact he
        have HF := hide (show decide (xs = ys) = false from by
          rw [decide_eq_false_iff_not]
          intro h
          rw [h] at he
          exact he rfl)
        clear he
        generalize xs.getD k [] = x0 at *
        generalize ys.getD k [] = y0 at *
        go_wp2
        go_quiet (fail)
        go_wp2
        go_ret
        exact ⟨by rw [HF.out]; rfl, by first | exact ⟨_, rfl⟩ | exact ⟨_, World.drewN_drewN ..⟩⟩
    · obtain rfl : k = n := by omega
      obtain ⟨q, rfl⟩ := hq.out
      go_wp2
      go_ret
      refine ⟨?_, _, rfl⟩
      have hT2 := hT.out
      rw [List.take_of_length_le (by rw [hx.out]; exact Nat.le_refl _), List.take_of_length_le (by rw [hy.out]; exact Nat.le_refl _)] at hT2
      rw [hT2]
      simp

set_option maxRecDepth 100000 in
set_option maxHeartbeats 400000 in
theorem sameTexts_nil (A B : Option Addr) (c d : Nat) (w : World) : Calls Try.prog 39 #[.slice A 0 c, .slice B 0 d] w (Quiet true w) := by
  go_enter Try.func39, Try.ntmps39
  go_wp2
  go_loopw [5] (fun i wr => i = .int .i64 0 ∧ wr = w) (fun _ _ => 0)
  case atStart => exact ⟨rfl, rfl⟩
  case round =>
    obtain ⟨rfl, rfl⟩ := hrel
    go_wp2
    go_ret
    exact ⟨rfl, 0, rfl⟩

/-- ref.SameTexts. -/
theorem sameTexts_any (A B : Option Addr) (xs ys : List (List UInt8)) (n m c d : Nat) (w : World) (hn : n = xs.length) (hm : m = ys.length) (hA : Rd w A (tv xs)) (hB : Rd w B (tv ys)) :
    Calls Try.prog 39 #[.slice A n c, .slice B m d] w (Quiet (decide (xs = ys)) w) := by
  subst hn
  subst hm
  by_cases h : xs.length = ys.length
  · rcases Nat.eq_zero_or_pos xs.length with h0 | h0
    · have e1 : xs = [] := List.eq_nil_of_length_eq_zero h0
      have e2 : ys = [] := List.eq_nil_of_length_eq_zero (by omega)
      subst e1
      subst e2
      exact sameTexts_nil A B c d w
    · have hl := hA.len
      rw [tv_length] at hl
      obtain ⟨b1, o1, rfl, h1⟩ := hA.2 (by rw [tv_length]; exact h0)
      obtain ⟨b2, o2, rfl, h2⟩ := hB.2 (by rw [tv_length]; omega)
      rw [← h]
      exact sameTexts_eq b1 o1 b2 o2 xs.length c d xs ys w rfl h.symm hl (hide fun j hj => h1 j _ (tv_getElem? xs j hj)) (hide fun j hj => h2 j _ (tv_getElem? ys j (by omega)))
  · rw [decide_eq_false (fun e => h (by rw [e]))]
    exact sameTexts_len A B _ _ c d w (by rw [bne_iff_ne]; omega)
end Go.Proofs.Ytopppkafbbfobaa.W
