/- An encoding cut short is told to be short: the walk. -/
import Derived.Test.YtopppkafbbfobaaL10
import Derived.Test.YtopppkafbbfobaaC31
namespace Go.Proofs.Ytopppkafbbfobaa.W
open Go.RowKit

theorem sum_most {l : List (List UInt8)} {B : Nat} (h : ∀ x ∈ l, x.length ≤ B) : (l.map (·.length)).sum ≤ l.length * B := by
  induction l with
  | nil => simp
  | cons a l ih =>
    have h1 := h a (List.mem_cons_self ..)
    have h2 := ih (fun x hx => h x (List.mem_cons_of_mem _ hx))
    rw [List.map_cons, List.sum_cons, List.length_cons, Nat.add_mul]
    omega
/-- What a decoder leaves that wants more. -/
def Short (w : World) (v : Value) (e : Ending) (w' : World) : Prop := e = .returned (.tuple #[v, .int .i64 0, .int .i64 3]) ∧ Below w.heap.size w w'
theorem short_int (A : Option Addr) (l : List UInt8) (n c : Nat) (w : World) (hn : n = l.length) (hnc : n ≤ c) (hR : Rd w A (bv l)) (h : decInt l = .error 3) : Calls Try.prog 30 #[.slice A n c] w (Short w (.int .i64 0)) := by
  refine (getInt_any A l n c w hn hnc hR).mono ?_
  rintro e w' ⟨rfl, rfl⟩
  rw [h]
  exact ⟨rfl, Below.refl _ _⟩
theorem short_bytes (A : Option Addr) (l : List UInt8) (n c : Nat) (w : World) (hn : n = l.length) (hnc : n ≤ c) (hR : Rd w A (bv l)) (h : decBytes l = .error 3) : Calls Try.prog 32 #[.slice A n c] w (Short w (str [])) := by
  refine (getBytes_any A l n c w hn hnc hR).mono ?_
  rintro e w' ⟨rfl, rfl⟩
  rw [h]
  exact ⟨rfl, Below.refl _ _⟩
theorem short_ints (A : Option Addr) (l : List UInt8) (n c : Nat) (w : World) (hn : n = l.length) (hnc : n ≤ c) (hR : Rd w A (bv l)) (hm : n ≤ 100000) (h : decList decInt 1 l = .error 3) : Calls Try.prog 34 #[.slice A n c] w (Short w (.slice none 0 0)) := by
  refine (getInts_any A l n c w hn hnc hR (by omega)).mono ?_
  rw [h]
  rintro e w' ⟨hB, rfl⟩
  exact ⟨rfl, hB⟩
theorem short_strs (A : Option Addr) (l : List UInt8) (n c : Nat) (w : World) (hn : n = l.length) (hnc : n ≤ c) (hR : Rd w A (bv l)) (hm : n ≤ 100000) (h : decList decBytes 1 l = .error 3) : Calls Try.prog 37 #[.slice A n c] w (Short w (.slice none 0 0)) := by
  refine (getStrs_any A l n c w hn hnc hR (by omega)).mono ?_
  rw [h]
  rintro e w' ⟨hB, rfl⟩
  exact ⟨rfl, hB⟩
theorem short_digs (A : Option Addr) (l : List UInt8) (n c : Nat) (w : World) (hn : n = l.length) (hnc : n ≤ c) (hR : Rd w A (bv l)) (hm : n ≤ 100000) (h : decList decDig 16 l = .error 3) : Calls Try.prog 40 #[.slice A n c] w (Short w (.slice none 0 0)) := by
  refine (getDigs_any A l n c w hn hnc hR (by omega)).mono ?_
  rw [h]
  rintro e w' ⟨hB, rfl⟩
  exact ⟨rfl, hB⟩

set_option maxRecDepth 100000 in
set_option maxHeartbeats 1000000 in
theorem trunc_long (n : Int) (x : List UInt8) (A1 A2 A3 : Option Addr) (n1 c1 n2 c2 n3 c3 : Nat) (w : World) (hx : x.length ≤ 140737488355328) (hn1 : n1 ≤ 17592186044416) (hn3 : n3 ≤ 8796093022208) (h : 400 < x.length + 9 * n1 + 16 * n3) :
    Calls Try.prog 11 #[.int .i64 n, str x, .slice A1 n1 c1, .slice A2 n2 c2, .slice A3 n3 c3] w (Yes w) := by
  unfold str
  go_enter Try.func11, Try.ntmps11
  go_wp2_with fail
  refine (sanity_any w).mono ?_
  rintro e w' ⟨rfl, hb⟩
  go_wp2
  go_ret
  exact ⟨rfl, hb⟩

set_option maxRecDepth 100000 in
set_option maxHeartbeats 1000000 in
theorem trunc_wide (n : Int) (x : List UInt8) (A1 A2 A3 : Option Addr) (n1 c1 n2 c2 n3 c3 : Nat) (w : World) (h : x.length + 9 * n1 + 16 * n3 ≤ 400) (hn2 : n2 ≤ 8796093022208) (h2 : 40 < n2) :
    Calls Try.prog 11 #[.int .i64 n, str x, .slice A1 n1 c1, .slice A2 n2 c2, .slice A3 n3 c3] w (Yes w) := by
  unfold str
  go_enter Try.func11, Try.ntmps11
  go_wp2_with fail
  refine (sanity_any w).mono ?_
  rintro e w' ⟨rfl, hb⟩
  go_wp2
  go_ret
  exact ⟨rfl, hb⟩

set_option maxRecDepth 100000 in
set_option maxHeartbeats 1000000 in
theorem trunc_many (n : Int) (x : List UInt8) (A1 A2 A3 : Option Addr) (n1 c1 n2 c2 n3 c3 : Nat) (t : List (List UInt8)) (w : World) (h : x.length + 9 * n1 + 16 * n3 ≤ 400) (h2 : n2 ≤ 40) (e2 : n2 = t.length) (R2 : Rd w A2 (tv t)) (ht : tot t ≤ 9223372036854775807) (hm : 2000 < tot t) :
    Calls Try.prog 11 #[.int .i64 n, str x, .slice A1 n1 c1, .slice A2 n2 c2, .slice A3 n3 c3] w (Yes w) := by
  have HN := hide e2
  have HF := hide (decide_eq_false (Nat.not_le.2 hm))
  clear e2 hm
  unfold str
  go_enter Try.func11, Try.ntmps11
  go_wp2_with fail
  refine (few_any A2 t n2 c2 w HN.out R2 ht).mono ?_
  rw [HF.out]
  rintro e w' ⟨rfl, rfl⟩
  go_wp2_with fail
  refine (sanity_any w).mono ?_
  rintro e w' ⟨rfl, hb⟩
  go_wp2
  go_ret
  exact ⟨rfl, hb⟩

set_option maxRecDepth 100000 in
set_option maxHeartbeats 20000000 in
theorem trunc_short (n : Int) (hI : I64 n) (x : List UInt8) (A1 A2 A3 : Option Addr) (n1 c1 n2 c2 n3 c3 : Nat) (xs : List Int) (t ds : List (List UInt8)) (w : World) (h : x.length + 9 * n1 + 16 * n3 ≤ 400)
    (e1 : n1 = xs.length) (R1 : Rd w A1 (iv xs)) (I1 : ∀ y ∈ xs, I64 y) (e2 : n2 = t.length) (R2 : Rd w A2 (tv t)) (h2 : n2 ≤ 40) (hm : tot t ≤ 2000) (e3 : n3 = ds.length) (R3 : Rd w A3 (dv ds)) (G3 : D16 ds) :
    Calls Try.prog 11 #[.int .i64 n, str x, .slice A1 n1 c1, .slice A2 n2 c2, .slice A3 n3 c3] w (Yes w) := by
  have HF := hide (decide_eq_true hm)
  have hE0 := encInt_le9 n
  have hE1 : (encBytes x).length ≤ 409 := by have := encInt_le9 (x.length : Int); rw [encBytes, List.length_append]; omega
  have hE2 : (encInts xs).length ≤ 409 := by have := encInt_le9 (xs.length : Int); have := flat_le xs; rw [encInts, List.length_append]; omega
  have hE4 : (encDigs ds).length ≤ 409 := by have := encInt_le9 (ds.length : Int); have := flatten16 ds G3; rw [encDigs, List.length_append]; omega
  have hE3 : (encStrs t).length ≤ 20009 := by have := encInt_le9 (t.length : Int); have := flatB_le t; unfold tot at hm; rw [encStrs, List.length_append]; omega
  have D0 := hide (fun k h => dec_trunc n k h)
  have D1 := hide (decBytes_short x (by omega))
  have D2 := hide (decInts_short xs (by omega) I1)
  have D3 := hide (decStrs_short t (by omega) (fun y hy => by have := mem_len_le hy; unfold tot at hm; omega))
  have D4 := hide (decDigs_short ds (by omega) G3)
  have H1 := hide e1
  have H2 := hide e2
  have H3 := hide e3
  clear e1 e2 e3
  have K1 := hide R1
  have K2 := hide R2
  have K3 := hide R3
  clear R1 R2 R3
  unfold str
  go_enter Try.func11, Try.ntmps11
  go_wp2_with fail
  refine (few_any A2 t n2 c2 w H2.out K2.out (by omega)).mono ?_
  rw [HF.out]
  rintro e w' ⟨rfl, rfl⟩
  clear hm
  go_wp2_with fail
  refine (int_any n hI w).mono ?_
  rintro e w1 ⟨v0, rfl, ho, hB1⟩
  obtain ⟨P0, p0, rfl, S0, hp0⟩ := own_open ho (by rw [bv_length]; omega)
  have hs1 := hB1.size
  clear ho
  go_wp2_with fail
  refine (bytes_any x (by omega) w1).mono ?_
  rintro e w2 ⟨v1, rfl, ho, hB2⟩
  obtain ⟨P1, p1, rfl, S1, hp1⟩ := own_open ho (by rw [bv_length]; omega)
  have S0 := S0.below hB2
  have hB2 := below_trans hB1 hB2 hs1
  have hs2 := hB2.size
  clear ho hB1 hs1
  go_wp2_with fail
  refine (ints_any A1 xs n1 c1 w2 H1.out (K1.out.below hB2) I1 (by omega)).mono ?_
  rintro e w3 ⟨v2, rfl, ho, hB3⟩
  obtain ⟨P2, p2, rfl, S2, hp2⟩ := own_open ho (by rw [bv_length]; omega)
  have S0 := S0.below hB3
  have S1 := S1.below hB3
  have hB3 := below_trans hB2 hB3 hs2
  have hs3 := hB3.size
  clear ho hB2 hs2
  go_wp2_with fail
  refine (strs_any A2 t n2 c2 w3 H2.out (K2.out.below hB3) (by omega)).mono ?_
  rintro e w4 ⟨v3, rfl, ho, hB4⟩
  obtain ⟨P3, p3, rfl, S3, hp3⟩ := own_open ho (by rw [bv_length]; omega)
  have S0 := S0.below hB4
  have S1 := S1.below hB4
  have S2 := S2.below hB4
  have hB4 := below_trans hB3 hB4 hs3
  have hs4 := hB4.size
  clear ho hB3 hs3
  go_wp2_with fail
  refine (digs_any A3 ds n3 c3 w4 H3.out (K3.out.below hB4) G3 (by omega)).mono ?_
  rintro e w5 ⟨v4, rfl, ho, hB5⟩
  obtain ⟨P4, p4, rfl, S4, hp4⟩ := own_open ho (by rw [bv_length]; omega)
  have S0 := S0.below hB5
  have S1 := S1.below hB5
  have S2 := S2.below hB5
  have S3 := S3.below hB5
  have hB5 := below_trans hB4 hB5 hs4
  have hs5 := hB5.size
  clear ho hB4 hs4
  generalize encInt n = E0 at *
  generalize encBytes x = E1 at *
  generalize encInts xs = E2 at *
  generalize encStrs t = E3 at *
  generalize encDigs ds = E4 at *
  go_wp2_with fail
  have hBa : Below w5.heap.size w5 (w5.alloc (.cells #[.slice P0 E0.length p0, .slice P1 E1.length p1, .slice P2 E2.length p2, .slice P3 E3.length p3, .slice P4 E4.length p4] 28)) := (Below.refl _ _).alloc (Nat.le_refl _) _
  have hBw := below_trans hB5 hBa hs5
  have hca : ∀ j, (w5.alloc (.cells #[.slice P0 E0.length p0, .slice P1 E1.length p1, .slice P2 E2.length p2, .slice P3 E3.length p3, .slice P4 E4.length p4] 28)).cell? ⟨w5.heap.size, j, none⟩ = #[.slice P0 E0.length p0, .slice P1 E1.length p1, .slice P2 E2.length p2, .slice P3 E3.length p3, .slice P4 E4.length p4][j]? := fun j => World.cell?_alloc_at (w := w5) _ 28 w5.heap.size j rfl
  have hsz : w5.heap.size < (w5.alloc (.cells #[.slice P0 E0.length p0, .slice P1 E1.length p1, .slice P2 E2.length p2, .slice P3 E3.length p3, .slice P4 E4.length p4] 28)).heap.size := by simp
  have S0 := S0.below hBa
  have S1 := S1.below hBa
  have S2 := S2.below hBa
  have S3 := S3.below hBa
  have S4 := S4.below hBa
  generalize w5.alloc (.cells #[.slice P0 E0.length p0, .slice P1 E1.length p1, .slice P2 E2.length p2, .slice P3 E3.length p3, .slice P4 E4.length p4] 28) = W at *
  generalize w5.heap.size = G at *
  have q0 := hide (hca 0)
  have q1 := hide (hca 1)
  have q2 := hide (hca 2)
  have q3 := hide (hca 3)
  have q4 := hide (hca 4)
  have S0 := hide S0
  have S1 := hide S1
  have S2 := hide S2
  have S3 := hide S3
  have S4 := hide S4
  clear hca hBa hB5 hs5
  have hsW := hBw.size
  go_loopw [49] (fun i wr => (i = .int .i64 0 ∨ i = .int .i64 1 ∨ i = .int .i64 2 ∨ i = .int .i64 3 ∨ i = .int .i64 4 ∨ i = .int .i64 5) ∧ Below W.heap.size W wr) (fun i _ => 5 - (intOf i).toNat)
  case atStart => exact ⟨.inl rfl, Below.refl _ _⟩
  case round =>
    obtain ⟨hj, hB⟩ := hrel
    obtain ⟨wo, rfl⟩ : ∃ wo : World, wo = wr := ⟨_, rfl⟩
    have hso := hB.size
    rcases hj with rfl | rfl | rfl | rfl | rfl | rfl
    · skip
      have hcell := (hB.cell (p := ⟨G, 0, none⟩) hsz).trans q0.out
      simp only [List.getElem?_toArray, List.getElem?_cons_zero] at hcell
      have hRo := hide (S0.out.below hB)
      go_wp2_with fail
      go_loopw [57] (fun q wx => ∃ k : Nat, k ≤ E0.length ∧ q = .int .i64 (k : Int) ∧ Below wo.heap.size wo wx) (fun q _ => E0.length - (intOf q).toNat)
      case atStart => exact ⟨0, Nat.zero_le _, rfl, Below.refl _ _⟩
      case round =>
        obtain ⟨k, hk, rfl, hBx⟩ := hrel
        by_cases hkK : k < E0.length
        · have hcut := run_cut_to Try.underlying28 cel5 ino5 P0 E0.length p0 (k : Int) (by omega) (by omega)
          rw [cutAt_zero, Int.toNat_natCast] at hcut
          have hl := hide (show k = (E0.take k).length from by rw [List.length_take]; omega)
          have hbz := hBx.size
          go_wp2_with fail
          refine (short_int P0 (E0.take k) k p0 _ hl.out (by omega) (rd_take (hRo.out.below hBx) k) (D0.out k (by omega))).mono ?_
          rintro e w9 ⟨rfl, hB9⟩
          go_wp2_with fail
          go_roundw
          case rel => exact ⟨k + 1, by omega, by go_num, below_trans hBx hB9 hbz⟩
          case measure => simp [intOf]; omega
        · obtain rfl : k = E0.length := by omega
          go_wp2_with fail
          go_roundw
          case rel => exact ⟨by simp, below_trans hB hBx hso⟩
          case measure => simp [intOf]
    · skip
      have hcell := (hB.cell (p := ⟨G, 1, none⟩) hsz).trans q1.out
      simp only [List.getElem?_toArray, List.getElem?_cons_succ, List.getElem?_cons_zero] at hcell
      have hRo := hide (S1.out.below hB)
      go_wp2_with fail
      go_loopw [57] (fun q wx => ∃ k : Nat, k ≤ E1.length ∧ q = .int .i64 (k : Int) ∧ Below wo.heap.size wo wx) (fun q _ => E1.length - (intOf q).toNat)
      case atStart => exact ⟨0, Nat.zero_le _, rfl, Below.refl _ _⟩
      case round =>
        obtain ⟨k, hk, rfl, hBx⟩ := hrel
        by_cases hkK : k < E1.length
        · have hcut := run_cut_to Try.underlying28 cel5 ino5 P1 E1.length p1 (k : Int) (by omega) (by omega)
          rw [cutAt_zero, Int.toNat_natCast] at hcut
          have hl := hide (show k = (E1.take k).length from by rw [List.length_take]; omega)
          have hbz := hBx.size
          go_wp2_with fail
          refine (short_bytes P1 (E1.take k) k p1 _ hl.out (by omega) (rd_take (hRo.out.below hBx) k) (D1.out k (by omega))).mono ?_
          rintro e w9 ⟨rfl, hB9⟩
          go_wp2_with fail
          go_roundw
          case rel => exact ⟨k + 1, by omega, by go_num, below_trans hBx hB9 hbz⟩
          case measure => simp [intOf]; omega
        · obtain rfl : k = E1.length := by omega
          go_wp2_with fail
          go_roundw
          case rel => exact ⟨by simp, below_trans hB hBx hso⟩
          case measure => simp [intOf]
    · skip
      have hcell := (hB.cell (p := ⟨G, 2, none⟩) hsz).trans q2.out
      simp only [List.getElem?_toArray, List.getElem?_cons_succ, List.getElem?_cons_zero] at hcell
      have hRo := hide (S2.out.below hB)
      go_wp2_with fail
      go_loopw [57] (fun q wx => ∃ k : Nat, k ≤ E2.length ∧ q = .int .i64 (k : Int) ∧ Below wo.heap.size wo wx) (fun q _ => E2.length - (intOf q).toNat)
      case atStart => exact ⟨0, Nat.zero_le _, rfl, Below.refl _ _⟩
      case round =>
        obtain ⟨k, hk, rfl, hBx⟩ := hrel
        by_cases hkK : k < E2.length
        · have hcut := run_cut_to Try.underlying28 cel5 ino5 P2 E2.length p2 (k : Int) (by omega) (by omega)
          rw [cutAt_zero, Int.toNat_natCast] at hcut
          have hl := hide (show k = (E2.take k).length from by rw [List.length_take]; omega)
          have hbz := hBx.size
          go_wp2_with fail
          refine (short_ints P2 (E2.take k) k p2 _ hl.out (by omega) (rd_take (hRo.out.below hBx) k) (by omega) (D2.out k (by omega))).mono ?_
          rintro e w9 ⟨rfl, hB9⟩
          go_wp2_with fail
          go_roundw
          case rel => exact ⟨k + 1, by omega, by go_num, below_trans hBx hB9 hbz⟩
          case measure => simp [intOf]; omega
        · obtain rfl : k = E2.length := by omega
          go_wp2_with fail
          go_roundw
          case rel => exact ⟨by simp, below_trans hB hBx hso⟩
          case measure => simp [intOf]
    · by_cases hlt : E3.length ≤ 500
      · skip
        have hcell := (hB.cell (p := ⟨G, 3, none⟩) hsz).trans q3.out
        simp only [List.getElem?_toArray, List.getElem?_cons_succ, List.getElem?_cons_zero] at hcell
        have hRo := hide (S3.out.below hB)
        go_wp2_with fail
        go_loopw [57] (fun q wx => ∃ k : Nat, k ≤ E3.length ∧ q = .int .i64 (k : Int) ∧ Below wo.heap.size wo wx) (fun q _ => E3.length - (intOf q).toNat)
        case atStart => exact ⟨0, Nat.zero_le _, rfl, Below.refl _ _⟩
        case round =>
          obtain ⟨k, hk, rfl, hBx⟩ := hrel
          by_cases hkK : k < E3.length
          · have hcut := run_cut_to Try.underlying28 cel5 ino5 P3 E3.length p3 (k : Int) (by omega) (by omega)
            rw [cutAt_zero, Int.toNat_natCast] at hcut
            have hl := hide (show k = (E3.take k).length from by rw [List.length_take]; omega)
            have hbz := hBx.size
            go_wp2_with fail
            refine (short_strs P3 (E3.take k) k p3 _ hl.out (by omega) (rd_take (hRo.out.below hBx) k) (by omega) (D3.out k (by omega))).mono ?_
            rintro e w9 ⟨rfl, hB9⟩
            go_wp2_with fail
            go_roundw
            case rel => exact ⟨k + 1, by omega, by go_num, below_trans hBx hB9 hbz⟩
            case measure => simp [intOf]; omega
          · obtain rfl : k = E3.length := by omega
            go_wp2_with fail
            go_roundw
            case rel => exact ⟨by simp, below_trans hB hBx hso⟩
            case measure => simp [intOf]
      · skip
        have hcell := (hB.cell (p := ⟨G, 3, none⟩) hsz).trans q3.out
        simp only [List.getElem?_toArray, List.getElem?_cons_succ, List.getElem?_cons_zero] at hcell
        have hRo := hide (S3.out.below hB)
        go_wp2_with fail
        go_loopw [57] (fun q wx => ∃ k : Nat, k ≤ 500 ∧ q = .int .i64 (k : Int) ∧ Below wo.heap.size wo wx) (fun q _ => 500 - (intOf q).toNat)
        case atStart => exact ⟨0, Nat.zero_le _, rfl, Below.refl _ _⟩
        case round =>
          obtain ⟨k, hk, rfl, hBx⟩ := hrel
          by_cases hkK : k < 500
          · have hcut := run_cut_to Try.underlying28 cel5 ino5 P3 E3.length p3 (k : Int) (by omega) (by omega)
            rw [cutAt_zero, Int.toNat_natCast] at hcut
            have hl := hide (show k = (E3.take k).length from by rw [List.length_take]; omega)
            have hbz := hBx.size
            go_wp2_with fail
            refine (short_strs P3 (E3.take k) k p3 _ hl.out (by omega) (rd_take (hRo.out.below hBx) k) (by omega) (D3.out k (by omega))).mono ?_
            rintro e w9 ⟨rfl, hB9⟩
            go_wp2_with fail
            go_roundw
            case rel => exact ⟨k + 1, by omega, by go_num, below_trans hBx hB9 hbz⟩
            case measure => simp [intOf]; omega
          · obtain rfl : k = 500 := by omega
            go_wp2_with fail
            go_roundw
            case rel => exact ⟨by simp, below_trans hB hBx hso⟩
            case measure => simp [intOf]
    · skip
      have hcell := (hB.cell (p := ⟨G, 4, none⟩) hsz).trans q4.out
      simp only [List.getElem?_toArray, List.getElem?_cons_succ, List.getElem?_cons_zero] at hcell
      have hRo := hide (S4.out.below hB)
      go_wp2_with fail
      go_loopw [57] (fun q wx => ∃ k : Nat, k ≤ E4.length ∧ q = .int .i64 (k : Int) ∧ Below wo.heap.size wo wx) (fun q _ => E4.length - (intOf q).toNat)
      case atStart => exact ⟨0, Nat.zero_le _, rfl, Below.refl _ _⟩
      case round =>
        obtain ⟨k, hk, rfl, hBx⟩ := hrel
        by_cases hkK : k < E4.length
        · have hcut := run_cut_to Try.underlying28 cel5 ino5 P4 E4.length p4 (k : Int) (by omega) (by omega)
          rw [cutAt_zero, Int.toNat_natCast] at hcut
          have hl := hide (show k = (E4.take k).length from by rw [List.length_take]; omega)
          have hbz := hBx.size
          go_wp2_with fail
          refine (short_digs P4 (E4.take k) k p4 _ hl.out (by omega) (rd_take (hRo.out.below hBx) k) (by omega) (D4.out k (by omega))).mono ?_
          rintro e w9 ⟨rfl, hB9⟩
          go_wp2_with fail
          go_roundw
          case rel => exact ⟨k + 1, by omega, by go_num, below_trans hBx hB9 hbz⟩
          case measure => simp [intOf]; omega
        · obtain rfl : k = E4.length := by omega
          go_wp2_with fail
          go_roundw
          case rel => exact ⟨by simp, below_trans hB hBx hso⟩
          case measure => simp [intOf]
    · go_wp2_with fail
      refine (sanity_any wo).mono ?_
      rintro e w9 ⟨rfl, hB9⟩
      go_wp2
      go_ret
      exact ⟨rfl, below_trans hBw (below_trans hB hB9 hso) hsW⟩
end Go.Proofs.Ytopppkafbbfobaa.W
