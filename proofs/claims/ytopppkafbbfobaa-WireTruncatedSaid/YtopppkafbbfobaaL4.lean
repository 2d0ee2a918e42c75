/- Decoding answers as the reference does: the walk. -/
import Derived.Test.YtopppkafbbfobaaL8
import Derived.Test.YtopppkafbbfobaaC29
import Derived.Test.YtopppkafbbfobaaC35
import Derived.Test.YtopppkafbbfobaaC42
namespace Go.Proofs.Ytopppkafbbfobaa.W
open Go.RowKit

theorem resI_tuple (r : Except Nat (Int × Nat)) : ∃ a u k : Int, resI r = .tuple #[.int .i64 a, .int .i64 u, .int .i64 k] := by
  cases r with
  | error e => exact ⟨_, _, _, rfl⟩
  | ok x => obtain ⟨a, u⟩ := x; exact ⟨_, _, _, rfl⟩
theorem resB_tuple (r : Except Nat (List UInt8 × Nat)) : ∃ (a : List UInt8) (u k : Int), resB r = .tuple #[str a, .int .i64 u, .int .i64 k] := by
  cases r with
  | error e => exact ⟨_, _, _, rfl⟩
  | ok x => obtain ⟨a, u⟩ := x; exact ⟨_, _, _, rfl⟩
/-- A decoder's answer, laid flat. -/
def flat {α : Type} : Except Nat (List α × Nat) → List α × Int × Int
  | .error k => ([], 0, (k : Int))
  | .ok (l, u) => (l, (u : Int), 0)
theorem GetPost.flat {α : Type} {w w' : World} {f : List α → List Value} {r : Except Nat (List α × Nat)} {ty : TypeId} {sz : Nat} {e : Ending} (h : GetPost w (mapOk f r) ty sz e w') (hf : f [] = []) (hl : ∀ l u, r = .ok (l, u) → (f l).length ≤ 9223372036854775807 ∧ (f l).length = l.length * sz) (hs : 0 < sz) :
    ∃ A c, e = .returned (.tuple #[.slice A (W.flat r).1.length c, .int .i64 (W.flat r).2.1, .int .i64 (W.flat r).2.2]) ∧ Rd w' A (f (W.flat r).1) ∧ (W.flat r).1.length ≤ c ∧ Below w.heap.size w w' := by
  obtain ⟨hB, h⟩ := h
  cases r with
  | error k =>
    simp only [mapOk] at h
    exact ⟨none, 0, h, by show Rd _ _ (f []); rw [hf]; exact Rd.nil _ _, Nat.le_refl _, hB⟩
  | ok x =>
    obtain ⟨l, u⟩ := x
    simp only [mapOk] at h
    obtain ⟨v, n, rfl, ho⟩ := h
    obtain ⟨h1, h2⟩ := hl l u rfl
    obtain ⟨A, c, rfl, hR, hc⟩ := own_open ho h1
    have h3 := ho.1
    rw [h2] at h3
    have hn : l.length = n := Nat.eq_of_mul_eq_mul_right hs h3
    subst hn
    exact ⟨A, c, rfl, hR, hc, hB⟩

theorem decN_len {α : Type} {d : List UInt8 → Except Nat (α × Nat)} : ∀ (k : Nat) (b : List UInt8) {l : List α} {u : Nat}, decN d k b = .ok (l, u) → l.length = k
  | 0, b, l, u, h => by
    simp only [decN, Except.ok.injEq, Prod.mk.injEq] at h
    rw [← h.1]; rfl
  | k + 1, b, l, u, h => by
    rw [decN] at h
    split at h
    · cases h
    split at h
    · cases h
    rename_i l' v hd
    simp only [Except.ok.injEq, Prod.mk.injEq] at h
    rw [← h.1, List.length_cons, decN_len k _ hd]
theorem decList_len {α : Type} {d : List UInt8 → Except Nat (α × Nat)} {s : Nat} {b : List UInt8} {l : List α} {u : Nat} (hs : 0 < s) (h : decList d s b = .ok (l, u)) : l.length * s ≤ b.length := by
  unfold decList at h
  split at h
  · cases h
  rename_i n v hc
  split at h
  · cases h
  rename_i l' v' hd
  simp only [Except.ok.injEq, Prod.mk.injEq] at h
  have h1 := (cnt_ok hc).2
  rw [← h.1, decN_len _ _ hd]
  have := (Nat.le_div_iff_mul_le hs).1 h1
  omega
theorem decN_dig : ∀ (k : Nat) (b : List UInt8) {l : List (List UInt8)} {u : Nat}, 16 * k ≤ b.length → decN decDig k b = .ok (l, u) → D16 l
  | 0, b, l, u, _, h => by
    simp only [decN, Except.ok.injEq, Prod.mk.injEq] at h
    rw [← h.1]; exact fun _ h => by cases h
  | k + 1, b, l, u, hb, h => by
    rw [decN] at h
    simp only [decDig] at h
    split at h
    · cases h
    rename_i l' v hd
    simp only [Except.ok.injEq, Prod.mk.injEq] at h
    have ih := decN_dig k (b.drop 16) (by rw [List.length_drop]; omega) hd
    rw [← h.1]
    intro d hd
    rcases List.mem_cons.1 hd with rfl | hd
    · rw [List.length_take]; omega
    · exact ih d hd
theorem decList_dig {b : List UInt8} {l : List (List UInt8)} {u : Nat} (h : decList decDig 16 b = .ok (l, u)) : D16 l := by
  unfold decList at h
  split at h
  · cases h
  rename_i n v hc
  split at h
  · cases h
  rename_i l' v' hd
  simp only [Except.ok.injEq, Prod.mk.injEq] at h
  have h1 := (cnt_ok hc).2
  have := (Nat.le_div_iff_mul_le (by omega : 0 < 16)).1 h1
  rw [← h.1]
  exact decN_dig n (b.drop v) (by rw [List.length_drop]; omega) hd
theorem flat_ints {w w' : World} {l : List UInt8} {e : Ending} (hm : l.length ≤ 8796093022208) (h : GetPost w (mapOk iv (decList decInt 1 l)) 3 1 e w') :
    ∃ A c, e = .returned (.tuple #[.slice A (flat (decList decInt 1 l)).1.length c, .int .i64 (flat (decList decInt 1 l)).2.1, .int .i64 (flat (decList decInt 1 l)).2.2]) ∧ Rd w' A (iv (flat (decList decInt 1 l)).1) ∧ (flat (decList decInt 1 l)).1.length ≤ c ∧ Below w.heap.size w w' :=
  h.flat rfl (fun x u hx => by have := decList_len (by omega) hx; rw [iv_length]; omega) (by omega)
theorem flat_strs {w w' : World} {l : List UInt8} {e : Ending} (hm : l.length ≤ 8796093022208) (h : GetPost w (mapOk tv (decList decBytes 1 l)) 9 1 e w') :
    ∃ A c, e = .returned (.tuple #[.slice A (flat (decList decBytes 1 l)).1.length c, .int .i64 (flat (decList decBytes 1 l)).2.1, .int .i64 (flat (decList decBytes 1 l)).2.2]) ∧ Rd w' A (tv (flat (decList decBytes 1 l)).1) ∧ (flat (decList decBytes 1 l)).1.length ≤ c ∧ Below w.heap.size w w' :=
  h.flat rfl (fun x u hx => by have := decList_len (by omega) hx; rw [tv_length]; omega) (by omega)
theorem flat_dig16 (l : List UInt8) : D16 (flat (decList decDig 16 l)).1 := by
  cases h : decList decDig 16 l with
  | error k => exact fun _ h => by cases h
  | ok x => obtain ⟨a, u⟩ := x; exact decList_dig h
theorem flat_digs {w w' : World} {l : List UInt8} {e : Ending} (hm : l.length ≤ 8796093022208) (h : GetPost w (mapOk dv (decList decDig 16 l)) 90 16 e w') :
    ∃ A c, e = .returned (.tuple #[.slice A (flat (decList decDig 16 l)).1.length c, .int .i64 (flat (decList decDig 16 l)).2.1, .int .i64 (flat (decList decDig 16 l)).2.2]) ∧ Rd w' A (dv (flat (decList decDig 16 l)).1) ∧ (flat (decList decDig 16 l)).1.length ≤ c ∧ Below w.heap.size w w' :=
  h.flat rfl (fun x u hx => by have := decList_len (by omega) hx; rw [dv_length x (decList_dig hx)]; omega) (by omega)

set_option maxRecDepth 100000 in
set_option maxHeartbeats 1000000 in
theorem decMatch_long (A : Option Addr) (m c : Nat) (w : World) (hm : m ≤ 9223372036854775807) (h : 2000 < m) :
    Calls Try.prog 4 #[.slice A m c] w (Yes w) := by
  go_enter Try.func4, Try.ntmps4
  go_wp2_with fail
  refine (sanity_any w).mono ?_
  rintro e w' ⟨rfl, hb⟩
  go_wp2
  go_ret
  exact ⟨rfl, hb⟩

set_option maxRecDepth 100000 in
set_option maxHeartbeats 4000000 in
theorem decMatch_short (A : Option Addr) (l : List UInt8) (m c : Nat) (w : World) (hml : m = l.length) (hmc : m ≤ c) (hR : Rd w A (bv l)) (h : m ≤ 2000) :
    Calls Try.prog 4 #[.slice A m c] w (Yes w) := by
  obtain ⟨i1, i2, i3, hI⟩ := resI_tuple (decInt l)
  obtain ⟨b1, b2, b3, hBy⟩ := resB_tuple (decBytes l)
  have hll : l.length ≤ 8796093022208 := by omega
  have HL := hide hll
  have HM := hide hml
  have HI := hide hI
  have HBy := hide hBy
  clear hll hml hI hBy
  have hi1 : (i1 != i1) = false := by simp
  have hi2 : (i2 != i2) = false := by simp
  have hi3 : (i3 != i3) = false := by simp
  have hb2 : (b2 != b2) = false := by simp
  have hb3 : (b3 != b3) = false := by simp
  go_enter Try.func4, Try.ntmps4
  go_wp2_with fail
  refine (getInt_any A l m c w HM.out hmc hR).mono ?_
  rw [HI.out]
  rintro e w' ⟨rfl, rfl⟩
  go_wp2_with fail
  refine (refGetInt_any A l m c w HM.out hmc hR).mono ?_
  rw [HI.out]
  rintro e w1 ⟨rfl, hB1⟩
  have hR1 := hR.below hB1
  have hs1 := hB1.size
  go_wp2_with fail
  refine (getBytes_any A l m c w1 HM.out hmc hR1).mono ?_
  rw [HBy.out]
  rintro e w' ⟨rfl, rfl⟩
  simp only [str]
  go_wp2_with fail
  refine (rgetBytes_any A l m c w1 HM.out hmc hR1 (by omega)).mono ?_
  rw [HBy.out]
  rintro e w2 ⟨rfl, hB2⟩
  simp only [str]
  have hBB2 := below_trans hB1 hB2 hs1
  have hR2 := hR.below hBB2
  have hs2 := hBB2.size
  clear hB1 hB2 hs1 hR1
  go_wp2_with fail
  refine (getInts_any A l m c w2 HM.out hmc hR2 (by omega)).mono ?_
  rintro e w3 hG
  obtain ⟨A3, c3, rfl, hR3, hc3, hB3⟩ := flat_ints HL.out hG
  clear hG hR2
  have hR3' := hR.below (below_trans hBB2 hB3 hs2)
  have hBB3 := below_trans hBB2 hB3 hs2
  have hs3 := hBB3.size
  clear hBB2 hB3 hs2
  generalize hF : flat (decList decInt 1 l) = F3 at *
  have HF := hide hF
  clear hF
  obtain ⟨xs3, u3, k3⟩ := F3
  simp only at hR3 hc3 ⊢
  go_wp2_with fail
  refine (rgetInts_any A l m c w3 HM.out hmc hR3' (by omega)).mono ?_
  rintro e w4 hG
  obtain ⟨A4, c4, rfl, hR4, hc4, hB4⟩ := flat_ints HL.out hG
  clear hG hR3'
  rw [HF.out] at hR4 hc4 ⊢
  have hR3 := hR3.below hB4
  have hBB4 := below_trans hBB3 hB4 hs3
  have hR4' := hR.below hBB4
  have hs4 := hBB4.size
  clear hBB3 hB4 hs3
  simp only at hR4 hc4 ⊢
  have hu3 : (u3 != u3) = false := by simp
  have hk3 : (k3 != k3) = false := by simp
  go_wp2_with fail
  refine (yes (sameInts_any A3 A4 xs3 xs3 _ _ c3 c4 w4 rfl rfl hR3 hR4) (decide_eq_true rfl)).mono ?_
  rintro e w5 ⟨rfl, hB5⟩
  have hR5 := hR4'.below hB5
  have hBB5 := below_trans hBB4 hB5 hs4
  have hs5 := hBB5.size
  clear hBB4 hB5 hs4 hR4' hR3 hR4 hc3 hc4
  go_wp2_with fail
  refine (getStrs_any A l m c w5 HM.out hmc hR5 (by omega)).mono ?_
  rintro e w6 hG
  obtain ⟨A6, c6, rfl, hR6, hc6, hB6⟩ := flat_strs HL.out hG
  clear hG
  have hBB6 := below_trans hBB5 hB6 hs5
  have hR6' := hR.below hBB6
  have hs6 := hBB6.size
  clear hBB5 hB6 hs5 hR5
  generalize hF : flat (decList decBytes 1 l) = F6 at *
  have HF6 := hide hF
  clear hF
  obtain ⟨xs6, u6, k6⟩ := F6
  simp only at hR6 hc6 ⊢
  go_wp2_with fail
  refine (rgetStrs_any A l m c w6 HM.out hmc hR6' (by omega)).mono ?_
  rintro e w7 hG
  obtain ⟨A7, c7, rfl, hR7, hc7, hB7⟩ := flat_strs HL.out hG
  clear hG
  rw [HF6.out] at hR7 hc7 ⊢
  have hR6 := hR6.below hB7
  have hBB7 := below_trans hBB6 hB7 hs6
  have hR7' := hR.below hBB7
  have hs7 := hBB7.size
  clear hBB6 hB7 hs6 hR6'
  simp only at hR7 hc7 ⊢
  have hu6 : (u6 != u6) = false := by simp
  have hk6 : (k6 != k6) = false := by simp
  go_wp2_with fail
  refine (yes (sameTexts_any A6 A7 xs6 xs6 _ _ c6 c7 w7 rfl rfl hR6 hR7) (decide_eq_true rfl)).mono ?_
  rintro e w8 ⟨rfl, hB8⟩
  have hR8 := hR7'.below hB8
  have hBB8 := below_trans hBB7 hB8 hs7
  have hs8 := hBB8.size
  clear hBB7 hB8 hs7 hR7' hR6 hR7 hc6 hc7
  go_wp2_with fail
  refine (getDigs_any A l m c w8 HM.out hmc hR8 (by omega)).mono ?_
  rintro e w9 hG
  obtain ⟨A9, c9, rfl, hR9, hc9, hB9⟩ := flat_digs HL.out hG
  clear hG
  have hBB9 := below_trans hBB8 hB9 hs8
  have hR9' := hR.below hBB9
  have hs9 := hBB9.size
  have h16 := flat_dig16 l
  clear hBB8 hB9 hs8 hR8
  generalize hF : flat (decList decDig 16 l) = F9 at *
  have HF9 := hide hF
  clear hF
  obtain ⟨xs9, u9', k9⟩ := F9
  simp only at hR9 hc9 h16 ⊢
  go_wp2_with fail
  refine (rgetDigs_any A l m c w9 HM.out hmc hR9' (by omega)).mono ?_
  rintro e w10 hG
  obtain ⟨A10, c10, rfl, hR10, hc10, hB10⟩ := flat_digs HL.out hG
  clear hG
  rw [HF9.out] at hR10 hc10 ⊢
  have hR9 := hR9.below hB10
  have hBB10 := below_trans hBB9 hB10 hs9
  have hs10 := hBB10.size
  clear hBB9 hB10 hs9 hR9'
  simp only at hR10 hc10 ⊢
  have hu9 : (u9' == u9') = true := by simp
  have hk9 : (k9 == k9) = true := by simp
  go_wp2_with fail
  refine (sanity_any w10).mono ?_
  rintro e w11 ⟨rfl, hB11⟩
  have hR9 := hR9.below hB11
  have hR10 := hR10.below hB11
  have hBB11 := below_trans hBB10 hB11 hs10
  have hs11 := hBB11.size
  go_wp2_with fail
  refine (yes (sameDigs_any A9 A10 xs9 xs9 _ _ c9 c10 w11 rfl rfl hR9 hR10 h16 h16) (decide_eq_true rfl)).mono ?_
  rintro e w12 ⟨rfl, hB12⟩
  go_wp2
  go_ret
  exact ⟨rfl, below_trans hBB11 hB12 hs11⟩
end Go.Proofs.Ytopppkafbbfobaa.W
