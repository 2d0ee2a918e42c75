/- The order of encodings, and that no encoding begins another. -/
import Derived.Test.YtopppkafbbfobaaA0
import GoSem.Op.String
namespace Go.Proofs.Ytopppkafbbfobaa.W

theorem bl_cons (a b : UInt8) (x y : List UInt8) : Op.bytesLess (a :: x) (b :: y) = (decide (a < b) || (a == b && Op.bytesLess x y)) := rfl
theorem bl_asymm : ∀ x y : List UInt8, Op.bytesLess x y = true → Op.bytesLess y x = false
  | _, [], h => by cases ‹List UInt8› <;> simp [Op.bytesLess] at h
  | [], _ :: _, _ => rfl
  | a :: x, b :: y, h => by
    rw [bl_cons] at h ⊢
    rw [Bool.or_eq_true, Bool.and_eq_true, decide_eq_true_eq, beq_iff_eq] at h
    rw [Bool.or_eq_false_iff, Bool.and_eq_false_imp, decide_eq_false_iff_not]
    rw [UInt8.lt_iff_toNat_lt] at h ⊢
    rcases h with h | ⟨rfl, h⟩
    · refine ⟨by omega, fun h2 => ?_⟩
      rw [beq_iff_eq] at h2
      subst h2
      omega
    · exact ⟨by omega, fun _ => bl_asymm x y h⟩
theorem bl_irrefl : ∀ x : List UInt8, Op.bytesLess x x = false
  | [] => rfl
  | a :: x => by
    rw [bl_cons, bl_irrefl x, Bool.or_eq_false_iff, decide_eq_false_iff_not, UInt8.lt_iff_toNat_lt]
    exact ⟨by omega, by simp⟩
theorem be_mod (k a : Nat) : be k (a % 256 ^ k) = be k a := by
  have h := be_val (be k a)
  rw [be_length, val_be] at h
  exact h
theorem be_less : ∀ (k a b : Nat), a < 256 ^ k → b < 256 ^ k → a < b → Op.bytesLess (be k a) (be k b) = true
  | 0, a, b, ha, hb, h => by simp at ha hb; omega
  | k + 1, a, b, ha, hb, h => by
    rw [be, be, bl_cons, Bool.or_eq_true, Bool.and_eq_true, decide_eq_true_eq, beq_iff_eq, UInt8.lt_iff_toNat_lt, ofNat_toNat, ofNat_toNat]
    have hp : 0 < 256 ^ k := Nat.pow_pos (by omega)
    have ha' : a / 256 ^ k < 256 := by rw [Nat.div_lt_iff_lt_mul hp, Nat.mul_comm, ← Nat.pow_succ]; exact ha
    have hb' : b / 256 ^ k < 256 := by rw [Nat.div_lt_iff_lt_mul hp, Nat.mul_comm, ← Nat.pow_succ]; exact hb
    have hle : a / 256 ^ k ≤ b / 256 ^ k := Nat.div_le_div_right (Nat.le_of_lt h)
    rw [Nat.mod_eq_of_lt ha', Nat.mod_eq_of_lt hb']
    rcases Nat.lt_or_eq_of_le hle with h1 | h1
    · exact .inl h1
    · refine .inr ⟨by rw [h1], ?_⟩
      rw [← be_mod k a, ← be_mod k b]
      refine be_less k _ _ (Nat.mod_lt _ hp) (Nat.mod_lt _ hp) ?_
      have e1 := Nat.div_add_mod a (256 ^ k)
      have e2 := Nat.div_add_mod b (256 ^ k)
      rw [h1] at e1
      omega
theorem bl_flip : ∀ x y : List UInt8, x.length = y.length → Op.bytesLess (x.map (fl true)) (y.map (fl true)) = Op.bytesLess y x
  | [], [], _ => rfl
  | [], _ :: _, h => by simp at h
  | _ :: _, [], h => by simp at h
  | a :: x, b :: y, h => by
    rw [List.map_cons, List.map_cons, bl_cons, bl_cons, bl_flip x y (by simpa using h)]
    have ha := fl_toNat true a
    have hb := fl_toNat true b
    have h1 := u8_lt a
    have h2 := u8_lt b
    simp only [if_true] at ha hb
    congr 1
    · rw [Bool.eq_iff_iff, decide_eq_true_eq, decide_eq_true_eq, UInt8.lt_iff_toNat_lt, UInt8.lt_iff_toNat_lt]
      omega
    · congr 1
      rw [Bool.eq_iff_iff, beq_iff_eq, beq_iff_eq]
      constructor
      · intro h; rw [← fl_fl true a, ← fl_fl true b, h]
      · intro h; rw [h]
theorem bl_head {a b : UInt8} {x y : List UInt8} (h : a.toNat < b.toNat) : Op.bytesLess (a :: x) (b :: y) = true := by
  rw [bl_cons, decide_eq_true (by rw [UInt8.lt_iff_toNat_lt]; exact h), Bool.true_or]
theorem bl_same (a : UInt8) (x y : List UInt8) : Op.bytesLess (a :: x) (a :: y) = Op.bytesLess x y := by
  rw [bl_cons]
  simp
theorem nb_mono (a b : Nat) (h : a ≤ b) (hb : b < 18446744073709551616) : nb a ≤ nb b := by
  rcases Nat.lt_or_ge (nb b) (nb a) with h1 | h1
  · have h2 := nb_min a (by omega)
    have h3 := nb_lt b hb
    have h4 : 256 ^ nb b ≤ 256 ^ (nb a - 1) := Nat.pow_le_pow_right (by omega) (by omega)
    omega
  · exact h1
theorem enc_less {n m : Int} (hn : I64 n) (hm : I64 m) (h : n < m) : Op.bytesLess (encInt n) (encInt m) = true := by
  have cn := mag_cast n
  have cm := mag_cast m
  have ln := mag_lt n hn
  have lm := mag_lt m hm
  have h8n := nb_le (mag n)
  have h8m := nb_le (mag m)
  have hdn := head_toNat n
  have hdm := head_toNat m
  by_cases hn0 : n < 0
  · by_cases hm0 : m < 0
    · rw [if_pos hn0] at cn hdn
      rw [if_pos hm0] at cm hdm
      have hlt : mag m < mag n := by omega
      have hmo := nb_mono _ _ (Nat.le_of_lt hlt) (by omega)
      unfold encInt
      rcases Nat.lt_or_eq_of_le hmo with h1 | h1
      · exact bl_head (by omega)
      · rw [decide_eq_true hn0, decide_eq_true hm0, h1, bl_same, bl_flip _ _ (by rw [be_length, be_length])]
        have l1 := nb_lt (mag n) (by omega)
        have l2 := nb_lt (mag m) (by omega)
        rw [h1] at l2
        exact be_less _ _ _ l2 l1 hlt
    · rw [if_pos hn0] at cn hdn
      rw [if_neg hm0] at cm hdm
      exact bl_head (by omega)
  · have hm0 : ¬ m < 0 := by omega
    rw [if_neg hn0] at cn hdn
    rw [if_neg hm0] at cm hdm
    have hlt : mag n < mag m := by omega
    have hmo := nb_mono _ _ (Nat.le_of_lt hlt) (by omega)
    unfold encInt
    rcases Nat.lt_or_eq_of_le hmo with h1 | h1
    · exact bl_head (by omega)
    · have e : ∀ l : List UInt8, l.map (fl false) = l := fun l => by
        have : fl false = id := by funext b; rfl
        rw [this, List.map_id]
      rw [decide_eq_false hn0, decide_eq_false hm0, h1, bl_same, e, e]
      have l1 := nb_lt (mag n) (by omega)
      have l2 := nb_lt (mag m) (by omega)
      rw [h1] at l1
      exact be_less _ _ _ l1 l2 hlt
/-- Encodings compare as the integers do. -/
theorem enc_order {n m : Int} (hn : I64 n) (hm : I64 m) : Op.bytesLess (encInt n) (encInt m) = decide (n < m) := by
  rcases Int.lt_trichotomy n m with h | h | h
  · rw [enc_less hn hm h, decide_eq_true h]
  · rw [h, bl_irrefl, decide_eq_false (by omega)]
  · rw [bl_asymm _ _ (enc_less hm hn h), decide_eq_false (by omega)]
theorem enc_inj {n m : Int} (hn : I64 n) (hm : I64 m) (h : encInt n = encInt m) : n = m := by
  have h1 := dec_enc n hn []
  have h2 := dec_enc m hm []
  rw [h, h2] at h1
  simp only [Except.ok.injEq, Prod.mk.injEq] at h1
  exact h1.1.symm
/-- No encoding begins another. -/
theorem enc_begin {n m : Int} (hn : I64 n) (hm : I64 m) (h : encInt n = (encInt m).take (encInt n).length) : n = m := by
  have h1 := dec_enc n hn ((encInt m).drop (encInt n).length)
  have e : encInt n ++ (encInt m).drop (encInt n).length = encInt m := by
    conv => lhs; lhs; rw [h]
    exact List.take_append_drop _ _
  rw [e] at h1
  have h2 := dec_enc m hm []
  rw [List.append_nil, h1] at h2
  simp only [Except.ok.injEq, Prod.mk.injEq] at h2
  exact h2.1
theorem enc_min {n m : Int} (hn : I64 n) (hm : I64 m) : ((encInt n).take (min (encInt n).length (encInt m).length) == (encInt m).take (min (encInt n).length (encInt m).length)) = decide (n = m) := by
  rw [Bool.eq_iff_iff, beq_iff_eq, decide_eq_true_eq]
  constructor
  · intro h
    rcases Nat.le_total (encInt n).length (encInt m).length with hle | hle
    · rw [Nat.min_eq_left hle, List.take_length] at h
      exact enc_begin hn hm h
    · rw [Nat.min_eq_right hle, List.take_length] at h
      exact (enc_begin hm hn h.symm).symm
  · intro h; rw [h]
theorem enc_eq {n m : Int} (hn : I64 n) (hm : I64 m) : (encInt n == encInt m) = decide (n = m) := by
  rw [Bool.eq_iff_iff, beq_iff_eq, decide_eq_true_eq]
  exact ⟨enc_inj hn hm, fun h => by rw [h]⟩
end Go.Proofs.Ytopppkafbbfobaa.W
