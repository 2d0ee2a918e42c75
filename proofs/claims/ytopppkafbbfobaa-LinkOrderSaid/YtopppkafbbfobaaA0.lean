/- Plain laws of the encoding of an integer: no program in sight. -/
namespace Go.Proofs.Ytopppkafbbfobaa.W

/-- A byte, or 255 less it. -/
def fl (s : Bool) (b : UInt8) : UInt8 := if s then 255 - b else b
/-- The magnitude of an integer's encoding. -/
def mag (n : Int) : Nat := if n < 0 then (-1 - n).toNat else n.toNat
/-- How many bytes a number below 256 ^ 8 wants. -/
def nb (m : Nat) : Nat :=
  if m < 1 then 0 else if m < 256 then 1 else if m < 65536 then 2 else if m < 16777216 then 3 else if m < 4294967296 then 4
  else if m < 1099511627776 then 5 else if m < 281474976710656 then 6 else if m < 72057594037927936 then 7 else 8
/-- The last k bytes of a number, most significant first. -/
def be : Nat → Nat → List UInt8
  | 0, _ => []
  | k + 1, m => UInt8.ofNat (m / 256 ^ k) :: be k m
def val (l : List UInt8) : Nat := l.foldl (fun a b => a * 256 + b.toNat) 0
def encInt (n : Int) : List UInt8 :=
  fl (decide (n < 0)) (UInt8.ofNat (128 + nb (mag n))) :: (be (nb (mag n)) (mag n)).map (fl (decide (n < 0)))
def decInt : List UInt8 → Except Nat (Int × Nat)
  | [] => .error 3
  | h :: t =>
    if 8 < (fl (decide (h < 128)) h).toNat - 128 then .error 2
    else if t.length < (fl (decide (h < 128)) h).toNat - 128 then .error 3
    else if 0 < (fl (decide (h < 128)) h).toNat - 128 ∧ fl (decide (h < 128)) (t.getD 0 0) = 0 then .error 2
    else if 9223372036854775808 ≤ val ((t.take ((fl (decide (h < 128)) h).toNat - 128)).map (fl (decide (h < 128)))) then .error 2
    else .ok (if h < 128 then -1 - (val ((t.take ((fl (decide (h < 128)) h).toNat - 128)).map (fl (decide (h < 128)))) : Int) else (val ((t.take ((fl (decide (h < 128)) h).toNat - 128)).map (fl (decide (h < 128)))) : Int), (fl (decide (h < 128)) h).toNat - 128 + 1)
/-- The integers of the model. -/
def I64 (n : Int) : Prop := -9223372036854775808 ≤ n ∧ n ≤ 9223372036854775807

theorem u8_lt (b : UInt8) : b.toNat < 256 := b.toNat_lt
theorem u8_ext {a b : UInt8} (h : a.toNat = b.toNat) : a = b := UInt8.toNat_inj.1 h
theorem fl_toNat (s : Bool) (b : UInt8) : (fl s b).toNat = if s then 255 - b.toNat else b.toNat := by
  have := u8_lt b
  unfold fl
  cases s
  · simp
  · simp only [if_true]
    rw [UInt8.toNat_sub_of_le]
    · rfl
    · rw [UInt8.le_iff_toNat_le]
      have : (255 : UInt8).toNat = 255 := rfl
      omega
theorem fl_fl (s : Bool) (b : UInt8) : fl s (fl s b) = b := by
  apply u8_ext
  rw [fl_toNat, fl_toNat]
  have := u8_lt b
  cases s <;> simp
  omega
theorem map_fl_fl (s : Bool) (l : List UInt8) : (l.map (fl s)).map (fl s) = l := by
  rw [List.map_map]
  conv => rhs; rw [← List.map_id l]
  apply List.map_congr_left
  intro b _
  simp [fl_fl]
theorem be_length (k m : Nat) : (be k m).length = k := by induction k with
  | zero => rfl
  | succ k ih => simp [be, ih]
theorem ofNat_toNat (x : Nat) : (UInt8.ofNat x).toNat = x % 256 := by simp
theorem foldl_val (l : List UInt8) : ∀ a, l.foldl (fun a b => a * 256 + b.toNat) a = a * 256 ^ l.length + val l := by
  induction l with
  | nil => intro a; simp [val]
  | cons b l ih =>
    intro a
    simp only [List.foldl_cons, List.length_cons, val]
    rw [ih, ih (0 * 256 + b.toNat), Nat.pow_succ]
    generalize val l = v
    generalize 256 ^ l.length = p
    rw [Nat.zero_mul, Nat.zero_add, Nat.add_mul, Nat.mul_assoc, Nat.mul_comm 256 p, Nat.add_assoc]
theorem val_nil : val [] = 0 := rfl
theorem val_cons (b : UInt8) (l : List UInt8) : val (b :: l) = b.toNat * 256 ^ l.length + val l := by
  have h := foldl_val l (0 * 256 + b.toNat)
  rw [Nat.zero_mul, Nat.zero_add] at h
  simpa [val] using h
theorem val_snoc (l : List UInt8) (b : UInt8) : val (l ++ [b]) = val l * 256 + b.toNat := by simp [val]
theorem val_lt (l : List UInt8) : val l < 256 ^ l.length := by
  induction l with
  | nil => simp [val]
  | cons b l ih =>
    rw [val_cons, List.length_cons, Nat.pow_succ]
    have hb := u8_lt b
    have : b.toNat * 256 ^ l.length ≤ 255 * 256 ^ l.length := Nat.mul_le_mul_right _ (by omega)
    omega
theorem val_be (k m : Nat) : val (be k m) = m % 256 ^ k := by
  induction k with
  | zero => simp [be, val, Nat.mod_one]
  | succ k ih =>
    rw [be, val_cons, be_length, ih, ofNat_toNat, Nat.pow_succ, Nat.mul_comm (256 ^ k) 256, Nat.mul_comm 256 (256 ^ k), Nat.mod_mul, Nat.mul_comm (m / 256 ^ k % 256), Nat.add_comm]
theorem be_val (l : List UInt8) : be l.length (val l) = l := by
  induction l with
  | nil => rfl
  | cons b l ih =>
    have hl := val_lt l
    have hp : 0 < 256 ^ l.length := Nat.pow_pos (by omega)
    rw [List.length_cons, be]
    have h1 : val (b :: l) / 256 ^ l.length = b.toNat := by
      rw [val_cons, Nat.add_comm, Nat.add_mul_div_right _ _ hp, Nat.div_eq_of_lt hl, Nat.zero_add]
    have h2 : ∀ k, k ≤ l.length → be k (val (b :: l)) = be k (val l) := by
      intro k
      induction k with
      | zero => intro _; rfl
      | succ k ih2 =>
        intro hk
        rw [be, be, ih2 (by omega)]
        congr 1
        apply u8_ext
        rw [ofNat_toNat, ofNat_toNat, val_cons]
        have hsp : 256 ^ l.length = 256 ^ k * 256 * 256 ^ (l.length - k - 1) := by
          rw [← Nat.pow_succ, ← Nat.pow_add]; congr 1; omega
        rw [hsp]
        have : b.toNat * (256 ^ k * 256 * 256 ^ (l.length - k - 1)) + val l = val l + 256 ^ k * (256 * (b.toNat * 256 ^ (l.length - k - 1))) := by
          rw [Nat.add_comm]; congr 1
          rw [Nat.mul_left_comm, Nat.mul_assoc]
        rw [this, Nat.add_mul_div_left _ _ (Nat.pow_pos (by omega)), Nat.add_mul_mod_self_left]
    rw [h1, h2 _ (Nat.le_refl _), ih]
    congr 1
    exact UInt8.ofNat_toNat
theorem nb_le (m : Nat) : nb m ≤ 8 := by unfold nb; repeat (first | omega | split)
theorem nb_lt (m : Nat) (h : m < 18446744073709551616) : m < 256 ^ nb m := by unfold nb; repeat (first | omega | split)
theorem nb_min (m : Nat) : 0 < nb m → 256 ^ (nb m - 1) ≤ m := by
  unfold nb
  repeat' split
  all_goals (intro h; simp at h ⊢ <;> omega)
theorem nb_unique (m k : Nat) (h8 : k ≤ 8) (h1 : m < 256 ^ k) (h2 : 0 < k → 256 ^ (k - 1) ≤ m) : nb m = k := by
  have : k = 0 ∨ k = 1 ∨ k = 2 ∨ k = 3 ∨ k = 4 ∨ k = 5 ∨ k = 6 ∨ k = 7 ∨ k = 8 := by omega
  rcases this with rfl | rfl | rfl | rfl | rfl | rfl | rfl | rfl | rfl <;> simp at h1 h2 <;> unfold nb <;> repeat (first | omega | split)
theorem mag_cast (n : Int) : (mag n : Int) = if n < 0 then -1 - n else n := by unfold mag; split <;> omega
theorem mag_lt (n : Int) (h : I64 n) : mag n < 9223372036854775808 := by have := mag_cast n; unfold I64 at h; split at this <;> omega
theorem encInt_length (n : Int) : (encInt n).length = nb (mag n) + 1 := by simp [encInt, be_length]
theorem head_toNat (n : Int) : (fl (decide (n < 0)) (UInt8.ofNat (128 + nb (mag n)))).toNat = if n < 0 then 127 - nb (mag n) else 128 + nb (mag n) := by
  have := nb_le (mag n)
  rw [fl_toNat, ofNat_toNat]
  by_cases h : n < 0 <;> simp [h] <;> omega
theorem be_head (m : Nat) (h : 0 < nb m) (hm : m < 18446744073709551616) : ∃ b l, be (nb m) m = b :: l ∧ b ≠ 0 := by
  obtain ⟨k, hk⟩ : ∃ k, nb m = k + 1 := ⟨nb m - 1, by omega⟩
  rw [hk]
  refine ⟨_, _, rfl, fun h0 => ?_⟩
  have h1 := nb_min m h
  have h2 := nb_lt m hm
  rw [hk] at h1 h2
  simp only [Nat.add_sub_cancel] at h1
  have hp : 0 < 256 ^ k := Nat.pow_pos (by omega)
  have h3 : 1 ≤ m / 256 ^ k := (Nat.le_div_iff_mul_le hp).2 (by omega)
  have h4 : m / 256 ^ k < 256 := (Nat.div_lt_iff_lt_mul hp).2 (by rw [Nat.mul_comm, ← Nat.pow_succ]; exact h2)
  have h5 := congrArg UInt8.toNat h0
  rw [ofNat_toNat, Nat.mod_eq_of_lt h4] at h5
  have : (0 : UInt8).toNat = 0 := rfl
  omega
theorem fl_zero {s : Bool} {b : UInt8} (h : fl s (fl s b) = 0) : b = 0 := by rwa [fl_fl] at h

/-- Decoding an encoding, whatever follows it. -/
theorem dec_enc (n : Int) (hn : I64 n) (t : List UInt8) : decInt (encInt n ++ t) = .ok (n, (encInt n).length) := by
  have hm := mag_lt n hn
  have hnb := nb_le (mag n)
  have hh := head_toNat n
  have hs : (decide (fl (decide (n < 0)) (UInt8.ofNat (128 + nb (mag n))) < 128)) = decide (n < 0) := by
    rw [decide_eq_decide, UInt8.lt_iff_toNat_lt, hh]
    have : (128 : UInt8).toNat = 128 := rfl
    by_cases h : n < 0 <;> simp [h] <;> omega
  have hk : (fl (decide (n < 0)) (fl (decide (n < 0)) (UInt8.ofNat (128 + nb (mag n))))).toNat - 128 = nb (mag n) := by
    rw [fl_fl, ofNat_toNat]; omega
  rw [encInt_length]
  unfold encInt
  rw [List.cons_append, decInt, hs, hk]
  have hlen : ((be (nb (mag n)) (mag n)).map (fl (decide (n < 0)))).length = nb (mag n) := by simp [be_length]
  have htake : (((be (nb (mag n)) (mag n)).map (fl (decide (n < 0))) ++ t).take (nb (mag n))).map (fl (decide (n < 0))) = be (nb (mag n)) (mag n) := by
    rw [List.take_left' hlen, map_fl_fl]
  rw [htake, val_be, Nat.mod_eq_of_lt (nb_lt _ (by omega)), if_neg (by omega), if_neg (by simp only [List.length_append, hlen]; omega), if_neg ?_, if_neg (by omega)]
  · have hc := mag_cast n
    have hlt : (fl (decide (n < 0)) (UInt8.ofNat (128 + nb (mag n))) < 128) = (n < 0) := by
      have := hs
      simp only [decide_eq_decide] at this
      exact propext this
    have hv : (if fl (decide (n < 0)) (UInt8.ofNat (128 + nb (mag n))) < 128 then -1 - (mag n : Int) else (mag n : Int)) = n := by
      simp only [hlt]
      split at hc <;> rename_i h <;> simp only [h, if_true, if_false] <;> omega
    rw [hv]
  · rintro ⟨h0, h1⟩
    obtain ⟨b, l, hb, hne⟩ := be_head (mag n) h0 (by omega)
    rw [hb] at h1
    simp only [List.map_cons, List.cons_append, List.getD_cons_zero] at h1
    exact hne (fl_zero h1)

theorem dec_bounds {b : List UInt8} {n : Int} {u : Nat} (h : decInt b = .ok (n, u)) : I64 n ∧ 1 ≤ u ∧ u ≤ 9 ∧ u ≤ b.length := by
  cases b with
  | nil => simp [decInt] at h
  | cons a t =>
    rw [decInt] at h
    split at h
    · cases h
    split at h
    · cases h
    split at h
    · cases h
    split at h
    · cases h
    simp only [Except.ok.injEq, Prod.mk.injEq] at h
    obtain ⟨h1, rfl⟩ := h
    refine ⟨?_, by omega, by omega, by simp only [List.length_cons]; omega⟩
    unfold I64
    split at h1 <;> omega

/-- What is decoded is the encoding of what it is decoded to. -/
theorem enc_dec {b : List UInt8} {n : Int} {u : Nat} (h : decInt b = .ok (n, u)) : encInt n = b.take u := by
  cases b with
  | nil => simp [decInt] at h
  | cons a t =>
    rw [decInt] at h
    generalize hs : decide (a < 128) = s at h
    generalize hk : (fl s a).toNat - 128 = k at h
    split at h
    · cases h
    rename_i hk8
    split at h
    · cases h
    rename_i hlen
    split at h
    · cases h
    rename_i hzero
    split at h
    · cases h
    rename_i hbig
    simp only [Except.ok.injEq, Prod.mk.injEq] at h
    obtain ⟨h1, rfl⟩ := h
    have ha := u8_lt a
    have h128 : (128 : UInt8).toNat = 128 := rfl
    have hsa : (s = true) = (a.toNat < 128) := by
      rw [← hs]; simp only [decide_eq_true_eq, UInt8.lt_iff_toNat_lt, h128]
    have hneg : decide (n < 0) = s := by
      rw [← h1]
      cases s
      · have : ¬ a < 128 := by simpa using hs
        rw [if_neg this]; simp
      · have : a < 128 := by simpa using hs
        rw [if_pos this]; simp; omega
    have hmag : mag n = val ((t.take k).map (fl s)) := by
      have hc := mag_cast n
      rw [← h1] at hc ⊢
      cases s
      · have : ¬ a < 128 := by simpa using hs
        simp only [this, if_false] at hc ⊢
        split at hc <;> omega
      · have : a < 128 := by simpa using hs
        simp only [this, if_true] at hc ⊢
        split at hc <;> omega
    have hl : ((t.take k).map (fl s)).length = k := by simp; omega
    have hnb : nb (mag n) = k := by
      rw [hmag]
      refine nb_unique _ _ (by omega) (by have := val_lt ((t.take k).map (fl s)); rwa [hl] at this) (fun h0 => ?_)
      cases t with
      | nil => simp at hlen; omega
      | cons c t =>
        obtain ⟨j, rfl⟩ : ∃ j, k = j + 1 := ⟨k - 1, by omega⟩
        rw [List.take_succ_cons, List.map_cons, val_cons]
        simp only [List.take_succ_cons, List.map_cons, List.length_cons, Nat.add_right_cancel_iff] at hl
        rw [hl]
        have hne : fl s c ≠ 0 := fun h => hzero ⟨h0, by simpa using h⟩
        have hpos : 1 ≤ (fl s c).toNat := by
          rcases Nat.eq_zero_or_pos (fl s c).toNat with h | h
          · exact absurd (u8_ext (by rw [h]; rfl)) hne
          · exact h
        have : 1 * 256 ^ j ≤ (fl s c).toNat * 256 ^ j := Nat.mul_le_mul_right _ hpos
        simp only [Nat.add_sub_cancel]
        omega
    unfold encInt
    rw [hneg, hnb, hmag]
    have hbe := be_val ((t.take k).map (fl s))
    rw [hl] at hbe
    have h0 : fl s (UInt8.ofNat (128 + k)) = a := by
      apply u8_ext
      rw [fl_toNat, ofNat_toNat]
      have hfa := fl_toNat s a
      clear h1 hbig hzero hlen
      cases s
      · have : ¬ a.toNat < 128 := by simpa using hsa
        simp only [Bool.false_eq_true, if_false] at hfa ⊢
        rw [hfa] at hk
        omega
      · have : a.toNat < 128 := by simpa using hsa
        simp only [if_true] at hfa ⊢
        rw [hfa] at hk
        omega
    rw [hbe, map_fl_fl, List.take_succ_cons, h0]

/-- A proper prefix of an encoding. -/
theorem dec_trunc (n : Int) (i : Nat) (hi : i < (encInt n).length) : decInt ((encInt n).take i) = .error 3 := by
  rw [encInt_length] at hi
  have hnb := nb_le (mag n)
  have hh := head_toNat n
  cases i with
  | zero => rfl
  | succ i =>
    have hs : (decide (fl (decide (n < 0)) (UInt8.ofNat (128 + nb (mag n))) < 128)) = decide (n < 0) := by
      rw [decide_eq_decide, UInt8.lt_iff_toNat_lt, hh]
      have : (128 : UInt8).toNat = 128 := rfl
      by_cases h : n < 0 <;> simp [h] <;> omega
    have hk : (fl (decide (n < 0)) (fl (decide (n < 0)) (UInt8.ofNat (128 + nb (mag n))))).toNat - 128 = nb (mag n) := by
      rw [fl_fl, ofNat_toNat]; omega
    unfold encInt
    rw [List.take_succ_cons, decInt, hs, hk, if_neg (by omega), if_pos (by simp [be_length]; omega)]
end Go.Proofs.Ytopppkafbbfobaa.W
