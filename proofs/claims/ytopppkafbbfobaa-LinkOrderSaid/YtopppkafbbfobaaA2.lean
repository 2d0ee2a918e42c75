/- The codecs of texts and lists, in plain Lean: what is encoded is decoded, what is decoded is an encoding, what is cut short is told to be short. -/
import Derived.Test.YtopppkafbbfobaaC28
import Derived.Test.YtopppkafbbfobaaA1
namespace Go.Proofs.Ytopppkafbbfobaa.W

theorem cnt_enc (m : Nat) (hm : m ≤ 9223372036854775807) (t : List UInt8) (s : Nat) (hs : 0 < s) (hl : m * s ≤ t.length) : cnt (encInt (m : Int) ++ t) s = .ok (m, (encInt (m : Int)).length) := by
  unfold cnt
  rw [dec_enc (m : Int) ⟨by omega, by omega⟩ t]
  simp only []
  rw [if_neg (by omega), if_neg ?_, Int.toNat_natCast]
  rw [List.length_append, Nat.add_sub_cancel_left, Int.toNat_natCast, Nat.not_lt]
  exact (Nat.le_div_iff_mul_le hs).2 hl
/-- A text is read back. -/
theorem decBytes_enc (x t : List UInt8) (hx : x.length ≤ 9223372036854775807) : decBytes (encBytes x ++ t) = .ok (x, (encBytes x).length) := by
  unfold decBytes encBytes
  rw [List.append_assoc, cnt_enc x.length hx (x ++ t) 1 (by omega) (by simp)]
  simp only []
  rw [List.drop_left, List.take_left, List.length_append]
theorem decN_enc {α : Type} {d : List UInt8 → Except Nat (α × Nat)} {e : α → List UInt8} : ∀ (l : List α) (t : List UInt8), (∀ x ∈ l, ∀ t, d (e x ++ t) = .ok (x, (e x).length)) → decN d l.length (l.flatMap e ++ t) = .ok (l, (l.flatMap e).length)
  | [], t, _ => rfl
  | x :: l, t, h => by
    have ih := decN_enc l t (fun y hy => h y (List.mem_cons_of_mem _ hy))
    rw [List.length_cons, decN, List.flatMap_cons, List.append_assoc, h x (List.mem_cons_self ..)]
    simp only []
    rw [List.drop_left, ih]
    simp only []
    rw [List.length_append]
theorem flat_min {α : Type} {e : α → List UInt8} {s : Nat} : ∀ (l : List α), (∀ x ∈ l, s ≤ (e x).length) → l.length * s ≤ (l.flatMap e).length
  | [], _ => by simp
  | x :: l, h => by
    have ih := flat_min l (fun y hy => h y (List.mem_cons_of_mem _ hy))
    have h1 := h x (List.mem_cons_self ..)
    rw [List.length_cons, List.flatMap_cons, List.length_append, Nat.add_mul]
    omega
/-- A list is read back. -/
theorem decList_enc {α : Type} {d : List UInt8 → Except Nat (α × Nat)} {e : α → List UInt8} {s : Nat} (hs : 0 < s) (l : List α) (t : List UInt8) (hl : l.length ≤ 9223372036854775807) (h1 : ∀ x ∈ l, s ≤ (e x).length) (h : ∀ x ∈ l, ∀ t, d (e x ++ t) = .ok (x, (e x).length)) :
    decList d s (encInt (l.length : Int) ++ l.flatMap e ++ t) = .ok (l, (encInt (l.length : Int) ++ l.flatMap e).length) := by
  unfold decList
  rw [List.append_assoc, cnt_enc l.length hl _ s hs (by have := flat_min l h1; rw [List.length_append]; omega)]
  simp only []
  rw [List.drop_left, decN_enc l t h]
  simp only []
  rw [List.length_append]
theorem enc_pos (n : Int) : 1 ≤ (encInt n).length := by rw [encInt_length]; omega
theorem encBytes_pos (x : List UInt8) : 1 ≤ (encBytes x).length := by have := enc_pos (x.length : Int); rw [encBytes, List.length_append]; omega
theorem decInts_enc (l : List Int) (t : List UInt8) (hl : l.length ≤ 9223372036854775807) (hI : ∀ x ∈ l, I64 x) : decList decInt 1 (encInts l ++ t) = .ok (l, (encInts l).length) :=
  decList_enc (by omega) l t hl (fun x _ => enc_pos x) (fun x hx t => dec_enc x (hI x hx) t)
theorem decStrs_enc (l : List (List UInt8)) (t : List UInt8) (hl : l.length ≤ 9223372036854775807) (hI : ∀ x ∈ l, x.length ≤ 9223372036854775807) : decList decBytes 1 (encStrs l ++ t) = .ok (l, (encStrs l).length) :=
  decList_enc (by omega) l t hl (fun x _ => encBytes_pos x) (fun x hx t => decBytes_enc x t (hI x hx))
theorem encDigs_flat (l : List (List UInt8)) : encDigs l = encInt (l.length : Int) ++ l.flatMap id := by rw [encDigs, List.flatten_eq_flatMap]
theorem decDigs_enc (l : List (List UInt8)) (t : List UInt8) (hl : l.length ≤ 9223372036854775807) (h16 : D16 l) : decList decDig 16 (encDigs l ++ t) = .ok (l, (encDigs l).length) := by
  rw [encDigs_flat]
  refine decList_enc (by omega) l t hl (fun x hx => by rw [id, h16 x hx]; exact Nat.le_refl _) (fun x hx t => ?_)
  have h := h16 x hx
  rw [decDig, id, h]
  congr 2
  rw [← h, List.take_left]

/-! What is decoded is an encoding. -/
theorem cnt_take {b : List UInt8} {s n u : Nat} (h : cnt b s = .ok (n, u)) : encInt (n : Int) = b.take u ∧ u + n * s ≤ b.length := by
  obtain ⟨h1, h2⟩ := cnt_ok h
  obtain ⟨_, _, _, hu⟩ := dec_bounds h1
  refine ⟨enc_dec h1, ?_⟩
  have := Nat.mul_le_of_le_div _ _ _ h2
  omega
theorem decBytes_take {b x : List UInt8} {u : Nat} (h : decBytes b = .ok (x, u)) : encBytes x = b.take u ∧ u ≤ b.length := by
  unfold decBytes at h
  split at h
  · cases h
  rename_i n v hc
  simp only [Except.ok.injEq, Prod.mk.injEq] at h
  obtain ⟨rfl, rfl⟩ := h
  obtain ⟨h1, h2⟩ := cnt_take hc
  rw [Nat.mul_one] at h2
  refine ⟨?_, h2⟩
  have hl : ((b.drop v).take n).length = n := by rw [List.length_take, List.length_drop]; omega
  rw [encBytes, hl, h1, List.take_add]
theorem decN_take {α : Type} {d : List UInt8 → Except Nat (α × Nat)} {e : α → List UInt8} (h : ∀ b x u, d b = .ok (x, u) → e x = b.take u ∧ u ≤ b.length) : ∀ (n : Nat) (b : List UInt8) (l : List α) (u : Nat), decN d n b = .ok (l, u) → l.flatMap e = b.take u ∧ u ≤ b.length
  | 0, b, l, u, hd => by
    simp only [decN, Except.ok.injEq, Prod.mk.injEq] at hd
    obtain ⟨rfl, rfl⟩ := hd
    exact ⟨by simp, Nat.zero_le _⟩
  | n + 1, b, l, u, hd => by
    rw [decN] at hd
    split at hd
    · cases hd
    rename_i x u1 h1
    split at hd
    · cases hd
    rename_i l2 u2 h2
    simp only [Except.ok.injEq, Prod.mk.injEq] at hd
    obtain ⟨rfl, rfl⟩ := hd
    obtain ⟨e1, l1⟩ := h _ _ _ h1
    obtain ⟨e2, l2⟩ := decN_take h n _ _ _ h2
    rw [List.length_drop] at l2
    exact ⟨by rw [List.flatMap_cons, e1, e2, List.take_add], by omega⟩
theorem decList_take {α : Type} {d : List UInt8 → Except Nat (α × Nat)} {e : α → List UInt8} (h : ∀ b x u, d b = .ok (x, u) → e x = b.take u ∧ u ≤ b.length) {s : Nat} {b : List UInt8} {l : List α} {u : Nat} (hd : decList d s b = .ok (l, u)) (hlen : ∀ n b l u, decN d n b = .ok (l, u) → l.length = n) :
    encInt (l.length : Int) ++ l.flatMap e = b.take u ∧ u ≤ b.length := by
  unfold decList at hd
  split at hd
  · cases hd
  rename_i n v hc
  split at hd
  · cases hd
  rename_i l2 u2 h2
  simp only [Except.ok.injEq, Prod.mk.injEq] at hd
  obtain ⟨rfl, rfl⟩ := hd
  obtain ⟨e1, l1⟩ := cnt_take hc
  obtain ⟨e2, l2'⟩ := decN_take h n _ _ _ h2
  rw [hlen _ _ _ _ h2, e1, e2, List.take_add]
  rw [List.length_drop] at l2'
  have : v ≤ b.length := by omega
  exact ⟨rfl, by omega⟩
theorem decDig_digs : ∀ (n : Nat) (b : List UInt8) (l : List (List UInt8)) (u : Nat), n * 16 ≤ b.length → decN decDig n b = .ok (l, u) → l.flatMap id = b.take u ∧ u = n * 16
  | 0, b, l, u, _, hd => by
    simp only [decN, Except.ok.injEq, Prod.mk.injEq] at hd
    obtain ⟨rfl, rfl⟩ := hd
    exact ⟨by simp, rfl⟩
  | n + 1, b, l, u, hb, hd => by
    rw [decN] at hd
    simp only [decDig] at hd
    split at hd
    · cases hd
    rename_i l2 u2 h2
    simp only [Except.ok.injEq, Prod.mk.injEq] at hd
    obtain ⟨rfl, rfl⟩ := hd
    obtain ⟨e2, l2⟩ := decDig_digs n (b.drop 16) _ _ (by rw [List.length_drop]; omega) h2
    exact ⟨by rw [List.flatMap_cons, e2, id, List.take_add], by omega⟩

/-! What is cut short is told to be short. -/
theorem cnt_short {m s k : Nat} (hm : m ≤ 9223372036854775807) (t : List UInt8) (hs : 0 < s) (hk : k < (encInt (m : Int)).length + m * s) : cnt ((encInt (m : Int) ++ t).take k) s = .error 3 := by
  rcases Nat.lt_or_ge k (encInt (m : Int)).length with h | h
  · unfold cnt
    rw [List.take_append_of_le_length (by omega), dec_trunc (m : Int) k h]
  · rw [List.take_append, List.take_of_length_le h]
    unfold cnt
    rw [dec_enc (m : Int) ⟨by omega, by omega⟩]
    simp only []
    rw [if_neg (by omega), if_pos]
    rw [List.length_append, Nat.add_sub_cancel_left, Int.toNat_natCast, List.length_take]
    exact (Nat.div_lt_iff_lt_mul hs).2 (by omega)
theorem decBytes_short (x : List UInt8) (hx : x.length ≤ 9223372036854775807) (k : Nat) (hk : k < (encBytes x).length) : decBytes ((encBytes x).take k) = .error 3 := by
  unfold decBytes encBytes
  rw [encBytes, List.length_append] at hk
  rw [cnt_short hx x (by omega) (by omega)]
theorem decN_short {α : Type} {d : List UInt8 → Except Nat (α × Nat)} {e : α → List UInt8} : ∀ (l : List α) (k : Nat), (∀ x ∈ l, ∀ t, d (e x ++ t) = .ok (x, (e x).length)) → (∀ x ∈ l, ∀ k, k < (e x).length → d ((e x).take k) = .error 3) → k < (l.flatMap e).length → decN d l.length ((l.flatMap e).take k) = .error 3
  | [], k, _, _, hk => by simp at hk
  | x :: l, k, h, hs, hk => by
    rw [List.length_cons, decN, List.flatMap_cons]
    rw [List.flatMap_cons, List.length_append] at hk
    rcases Nat.lt_or_ge k (e x).length with h1 | h1
    · rw [List.take_append_of_le_length (by omega), hs x (List.mem_cons_self ..) k h1]
    · rw [List.take_append, List.take_of_length_le h1, h x (List.mem_cons_self ..)]
      simp only []
      rw [List.drop_left, decN_short l (k - (e x).length) (fun y hy => h y (List.mem_cons_of_mem _ hy)) (fun y hy => hs y (List.mem_cons_of_mem _ hy)) (by omega)]
theorem decList_short {α : Type} {d : List UInt8 → Except Nat (α × Nat)} {e : α → List UInt8} {s : Nat} (hs : 0 < s) (l : List α) (hl : l.length ≤ 9223372036854775807) (h1 : ∀ x ∈ l, s ≤ (e x).length) (h : ∀ x ∈ l, ∀ t, d (e x ++ t) = .ok (x, (e x).length))
    (hsh : ∀ x ∈ l, ∀ k, k < (e x).length → d ((e x).take k) = .error 3) (k : Nat) (hk : k < (encInt (l.length : Int) ++ l.flatMap e).length) : decList d s ((encInt (l.length : Int) ++ l.flatMap e).take k) = .error 3 := by
  have hmin := flat_min l h1
  unfold decList
  rw [List.length_append] at hk
  rcases Nat.lt_or_ge k ((encInt (l.length : Int)).length + l.length * s) with h2 | h2
  · rw [cnt_short hl _ hs h2]
  · rw [List.take_append, List.take_of_length_le (by omega), cnt_enc l.length hl _ s hs (by rw [List.length_take]; omega)]
    simp only []
    rw [List.drop_left, decN_short l _ h hsh (by omega)]
theorem decInts_short (l : List Int) (hl : l.length ≤ 9223372036854775807) (hI : ∀ x ∈ l, I64 x) (k : Nat) (hk : k < (encInts l).length) : decList decInt 1 ((encInts l).take k) = .error 3 :=
  decList_short (by omega) l hl (fun x _ => enc_pos x) (fun x hx t => dec_enc x (hI x hx) t) (fun x _ k h => dec_trunc x k h) k hk
theorem decStrs_short (l : List (List UInt8)) (hl : l.length ≤ 9223372036854775807) (hI : ∀ x ∈ l, x.length ≤ 9223372036854775807) (k : Nat) (hk : k < (encStrs l).length) : decList decBytes 1 ((encStrs l).take k) = .error 3 :=
  decList_short (by omega) l hl (fun x _ => encBytes_pos x) (fun x hx t => decBytes_enc x t (hI x hx)) (fun x hx k h => decBytes_short x (hI x hx) k h) k hk
theorem decDigs_short (l : List (List UInt8)) (hl : l.length ≤ 9223372036854775807) (h16 : D16 l) (k : Nat) (hk : k < (encDigs l).length) : decList decDig 16 ((encDigs l).take k) = .error 3 := by
  have hf := flatten16 l h16
  unfold decList encDigs
  rw [encDigs, List.length_append] at hk
  rw [cnt_short hl _ (by omega) (by omega)]
end Go.Proofs.Ytopppkafbbfobaa.W
