/- What is decoded is an encoding, as the statement asks for it, in plain Lean. -/
import Derived.Test.YtopppkafbbfobaaA2
import Derived.Test.YtopppkafbbfobaaL4
namespace Go.Proofs.Ytopppkafbbfobaa.W

/-- Either an error, or the encoding is what was read. -/
def Can (l e : List UInt8) (u k : Int) : Prop := k ≠ 0 ∨ (k = 0 ∧ ∃ q : Nat, q ≤ l.length ∧ u = (q : Int) ∧ e = l.take q)

theorem can_int (l : List UInt8) : ∃ a u k : Int, resI (decInt l) = .tuple #[.int .i64 a, .int .i64 u, .int .i64 k] ∧ I64 a ∧ Can l (encInt a) u k := by
  cases h : decInt l with
  | error e =>
    have := dec_err h
    exact ⟨0, 0, (e : Int), rfl, ⟨by omega, by omega⟩, .inl (by omega)⟩
  | ok x =>
    obtain ⟨a, u⟩ := x
    obtain ⟨h1, _, _, h4⟩ := dec_bounds h
    exact ⟨a, (u : Int), 0, rfl, h1, .inr ⟨rfl, u, h4, rfl, enc_dec h⟩⟩
theorem can_bytes (l : List UInt8) : ∃ (a : List UInt8) (u k : Int), resB (decBytes l) = .tuple #[str a, .int .i64 u, .int .i64 k] ∧ a.length ≤ l.length ∧ Can l (encBytes a) u k := by
  cases h : decBytes l with
  | error e =>
    have := decBytes_err h
    exact ⟨[], 0, (e : Int), rfl, Nat.zero_le _, .inl (by omega)⟩
  | ok x =>
    obtain ⟨a, u⟩ := x
    obtain ⟨h1, h2⟩ := decBytes_take h
    refine ⟨a, (u : Int), 0, rfl, ?_, .inr ⟨rfl, u, h2, rfl, h1⟩⟩
    have := congrArg List.length h1
    rw [encBytes, List.length_append, List.length_take] at this
    omega
theorem decN_err {α : Type} {d : List UInt8 → Except Nat (α × Nat)} (hd : ∀ b k, d b = .error k → k = 2 ∨ k = 3) : ∀ (n : Nat) (b : List UInt8) (k : Nat), decN d n b = .error k → k = 2 ∨ k = 3
  | 0, b, k, h => by simp [decN] at h
  | n + 1, b, k, h => by
    rw [decN] at h
    split at h
    · rename_i h1
      cases h
      exact hd _ _ h1
    split at h
    · rename_i h2
      cases h
      exact decN_err hd n _ _ h2
    · cases h
theorem decList_err {α : Type} {d : List UInt8 → Except Nat (α × Nat)} (hd : ∀ b k, d b = .error k → k = 2 ∨ k = 3) {s : Nat} {b : List UInt8} {k : Nat} (h : decList d s b = .error k) : k = 2 ∨ k = 3 := by
  unfold decList at h
  split at h
  · rename_i h1
    cases h
    exact cnt_err h1
  split at h
  · rename_i h2
    cases h
    exact decN_err hd _ _ _ h2
  · cases h
theorem decN_all {α : Type} {d : List UInt8 → Except Nat (α × Nat)} {Q : α → Prop} (hd : ∀ b x u, d b = .ok (x, u) → Q x) : ∀ (n : Nat) (b : List UInt8) (l : List α) (u : Nat), decN d n b = .ok (l, u) → ∀ x ∈ l, Q x
  | 0, b, l, u, h => by
    simp only [decN, Except.ok.injEq, Prod.mk.injEq] at h
    rw [← h.1]; exact fun _ h => by cases h
  | n + 1, b, l, u, h => by
    rw [decN] at h
    split at h
    · cases h
    rename_i x u1 h1
    split at h
    · cases h
    rename_i l2 u2 h2
    simp only [Except.ok.injEq, Prod.mk.injEq] at h
    rw [← h.1]
    intro y hy
    rcases List.mem_cons.1 hy with rfl | hy
    · exact hd _ _ _ h1
    · exact decN_all hd n _ _ _ h2 y hy
theorem decList_all {α : Type} {d : List UInt8 → Except Nat (α × Nat)} {Q : α → Prop} (hd : ∀ b x u, d b = .ok (x, u) → Q x) {s : Nat} {b : List UInt8} {l : List α} {u : Nat} (h : decList d s b = .ok (l, u)) : ∀ x ∈ l, Q x := by
  unfold decList at h
  split at h
  · cases h
  split at h
  · cases h
  rename_i l2 u2 h2
  simp only [Except.ok.injEq, Prod.mk.injEq] at h
  rw [← h.1]
  exact decN_all hd _ _ _ _ h2
theorem can_ints (l : List UInt8) (xs : List Int) (u k : Int) (hf : flat (decList decInt 1 l) = (xs, u, k)) : (∀ x ∈ xs, I64 x) ∧ xs.length ≤ l.length ∧ Can l (encInts xs) u k := by
  cases h : decList decInt 1 l with
  | error e =>
    have := decList_err (fun _ _ h => dec_err h) h
    rw [h] at hf
    simp only [flat, Prod.mk.injEq] at hf
    obtain ⟨rfl, rfl, rfl⟩ := hf
    exact ⟨fun _ h => (by cases h), Nat.zero_le _, .inl (by omega)⟩
  | ok x =>
    obtain ⟨a, v⟩ := x
    rw [h] at hf
    simp only [flat, Prod.mk.injEq] at hf
    obtain ⟨rfl, rfl, rfl⟩ := hf
    obtain ⟨h1, h2⟩ := decList_take (e := encInt) (fun b x u hd => ⟨enc_dec hd, (dec_bounds hd).2.2.2⟩) h (fun n b l u hd => decN_len n b hd)
    exact ⟨decList_all (fun b x u hd => (dec_bounds hd).1) h, by have := decList_len (by omega) h; omega, .inr ⟨rfl, v, h2, rfl, h1⟩⟩
theorem can_strs (l : List UInt8) (xs : List (List UInt8)) (u k : Int) (hf : flat (decList decBytes 1 l) = (xs, u, k)) : (encStrs xs).length ≤ l.length + 1 ∧ Can l (encStrs xs) u k := by
  cases h : decList decBytes 1 l with
  | error e =>
    have := decList_err (fun _ _ h => decBytes_err h) h
    rw [h] at hf
    simp only [flat, Prod.mk.injEq] at hf
    obtain ⟨rfl, rfl, rfl⟩ := hf
    exact ⟨by have : (encStrs []).length = 1 := by decide
              omega, .inl (by omega)⟩
  | ok x =>
    obtain ⟨a, v⟩ := x
    rw [h] at hf
    simp only [flat, Prod.mk.injEq] at hf
    obtain ⟨rfl, rfl, rfl⟩ := hf
    obtain ⟨h1, h2⟩ := decList_take (e := encBytes) (fun b x u hd => decBytes_take hd) h (fun n b l u hd => decN_len n b hd)
    have h3 : encStrs a = l.take v := h1
    exact ⟨by rw [h3, List.length_take]; omega, .inr ⟨rfl, v, h2, rfl, h3⟩⟩
theorem can_digs (l : List UInt8) (xs : List (List UInt8)) (u k : Int) (hf : flat (decList decDig 16 l) = (xs, u, k)) : D16 xs ∧ xs.length ≤ l.length ∧ Can l (encDigs xs) u k := by
  have h16 := flat_dig16 l
  rw [hf] at h16
  refine ⟨h16, ?_⟩
  cases h : decList decDig 16 l with
  | error e =>
    have := decList_err (fun _ _ h => by simp [decDig] at h) h
    rw [h] at hf
    simp only [flat, Prod.mk.injEq] at hf
    obtain ⟨rfl, rfl, rfl⟩ := hf
    exact ⟨Nat.zero_le _, .inl (by omega)⟩
  | ok x =>
    obtain ⟨a, v⟩ := x
    rw [h] at hf
    simp only [flat, Prod.mk.injEq] at hf
    obtain ⟨rfl, rfl, rfl⟩ := hf
    have hlen := decList_len (by omega) h
    unfold decList at h
    split at h
    · cases h
    rename_i n q hc
    split at h
    · cases h
    rename_i l2 u2 h2
    simp only [Except.ok.injEq, Prod.mk.injEq] at h
    obtain ⟨rfl, rfl⟩ := h
    obtain ⟨e1, l1⟩ := cnt_take hc
    obtain ⟨e2, l2'⟩ := decDig_digs n _ _ _ (by rw [List.length_drop]; omega) h2
    refine ⟨by omega, .inr ⟨rfl, q + u2, by omega, rfl, ?_⟩⟩
    rw [encDigs_flat, decN_len n _ h2, e1, e2, List.take_add]
end Go.Proofs.Ytopppkafbbfobaa.W
