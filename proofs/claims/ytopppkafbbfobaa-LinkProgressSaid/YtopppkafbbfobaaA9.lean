/- Progress in plain Lean: packets of Out delivered in turn. -/
import Derived.Test.YtopppkafbbfobaaA8
import Derived.Test.YtopppkafbbfobaaC5T
namespace Go.Proofs.Ytopppkafbbfobaa.W
/-- A's packets are about to be delivered to B. -/
structure Turn (A B : St) : Prop where
  key : A.key = B.key
  at_ : A.acked = B.got
  owes : B.acked = A.got ∨ A.owing = true
  le : B.acked ≤ A.got
  gotB : B.got ≤ A.sent.length
  gotA : A.got ≤ B.sent.length
  noneA : A.held = []
  noneB : B.held = []
/-- B behind i of A's packets, of which each bears a message. -/
def St.eaten (B A : St) (i : Nat) : St := if i = 0 then B else { B with acked := max B.acked A.got, got := B.got + i, owing := true }
/-- B behind all that A sends. -/
def St.after (B A : St) : St := if A.many = 0 then (if A.owing = true then { B with acked := max B.acked A.got } else B) else B.eaten A A.many
theorem take_next {B : St} {a : Nat} {m : Bs} (hh : B.held = []) (ha : a ≤ B.sent.length) : B.take (B.got + 1) a m = ([m], { B with acked := max B.acked a, owing := true, got := B.got + 1 }) := by
  unfold St.take
  rw [if_neg (by omega)]
  simp only [hh]
  rw [if_neg (by omega), if_neg (by simp [findH])]
  simp [deliverN, findH, dropH]
theorem nth_eq {A B : St} (h : Turn A B) {i : Nat} : A.nth i = pkt B.key (B.got + i + 1) A.got (A.sent.getD (B.got + i) []) := by
  unfold St.nth; rw [h.key, h.at_]
theorem eaten_step {A B : St} (h : Turn A B) {i : Nat} : (B.eaten A i).take (B.got + i + 1) A.got (A.sent.getD (B.got + i) []) = ([A.sent.getD (B.got + i) []], B.eaten A (i + 1)) := by
  have h1 : (B.eaten A i).held = [] := by unfold St.eaten; split <;> exact h.noneB
  have h2 : (B.eaten A i).got = B.got + i := by unfold St.eaten; split <;> simp_all
  have h3 : (B.eaten A i).sent = B.sent := by unfold St.eaten; split <;> rfl
  have := take_next (B := B.eaten A i) (a := A.got) (m := A.sent.getD (B.got + i) []) h1 (by rw [h3]; exact h.gotA)
  rw [h2] at this
  rw [this]
  congr 1
  unfold St.eaten
  rw [if_neg (Nat.succ_ne_zero i)]
  by_cases h0 : i = 0
  · subst h0; rfl
  · rw [if_neg h0]
    simp only [Nat.add_assoc]
    congr 1
    exact Nat.max_eq_left (Nat.le_max_right _ _)
theorem after_turn {A B : St} (h : Turn A B) : Turn (B.after A) A.quiet := by
  have hmax : max B.acked A.got = A.got := Nat.max_eq_right h.le
  unfold St.after
  by_cases hm : A.many = 0
  · rw [if_pos hm]
    by_cases ho : A.owing = true
    · rw [if_pos ho]
      exact ⟨h.key.symm, hmax, .inl h.at_, by show A.acked ≤ B.got; rw [h.at_]; exact Nat.le_refl _, h.gotA, h.gotB, h.noneB, h.noneA⟩
    · rw [if_neg ho]
      have h2 : B.acked = A.got := h.owes.resolve_right ho
      exact ⟨h.key.symm, h2, .inl h.at_, by show A.acked ≤ B.got; rw [h.at_]; exact Nat.le_refl _, h.gotA, h.gotB, h.noneB, h.noneA⟩
  · rw [if_neg hm]
    unfold St.eaten
    rw [if_neg hm]
    have hmm : A.many ≤ A.sent.length - A.acked := Nat.min_le_left _ _
    have := h.at_
    have := h.gotB
    exact ⟨h.key.symm, hmax, .inr rfl, by show A.acked ≤ B.got + A.many; omega, h.gotA, by show B.got + A.many ≤ A.sent.length; omega, h.noneB, h.noneA⟩
theorem after_got {A B : St} (h : Turn A B) (hw : 1 ≤ A.win) : (B.after A).got = B.got + A.many ∧ (B.after A).sent = B.sent ∧ (B.after A).acked = A.got ∧ (B.after A).forged = B.forged ∧ (B.after A).win = B.win ∧ (∀ n k, n ≤ A.sent.length → min n k ≤ B.got → min n (k + 1) ≤ (B.after A).got) := by
  have hmax : max B.acked A.got = A.got := Nat.max_eq_right h.le
  have hat := h.at_
  have hgB := h.gotB
  have hmany : A.many = min (A.sent.length - A.acked) A.win := rfl
  have hgot : (B.after A).got = B.got + A.many := by
    unfold St.after
    by_cases hm : A.many = 0
    · rw [if_pos hm, hm]; split <;> rfl
    · rw [if_neg hm]; unfold St.eaten; rw [if_neg hm]
  refine ⟨hgot, ?_, ?_, ?_, ?_, ?_⟩
  · unfold St.after St.eaten; (repeat' split) <;> rfl
  · unfold St.after
    by_cases hm : A.many = 0
    · rw [if_pos hm]
      by_cases ho : A.owing = true
      · rw [if_pos ho]; exact hmax
      · rw [if_neg ho]; exact h.owes.resolve_right ho
    · rw [if_neg hm]; unfold St.eaten; rw [if_neg hm]; exact hmax
  · unfold St.after St.eaten; (repeat' split) <;> rfl
  · unfold St.after St.eaten; (repeat' split) <;> rfl
  · intro n k hn hk
    rw [hgot, hmany]
    omega
/-- n messages of one byte: their numbers. -/
def mss (n : Nat) : List Bs := (List.range n).map fun j => [UInt8.ofNat j]
def stP (win key n : Nat) : St := { St.new win key with sent := mss n }
theorem mss_length (n : Nat) : (mss n).length = n := by simp [mss]
theorem mss_succ (n : Nat) : mss (n + 1) = mss n ++ [[UInt8.ofNat n]] := by simp [mss, List.range_succ]
theorem mss_get {n i : Nat} (h : i < n) : (mss n).getD i [] = [UInt8.ofNat i] := by simp [mss, List.getD_eq_getElem?_getD, h]
theorem stP_send (win key n : Nat) : (stP win key n).send [UInt8.ofNat n] = stP win key (n + 1) := by
  unfold St.send stP
  simp only [mss_succ]
theorem stP_ok {win key n : Nat} (hk : key < 18446744073709551616) (h1 : 1 ≤ win) (h2 : win ≤ 16) (hn : n ≤ 900) : (stP win key n).Ok := by
  induction n with
  | zero => exact ok_new hk h1 h2
  | succ n ih =>
    rw [← stP_send]
    exact ok_send (ih (by omega)) (by simp) (by simp [stP, mss_length]; omega)
theorem stP_full {win key n : Nat} (hn : n ≤ 900) (x : UInt8) : (stP win key n).full [x] = false := by
  simp [St.full, St.waiting, stP, St.new, mss_length]; omega
/-- B behind the first i of A's packets. -/
def St.fed (B A : St) (i : Nat) : St := if A.many = 0 then (if i = 0 then B else { B with acked := max B.acked A.got }) else B.eaten A i
theorem fed_zero (B A : St) : B.fed A 0 = B := by
  unfold St.fed St.eaten
  split <;> rfl
theorem out_one {A : St} (hm : A.many = 0) (ho : A.owing = true) : A.out = [A.ackP] := if_pos ⟨hm, ho⟩
theorem out_pkts {A : St} (h : ¬ (A.many = 0 ∧ A.owing = true)) : A.out = A.pkts A.many := if_neg h
theorem fed_none {A B : St} (hm : A.many = 0) (i : Nat) : B.fed A (i + 1) = { B with acked := max B.acked A.got } := by
  unfold St.fed
  rw [if_pos hm, if_neg (Nat.succ_ne_zero i)]
theorem fed_some {A B : St} (hm : ¬ A.many = 0) (i : Nat) : B.fed A i = B.eaten A i := if_neg hm
theorem fed_end (A B : St) : B.fed A A.out.length = B.after A := by
  by_cases hm : A.many = 0
  · by_cases ho : A.owing = true
    · rw [out_one hm ho]
      show B.fed A (0 + 1) = _
      rw [fed_none hm]
      unfold St.after
      rw [if_pos hm, if_pos ho]
    · rw [out_pkts (fun h => ho h.2), pkts_length, hm, fed_zero]
      unfold St.after
      rw [if_pos hm, if_neg ho]
  · rw [out_pkts (fun h => hm h.1), pkts_length, fed_some hm]
    unfold St.after
    rw [if_neg hm]
theorem fed_ok {A B : St} (h : Turn A B) (hB : B.Ok) {i : Nat} (hi : B.got + i ≤ 1000000) : (B.fed A i).Ok := by
  have hack : max B.acked A.got ≤ B.sent.length := by have := h.gotA; have := hB.acked; omega
  have hf : ∀ k, findH k B.held = none := fun k => by rw [h.noneB]; rfl
  have hke : ∀ p ∈ B.held, p.1 ≤ 1000100 ∧ p.2.length ≤ 65536 := fun p hp => by rw [h.noneB] at hp; cases hp
  unfold St.fed St.eaten
  split
  · split
    · exact hB
    · exact ⟨hB.key, hB.win1, hB.win, hack, hB.sent, hB.got, hB.forged, hB.small, hf _, hke, hB.few⟩
  · split
    · exact hB
    · exact ⟨hB.key, hB.win1, hB.win, hack, hB.sent, hi, hB.forged, hB.small, hf _, hke, hB.few⟩
theorem eaten_key (B A : St) (i : Nat) : (B.eaten A i).key = B.key := by unfold St.eaten; split <;> rfl
theorem eaten_got (B A : St) (i : Nat) : (B.eaten A i).got = B.got + i := by unfold St.eaten; split <;> simp_all
theorem fed_step {A B : St} (h : Turn A B) (hA : A.Ok) {i : Nat} (hi : i < A.out.length) : ∃ ls, (B.fed A i).inn (A.out.getD i []) = (ls, 0, B.fed A (i + 1)) ∧ ls.length ≤ 1 ∧ (B.fed A (i + 1)).got = (B.fed A i).got + ls.length ∧
    ∀ j, j < ls.length → ls.getD j [] = A.sent.getD ((B.fed A i).got + j) [] ∧ (B.fed A i).got + j < A.sent.length := by
  have hag := hA.got
  by_cases hm : A.many = 0
  · by_cases ho : A.owing = true
    · rw [out_one hm ho] at hi ⊢
      have hi0 : i = 0 := by simp at hi; omega
      subst hi0
      refine ⟨[], ?_, by simp, by rw [fed_none hm, fed_zero]; rfl, by simp⟩
      rw [fed_none hm, fed_zero]
      have e1 : [A.ackP].getD 0 [] = pkt B.key 0 A.got [] := by unfold St.ackP; rw [h.key]; rfl
      rw [e1, inn_pkt (by omega) (by omega) (by simp) (.inr rfl), take_ack (by have := h.gotA; omega)]
      rfl
    · rw [out_pkts (fun h => ho h.2), pkts_length, hm] at hi
      omega
  · rw [out_pkts (fun h => hm h.1)] at hi ⊢
    rw [pkts_length] at hi
    rw [fed_some hm, fed_some hm]
    have hmm : A.many ≤ A.sent.length - A.acked := Nat.min_le_left _ _
    have hat := h.at_
    have hlt : B.got + i < A.sent.length := by omega
    have hsl := hA.sent
    have e1 : (A.pkts A.many).getD i [] = pkt (B.eaten A i).key (B.got + i + 1) A.got (A.sent.getD (B.got + i) []) := by
      rw [eaten_key, ← nth_eq h]
      simp [St.pkts, List.getD_eq_getElem?_getD, hi]
    have hml : (A.sent.getD (B.got + i) []).length ≤ 65536 := by
      rw [List.getD_eq_getElem?_getD, List.getElem?_eq_getElem hlt]
      exact hA.small _ (List.getElem_mem _)
    refine ⟨[A.sent.getD (B.got + i) []], ?_, by simp, ?_, ?_⟩
    · rw [e1, inn_pkt (by omega) (by omega) hml (.inl (by omega)), eaten_step h]
    · rw [eaten_got, eaten_got]; simp; omega
    · intro j hj
      have : j = 0 := by simp at hj; omega
      subst this
      rw [eaten_got]
      exact ⟨rfl, hlt⟩
/-- A round's k-th half is about to begin. -/
structure Stg (n : Nat → Nat) (r k : Nat) (E : Nat → St) : Prop where
  ok : ∀ j, j < 2 → (E j).Ok
  sent : ∀ j, j < 2 → (E j).sent = mss (n j)
  turn : Turn (E k) (E (1 - k))
  g0 : min (n 1) r ≤ (E 0).got
  g1 : min (n 0) (r + k) ≤ (E 1).got
  a1 : min (n 1) (r + k - 1) ≤ (E 1).acked
end Go.Proofs.Ytopppkafbbfobaa.W
