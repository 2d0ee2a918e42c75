/- An end's bounds, kept by what it does. -/
import Derived.Test.YtopppkafbbfobaaC72
namespace Go.Proofs.Ytopppkafbbfobaa.W
theorem ok_new {win key : Nat} (hk : key < 18446744073709551616) (h1 : 1 ≤ win) (h2 : win ≤ 16) : (St.new win key).Ok := by
  constructor <;> simp [St.new, findH, hk, h1, h2]
theorem ok_quiet {S : St} (h : S.Ok) : S.quiet.Ok := ⟨h.key, h.win1, h.win, h.acked, h.sent, h.got, h.forged, h.small, h.first, h.keys, h.few⟩
theorem ok_forge {S : St} (h : S.Ok) (hf : S.forged + 1 ≤ 1000000) : S.forge.Ok := ⟨h.key, h.win1, h.win, h.acked, h.sent, h.got, hf, h.small, h.first, h.keys, h.few⟩
theorem ok_send {S : St} (h : S.Ok) {b : Bs} (hb : b.length ≤ 65536) (hs : S.sent.length + 1 ≤ 1000000) : (S.send b).Ok := by
  refine ⟨h.key, h.win1, h.win, ?_, ?_, h.got, h.forged, ?_, h.first, h.keys, h.few⟩
  · have := h.acked; simp [St.send]; omega
  · simpa [St.send] using hs
  · intro x hx
    simp only [St.send, List.mem_append, List.mem_singleton] at hx
    rcases hx with hx | rfl
    · exact h.small x hx
    · exact hb
theorem dropH_mem {k : Nat} {l : List (Nat × Bs)} {p : Nat × Bs} (h : p ∈ dropH k l) : p ∈ l := List.mem_of_mem_eraseP h
/-- What deliver leaves. -/
theorem deliver_inv : ∀ (n : Nat) (S : St), S.held.length < n → (deliverN n S).2.got + (deliverN n S).2.held.length = S.got + S.held.length ∧ (deliverN n S).1.length + S.got = (deliverN n S).2.got ∧
    (∀ p ∈ (deliverN n S).2.held, p ∈ S.held) ∧ findH ((deliverN n S).2.got + 1) (deliverN n S).2.held = none ∧ (∀ b ∈ (deliverN n S).1, ∃ k, (k, b) ∈ S.held) ∧
    (deliverN n S).2 = { S with got := (deliverN n S).2.got, held := (deliverN n S).2.held }
  | 0, _, h => absurd h (Nat.not_lt_zero _)
  | n + 1, S, h => by
    cases hf : findH (S.got + 1) S.held with
    | none =>
      have e : deliverN (n + 1) S = ([], S) := by rw [deliverN, hf]
      rw [e]
      exact ⟨rfl, by simp, fun p hp => hp, hf, by simp, rfl⟩
    | some b =>
      have hl := dropH_length hf
      have ih := deliver_inv n { S with got := S.got + 1, held := dropH (S.got + 1) S.held } (by show (dropH (S.got + 1) S.held).length < n; omega)
      have e : deliverN (n + 1) S = (b :: (deliverN n { S with got := S.got + 1, held := dropH (S.got + 1) S.held }).1, (deliverN n { S with got := S.got + 1, held := dropH (S.got + 1) S.held }).2) := by rw [deliverN, hf]
      rw [e]
      obtain ⟨i1, i2, i3, i4, i5, i6⟩ := ih
      simp only at i1 i2 i3 i4 i5 i6 ⊢
      refine ⟨by omega, by rw [List.length_cons]; omega, fun p hp => dropH_mem (i3 p hp), i4, ?_, i6⟩
      intro x hx
      rcases List.mem_cons.1 hx with rfl | hx
      · unfold findH at hf
        obtain ⟨p, hp, e⟩ := Option.map_eq_some_iff.1 hf
        refine ⟨p.1, ?_⟩
        rw [← e]
        exact List.mem_of_find?_eq_some hp
      · obtain ⟨k, hk⟩ := i5 x hx
        exact ⟨k, dropH_mem hk⟩
theorem ok_take {S : St} (h : S.Ok) {s a : Nat} {m : Bs} (hm : m.length ≤ 65536) (hg : S.got + S.held.length + 1 ≤ 1000000) :
    (S.take s a m).2.Ok ∧ (S.take s a m).2.got + (S.take s a m).2.held.length ≤ S.got + S.held.length + 1 ∧ (S.take s a m).2.forged = S.forged ∧ (S.take s a m).2.sent = S.sent ∧ (S.take s a m).1.length ≤ S.held.length + 1 := by
  unfold St.take
  by_cases h1 : S.sent.length < a ∨ S.got + 16 < s
  · rw [if_pos h1]
    exact ⟨h, by simp only []; omega, rfl, rfl, Nat.zero_le _⟩
  rw [if_neg h1]
  simp only []
  have hak : max S.acked a ≤ S.sent.length := by have := h.acked; omega
  by_cases h0 : s = 0
  · rw [if_pos h0]
    exact ⟨⟨h.key, h.win1, h.win, hak, h.sent, h.got, h.forged, h.small, h.first, h.keys, h.few⟩, by simp only []; omega, rfl, rfl, Nat.zero_le _⟩
  rw [if_neg h0]
  by_cases h2 : s ≤ S.got ∨ (findH s S.held).isSome
  · rw [if_pos h2]
    exact ⟨⟨h.key, h.win1, h.win, hak, h.sent, h.got, h.forged, h.small, h.first, h.keys, h.few⟩, by simp only []; omega, rfl, rfl, Nat.zero_le _⟩
  rw [if_neg h2]
  obtain ⟨i1, i2, i3, i4, i5, i6⟩ := deliver_inv (S.held.length + 2) { S with acked := max S.acked a, owing := true, held := S.held ++ [(s, m)] } (by simp)
  generalize deliverN (S.held.length + 2) { S with acked := max S.acked a, owing := true, held := S.held ++ [(s, m)] } = r at *
  simp only [List.length_append, List.length_cons, List.length_nil] at i1 i2 i3 i5
  have hgot := h.got
  refine ⟨?_, by omega, by rw [i6], by rw [i6], by omega⟩
  have e1 : r.2.key = S.key := by rw [i6]
  have e2 : r.2.win = S.win := by rw [i6]
  have e3 : r.2.acked = max S.acked a := by rw [i6]
  have e4 : r.2.sent = S.sent := by rw [i6]
  have e5 : r.2.forged = S.forged := by rw [i6]
  refine ⟨by rw [e1]; exact h.key, by rw [e2]; exact h.win1, by rw [e2]; exact h.win, by rw [e3, e4]; exact hak, by rw [e4]; exact h.sent, by omega, by rw [e5]; exact h.forged, by rw [e4]; exact h.small, i4, ?_, by omega⟩
  intro p hp
  have := i3 p hp
  rcases List.mem_append.1 this with hp | hp
  · exact h.keys p hp
  · simp at hp
    subst hp
    exact ⟨by simp only []; omega, hm⟩
end Go.Proofs.Ytopppkafbbfobaa.W
