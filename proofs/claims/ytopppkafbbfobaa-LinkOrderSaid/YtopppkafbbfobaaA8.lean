/- Two ends in plain Lean: what is delivered is what was sent, in order. -/
import Derived.Test.YtopppkafbbfobaaA7
namespace Go.Proofs.Ytopppkafbbfobaa.W
/-- What the receiver B has of the sender A. -/
structure Dir (A B : St) : Prop where
  key : A.key = B.key
  got : B.got ≤ A.sent.length
  acked : A.acked ≤ B.got
  held : ∀ p ∈ B.held, B.got < p.1 ∧ p.1 ≤ A.sent.length ∧ p.2 = A.sent.getD (p.1 - 1) []
/-- A packet that A has made at some time. -/
def Flight (A : St) (pk : Bs) : Prop := ∃ s a m, pk = pkt A.key s a m ∧ m.length ≤ 65536 ∧ a ≤ A.got ∧ ((s = 0 ∧ m = []) ∨ (1 ≤ s ∧ s ≤ A.sent.length ∧ m = A.sent.getD (s - 1) []))
theorem flight_send {A : St} {pk : Bs} (h : Flight A pk) (b : Bs) : Flight (A.send b) pk := by
  obtain ⟨s, a, m, e, hm, ha, hs⟩ := h
  refine ⟨s, a, m, e, hm, ha, ?_⟩
  rcases hs with hs | ⟨h1, h2, h3⟩
  · exact .inl hs
  · refine .inr ⟨h1, by simp [St.send]; omega, ?_⟩
    rw [h3]
    simp only [St.send, List.getD_eq_getElem?_getD]
    rw [List.getElem?_append_left (by omega)]
theorem flight_got {A A' : St} {pk : Bs} (h : Flight A pk) (hk : A'.key = A.key) (hs : A'.sent = A.sent) (hg : A.got ≤ A'.got) : Flight A' pk := by
  obtain ⟨s, a, m, e, hm, ha, h⟩ := h
  exact ⟨s, a, m, by rw [hk]; exact e, hm, by omega, by rw [hs]; exact h⟩
theorem pkts_length (S : St) (k : Nat) : (S.pkts k).length = k := by simp [St.pkts]
theorem out_length (S : St) (h : S.Ok) : S.out.length ≤ 16 := by
  have := h.win
  unfold St.out
  split
  · simp
  · rw [pkts_length]; unfold St.many; omega
theorem flight_out {A : St} (h : A.Ok) {pk : Bs} (hp : pk ∈ A.out) : Flight A pk := by
  unfold St.out at hp
  split at hp
  · simp at hp
    subst hp
    exact ⟨0, A.got, [], rfl, by simp, Nat.le_refl _, .inl ⟨rfl, rfl⟩⟩
  · unfold St.pkts at hp
    obtain ⟨i, hi, rfl⟩ := List.mem_map.1 hp
    have hi2 := List.mem_range.1 hi
    unfold St.many St.waiting at hi2
    have hlt : A.acked + i < A.sent.length := by omega
    refine ⟨A.acked + i + 1, A.got, A.sent.getD (A.acked + i) [], rfl, ?_, Nat.le_refl _, .inr ⟨by omega, by omega, by simp⟩⟩
    rw [List.getD_eq_getElem?_getD, List.getElem?_eq_getElem hlt]
    exact h.small _ (List.getElem_mem _)
theorem dir_send {A B : St} (h : Dir A B) (b : Bs) : Dir (A.send b) B := by
  refine ⟨h.key, by have := h.got; simp [St.send]; omega, h.acked, fun p hp => ?_⟩
  obtain ⟨h1, h2, h3⟩ := h.held p hp
  refine ⟨h1, by simp [St.send]; omega, ?_⟩
  rw [h3]
  simp only [St.send, List.getD_eq_getElem?_getD]
  rw [List.getElem?_append_left (by omega)]
theorem dir_send' {A B : St} (h : Dir A B) (b : Bs) : Dir A (B.send b) := ⟨h.key, h.got, h.acked, h.held⟩
theorem dir_quiet {A B : St} (h : Dir A B) : Dir A.quiet B := ⟨h.key, h.got, h.acked, h.held⟩
theorem dir_quiet' {A B : St} (h : Dir A B) : Dir A B.quiet := ⟨h.key, h.got, h.acked, h.held⟩
theorem findH_mem {k : Nat} {l : List (Nat × Bs)} {b : Bs} (h : findH k l = some b) : (k, b) ∈ l := by
  unfold findH at h
  obtain ⟨p, hp, e⟩ := Option.map_eq_some_iff.1 h
  have h1 := List.mem_of_find?_eq_some hp
  have h2 := List.find?_some hp
  simp only [beq_iff_eq] at h2
  obtain ⟨p1, p2⟩ := p
  simp only at e h2
  subst e h2
  exact h1
/-- Held numbers are each there once. -/
def Once (l : List (Nat × Bs)) : Prop := (l.map (·.1)).Nodup
/-- What deliver hands over. -/
theorem deliver_sent (sent : List Bs) : ∀ (n : Nat) (S : St), S.got ≤ sent.length → (∀ p ∈ S.held, S.got < p.1 ∧ p.1 ≤ sent.length ∧ p.2 = sent.getD (p.1 - 1) []) → (S.held.map (·.1)).Nodup →
    S.got + (deliverN n S).1.length ≤ sent.length ∧ (deliverN n S).2.got = S.got + (deliverN n S).1.length ∧ (∀ r, r < (deliverN n S).1.length → (deliverN n S).1.getD r [] = sent.getD (S.got + r) []) ∧
    (∀ p ∈ (deliverN n S).2.held, (deliverN n S).2.got < p.1 ∧ p.1 ≤ sent.length ∧ p.2 = sent.getD (p.1 - 1) []) ∧ ((deliverN n S).2.held.map (·.1)).Nodup
  | 0, S, hg, hh, hn => by
    have e : deliverN 0 S = ([], S) := rfl
    rw [e]
    exact ⟨by simpa using hg, by simp, by simp, hh, hn⟩
  | n + 1, S, hg, hh, hn => by
    cases hf : findH (S.got + 1) S.held with
    | none =>
      have e : deliverN (n + 1) S = ([], S) := by rw [deliverN, hf]
      rw [e]
      exact ⟨by simpa using hg, by simp, by simp, hh, hn⟩
    | some b =>
      have e : deliverN (n + 1) S = (b :: (deliverN n S.next).1, (deliverN n S.next).2) := by rw [deliverN, hf]; rfl
      obtain ⟨h1, h2, h3⟩ := hh _ (findH_mem hf)
      have hsub : List.Sublist (dropH (S.got + 1) S.held) S.held := List.eraseP_sublist
      have hne : ∀ p ∈ dropH (S.got + 1) S.held, p.1 ≠ S.got + 1 := by
        intro p hp e1
        have hpm := findH_mem hf
        -- two entries with the same number: not in a list without doubles
        clear e hh h1 h2 h3 hsub hg
        unfold dropH at hp
        generalize S.held = l at *
        induction l with
        | nil => simp at hp
        | cons q l ih =>
          rw [List.eraseP_cons] at hp
          simp only [List.map_cons, List.nodup_cons] at hn
          cases hq : q.1 == S.got + 1 with
          | true =>
            rw [hq] at hp
            simp only [cond_true] at hp
            have : q.1 = S.got + 1 := by simpa using hq
            exact hn.1 (by rw [this, ← e1]; exact List.mem_map_of_mem hp)
          | false =>
            rw [hq] at hp
            simp only [cond_false] at hp
            have hq' : q.1 ≠ S.got + 1 := by simpa using hq
            rcases List.mem_cons.1 hp with rfl | hp
            · exact hq' e1
            · have hf' : findH (S.got + 1) l = some b := by
                unfold findH at hf ⊢
                rw [List.find?_cons, hq] at hf
                exact hf
              rcases List.mem_cons.1 hpm with e2 | hpm
              · rw [← e2] at hq'; exact hq' rfl
              · exact ih hn.2 hf' hp hpm
      have ih := deliver_sent sent n S.next (by show S.got + 1 ≤ _; omega) (fun p hp => by
        have hp' : p ∈ dropH (S.got + 1) S.held := hp
        obtain ⟨i1, i2, i3⟩ := hh p (dropH_mem hp')
        have := hne p hp'
        exact ⟨by show S.got + 1 < p.1; omega, i2, i3⟩) (by
        show ((dropH (S.got + 1) S.held).map (·.1)).Nodup
        exact hn.sublist (hsub.map _))
      rw [e]
      obtain ⟨i1, i2, i3, i4, i5⟩ := ih
      have eg : S.next.got = S.got + 1 := rfl
      rw [eg] at i1 i2 i3
      refine ⟨by simp only [List.length_cons]; omega, by simp only [List.length_cons]; omega, ?_, i4, i5⟩
      intro r hr
      cases r with
      | zero => simpa using h3
      | succ r =>
        simp only [List.length_cons] at hr
        have := i3 r (by omega)
        simp only [List.getD_cons_succ]
        rw [this]
        congr 1
        omega
/-- An end's bounds, and each held number once. -/
structure St.Fit (S : St) : Prop where
  ok : S.Ok
  once : (S.held.map (·.1)).Nodup
theorem findH_none {k : Nat} {l : List (Nat × Bs)} (h : findH k l = none) : ∀ p ∈ l, p.1 ≠ k := by
  intro p hp e
  unfold findH at h
  have := List.find?_eq_none.1 (Option.map_eq_none_iff.1 h) p hp
  exact this (by simpa using e)
/-- A packet of the other end, taken. -/
theorem flight_take {A B : St} {s a : Nat} {m : Bs} (hn : (B.held.map (·.1)).Nodup) (hAB : Dir A B) (hBA : Dir B A) (ha : a ≤ A.got) (hs : (s = 0 ∧ m = []) ∨ (1 ≤ s ∧ s ≤ A.sent.length ∧ m = A.sent.getD (s - 1) [])) :
    Dir A (B.take s a m).2 ∧ Dir (B.take s a m).2 A ∧ ((B.take s a m).2.held.map (·.1)).Nodup ∧ (B.take s a m).2.sent = B.sent ∧ (B.take s a m).2.got = B.got + (B.take s a m).1.length ∧ B.got + (B.take s a m).1.length ≤ A.sent.length ∧
    (∀ r, r < (B.take s a m).1.length → (B.take s a m).1.getD r [] = A.sent.getD (B.got + r) []) ∧ (B.take s a m).2.key = B.key := by
  have hack : max B.acked a ≤ A.got := by have := hBA.acked; omega
  unfold St.take
  by_cases h1 : B.sent.length < a ∨ B.got + 16 < s
  · rw [if_pos h1]
    exact ⟨hAB, hBA, hn, rfl, by simp, by simpa using hAB.got, by simp, rfl⟩
  rw [if_neg h1]
  simp only []
  by_cases h0 : s = 0
  · rw [if_pos h0]
    exact ⟨⟨hAB.key, hAB.got, hAB.acked, hAB.held⟩, ⟨hBA.key, hBA.got, hack, hBA.held⟩, hn, rfl, by simp, by simpa using hAB.got, by simp, rfl⟩
  rw [if_neg h0]
  by_cases h2 : s ≤ B.got ∨ (findH s B.held).isSome
  · rw [if_pos h2]
    exact ⟨⟨hAB.key, hAB.got, hAB.acked, hAB.held⟩, ⟨hBA.key, hBA.got, hack, hBA.held⟩, hn, rfl, by simp, by simpa using hAB.got, by simp, rfl⟩
  rw [if_neg h2]
  have hs' : 1 ≤ s ∧ s ≤ A.sent.length ∧ m = A.sent.getD (s - 1) [] := by
    rcases hs with hs | hs
    · exact absurd hs.1 h0
    · exact hs
  obtain ⟨g1, g2, g3⟩ := hs'
  have hfn : findH s B.held = none := by
    cases hf : findH s B.held with
    | none => rfl
    | some x => exact absurd (.inr (by rw [hf]; rfl)) h2
  obtain ⟨i1, i2, i3, i4, i5⟩ := deliver_sent A.sent (B.held.length + 2) { B with acked := max B.acked a, owing := true, held := B.held ++ [(s, m)] } hAB.got (fun p hp => by
    have hp' : p ∈ B.held ++ [(s, m)] := hp
    rcases List.mem_append.1 hp' with hp | hp
    · exact hAB.held p hp
    · simp at hp
      subst hp
      exact ⟨by show B.got < s; omega, g2, g3⟩) (by
    show ((B.held ++ [(s, m)]).map (·.1)).Nodup
    rw [List.map_append, List.nodup_append]
    refine ⟨hn, by simp, fun x hx y hy => ?_⟩
    simp at hy
    subst hy
    obtain ⟨p, hp, rfl⟩ := List.mem_map.1 hx
    exact findH_none hfn p hp)
  obtain ⟨_, _, _, _, _, j6⟩ := deliver_inv (B.held.length + 2) { B with acked := max B.acked a, owing := true, held := B.held ++ [(s, m)] } (by simp)
  generalize deliverN (B.held.length + 2) { B with acked := max B.acked a, owing := true, held := B.held ++ [(s, m)] } = r at *
  have e1 : r.2.key = B.key := by rw [j6]
  have e2 : r.2.acked = max B.acked a := by rw [j6]
  have e3 : r.2.sent = B.sent := by rw [j6]
  simp only at i1 i2 i3
  refine ⟨⟨by rw [e1]; exact hAB.key, by omega, by have := hAB.acked; omega, i4⟩, ⟨by rw [e1]; exact hBA.key, by rw [e3]; exact hBA.got, by rw [e2]; exact hack, by rw [e3]; exact hBA.held⟩, i5, e3, i2, i1, i3, e1⟩
end Go.Proofs.Ytopppkafbbfobaa.W
