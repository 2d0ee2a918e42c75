/- The link in plain Lean: an end's state, what it sends and what it takes. -/
import Derived.Test.YtopppkafbbfobaaA2
import Derived.Test.YtopppkafbbfobaaA4
namespace Go.Proofs.Ytopppkafbbfobaa.W

abbrev Bs := List UInt8
def sealed (key : Nat) (l : Bs) : Bs := l ++ stamp key l
def openP (key : Nat) (b : Bs) : Except Nat Bs :=
  if b.length < 8 then .error 2
  else if stamp key (b.take (b.length - 8)) = b.drop (b.length - 8) then .ok (b.take (b.length - 8)) else .error 9
def encPkt (s a : Int) (b : Bs) : Bs := encInts [s, a] ++ encBytes b
def pkt (key : Nat) (s a : Nat) (b : Bs) : Bs := sealed key (encPkt (s : Int) (a : Int) b)
def okPkt (s a : Int) (m : Bs) : Bool := decide (0 ≤ s) && decide (0 ≤ a) && decide (m.length ≤ 65536) && (decide (0 < s) || decide (m.length = 0))
/-- The parts of a packet, if the bytes have its form. -/
def partsP (c : Bs) : Option (Int × Int × Bs) :=
  match decList decInt 1 c with
  | .ok ([s, a], n) => match decBytes (c.drop n) with
    | .ok (m, u) => if n + u = c.length then some (s, a, m) else none
    | .error _ => none
  | _ => none
def readP (c : Bs) : Option (Nat × Nat × Bs) :=
  match partsP c with
  | some (s, a, m) => if okPkt s a m = true then some (s.toNat, a.toNat, m) else none
  | none => none

structure St where
  win : Nat
  key : Nat
  sent : List Bs
  acked : Nat
  got : Nat
  held : List (Nat × Bs)
  owing : Bool
  forged : Nat

def St.new (win key : Nat) : St := ⟨win, key, [], 0, 0, [], false, 0⟩
def St.waiting (S : St) : Nat := S.sent.length - S.acked
def St.full (S : St) (b : Bs) : Bool := decide (65536 < b.length) || decide (1000 ≤ S.waiting)
def St.send (S : St) (b : Bs) : St := { S with sent := S.sent ++ [b] }
def St.many (S : St) : Nat := min S.waiting S.win
def St.nth (S : St) (i : Nat) : Bs := pkt S.key (S.acked + i + 1) S.got (S.sent.getD (S.acked + i) [])
def St.ackP (S : St) : Bs := pkt S.key 0 S.got []
def St.pkts (S : St) (k : Nat) : List Bs := (List.range k).map S.nth
def St.out (S : St) : List Bs := if S.many = 0 ∧ S.owing = true then [S.ackP] else S.pkts S.many
def St.quiet (S : St) : St := { S with owing := false }
def findH (k : Nat) (l : List (Nat × Bs)) : Option Bs := (l.find? fun p => p.1 == k).map (·.2)
def dropH (k : Nat) (l : List (Nat × Bs)) : List (Nat × Bs) := l.eraseP fun p => p.1 == k
def deliverN : Nat → St → List Bs × St
  | 0, S => ([], S)
  | n + 1, S => match findH (S.got + 1) S.held with
    | none => ([], S)
    | some b => let r := deliverN n { S with got := S.got + 1, held := dropH (S.got + 1) S.held }
                (b :: r.1, r.2)
/-- What a packet does that has been read. -/
def St.take (S : St) (s a : Nat) (m : Bs) : List Bs × St :=
  if S.sent.length < a ∨ S.got + 16 < s then ([], S)
  else
    let S1 := { S with acked := max S.acked a }
    if s = 0 then ([], S1)
    else
      let S2 := { S1 with owing := true }
      if s ≤ S.got ∨ (findH s S.held).isSome then ([], S2)
      else deliverN (S.held.length + 2) { S2 with held := S.held ++ [(s, m)] }
def St.forge (S : St) : St := { S with forged := S.forged + 1 }
def St.inn (S : St) (b : Bs) : List Bs × Nat × St :=
  match openP S.key b with
  | .error e => ([], e, if e = 9 then S.forge else S)
  | .ok c => match readP c with
    | none => ([], 2, S)
    | some (s, a, m) => ((S.take s a m).1, 0, (S.take s a m).2)

theorem sealed_length (key : Nat) (l : Bs) : (sealed key l).length = l.length + 8 := by
  rw [sealed, List.length_append, stamp_length]
theorem open_sealed (key : Nat) (l : Bs) : openP key (sealed key l) = .ok l := by
  have h : (sealed key l).length - 8 = l.length := by rw [sealed_length]; omega
  unfold openP
  rw [h, if_neg (by rw [sealed_length]; omega)]
  have e1 : (sealed key l).take l.length = l := by unfold sealed; exact List.take_left' rfl
  have e2 : (sealed key l).drop l.length = stamp key l := by unfold sealed; exact List.drop_left' rfl
  rw [e1, e2, if_pos rfl]
theorem open_err {key : Nat} {b : Bs} {k : Nat} (h : openP key b = .error k) : k = 2 ∨ k = 9 := by
  unfold openP at h
  split at h
  · cases h; exact .inl rfl
  split at h
  · cases h
  · cases h; exact .inr rfl
theorem open_ok {key : Nat} {b c : Bs} (h : openP key b = .ok c) : 8 ≤ b.length ∧ c = b.take (b.length - 8) ∧ sealed key c = b := by
  unfold openP at h
  split at h
  · cases h
  split at h
  · rename_i h1 h2
    cases h
    refine ⟨by omega, rfl, ?_⟩
    rw [sealed, h2, List.take_append_drop]
  · cases h
theorem parts_enc {s a : Int} (hs : I64 s) (ha : I64 a) {m : Bs} (hm : m.length ≤ 9223372036854775807) : partsP (encPkt s a m) = some (s, a, m) := by
  unfold partsP encPkt
  rw [decInts_enc [s, a] (encBytes m) (by simp) (by intro x hx; simp at hx; rcases hx with rfl | rfl <;> assumption)]
  simp only [List.drop_left']
  have h := decBytes_enc m [] hm
  rw [List.append_nil] at h
  simp only [h]
  rw [if_pos (by rw [List.length_append])]
theorem read_enc {s a : Nat} {m : Bs} (hs : s ≤ 9223372036854775807) (ha : a ≤ 9223372036854775807) (hm : m.length ≤ 65536) (h : 0 < s ∨ m = []) : readP (encPkt (s : Int) (a : Int) m) = some (s, a, m) := by
  unfold readP
  rw [parts_enc ⟨by omega, by omega⟩ ⟨by omega, by omega⟩ (by omega)]
  have : okPkt (s : Int) (a : Int) m = true := by
    unfold okPkt
    rcases h with h | rfl
    · simp; omega
    · simp
  simp only [this, if_true, Int.toNat_natCast]
theorem inn_pkt {S : St} {s a : Nat} {m : Bs} (hs : s ≤ 9223372036854775807) (ha : a ≤ 9223372036854775807) (hm : m.length ≤ 65536) (h : 0 < s ∨ m = []) : S.inn (pkt S.key s a m) = ((S.take s a m).1, 0, (S.take s a m).2) := by
  unfold St.inn pkt
  rw [open_sealed]
  simp only [read_enc hs ha hm h]
theorem decN_I64 : ∀ (n : Nat) (b : List UInt8) (l : List Int) (u : Nat), decN decInt n b = .ok (l, u) → ∀ x ∈ l, I64 x
  | 0, b, l, u, h => by
    simp only [decN, Except.ok.injEq, Prod.mk.injEq] at h
    rw [← h.1]; exact fun _ h => by cases h
  | n + 1, b, l, u, h => by
    rw [decN] at h
    split at h
    · cases h
    rename_i x u1 h1
    split at h
    · cases h
    rename_i l2 u2 h2
    simp only [Except.ok.injEq, Prod.mk.injEq] at h
    rw [← h.1]
    intro y hy
    rcases List.mem_cons.1 hy with rfl | hy
    · exact (dec_bounds h1).1
    · exact decN_I64 n _ _ _ h2 y hy
theorem decList_I64 {b : List UInt8} {l : List Int} {u : Nat} (h : decList decInt 1 b = .ok (l, u)) : ∀ x ∈ l, I64 x := by
  unfold decList at h
  split at h
  · cases h
  split at h
  · cases h
  rename_i l2 u2 h2
  simp only [Except.ok.injEq, Prod.mk.injEq] at h
  rw [← h.1]
  exact decN_I64 _ _ _ _ h2
theorem parts_bounds {c : Bs} {s a : Int} {m : Bs} (h : partsP c = some (s, a, m)) : I64 s ∧ I64 a ∧ m.length ≤ c.length := by
  unfold partsP at h
  split at h
  · rename_i n hd
    split at h
    · rename_i u hb
      split at h
      · cases h
        have hI := decList_I64 hd
        have h3 := congrArg List.length (decBytes_take hb).1
        rw [encBytes, List.length_append, List.length_take, List.length_drop] at h3
        exact ⟨hI _ (by simp), hI _ (by simp), by omega⟩
      · cases h
    · cases h
  · cases h
end Go.Proofs.Ytopppkafbbfobaa.W
