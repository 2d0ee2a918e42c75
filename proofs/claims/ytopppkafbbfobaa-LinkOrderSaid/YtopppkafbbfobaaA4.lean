/- The seal of bytes, in plain Lean: eight bytes of a 64-bit product of mixes; one changed byte changes it. -/
import Derived.Test.YtopppkafbbfobaaA0
namespace Go.Proofs.Ytopppkafbbfobaa.W

def mix (h : Nat) (c : UInt8) : Nat := ((h ^^^ c.toNat) * 1099511628211) % 18446744073709551616
def fnv0 (key : Nat) : Nat := 14695981039346656037 ^^^ key
def fnv (key : Nat) (l : List UInt8) : Nat := l.foldl mix (fnv0 key)
/-- The lowest bytes of a number, the least first. -/
def le8 : Nat → Nat → List UInt8
  | 0, _ => []
  | k + 1, m => UInt8.ofNat m :: le8 k (m / 256)
def stamp (key : Nat) (l : List UInt8) : List UInt8 := le8 8 (fnv key l)

theorem xor_lt64 {a b : Nat} (ha : a < 18446744073709551616) (hb : b < 18446744073709551616) : a ^^^ b < 18446744073709551616 :=
  Nat.xor_lt_two_pow (n := 64) ha hb
theorem fnv0_lt {key : Nat} (h : key < 18446744073709551616) : fnv0 key < 18446744073709551616 := xor_lt64 (by omega) h
theorem mix_lt (h : Nat) (c : UInt8) : mix h c < 18446744073709551616 := by
  unfold mix
  generalize (h ^^^ c.toNat) * 1099511628211 = x
  omega
theorem foldl_lt (l : List UInt8) : ∀ h, h < 18446744073709551616 → l.foldl mix h < 18446744073709551616 := by
  induction l with
  | nil => intro h hh; rw [List.foldl_nil]; exact hh
  | cons c l ih => intro h _; rw [List.foldl_cons]; exact ih _ (mix_lt h c)
theorem fnv_lt {key : Nat} (h : key < 18446744073709551616) (l : List UInt8) : fnv key l < 18446744073709551616 := by
  unfold fnv
  exact foldl_lt l _ (fnv0_lt h)
theorem fnv_snoc (key : Nat) (l : List UInt8) (c : UInt8) : fnv key (l ++ [c]) = mix (fnv key l) c := by
  unfold fnv
  rw [List.foldl_append, List.foldl_cons, List.foldl_nil]
theorem le8_length (k m : Nat) : (le8 k m).length = k := by
  induction k generalizing m with
  | zero => rfl
  | succ k ih => rw [le8, List.length_cons, ih]
theorem stamp_length (key : Nat) (l : List UInt8) : (stamp key l).length = 8 := le8_length _ _
theorem le8_at : ∀ (k m i : Nat), i < k → (le8 k m).getD i 0 = UInt8.ofNat (m / 256 ^ i)
  | 0, _, _, h => absurd h (Nat.not_lt_zero _)
  | k + 1, m, 0, _ => by simp [le8]
  | k + 1, m, i + 1, h => by
    have ih := le8_at k (m / 256) i (by omega)
    rw [le8, List.getD_cons_succ, ih, Nat.div_div_eq_div_mul, Nat.pow_succ, Nat.mul_comm]
theorem le8_inj : ∀ (k a b : Nat), a < 256 ^ k → b < 256 ^ k → le8 k a = le8 k b → a = b
  | 0, a, b, ha, hb, _ => by simp at ha hb; omega
  | k + 1, a, b, ha, hb, h => by
    rw [le8, le8, List.cons.injEq] at h
    have h1 := congrArg UInt8.toNat h.1
    rw [ofNat_toNat, ofNat_toNat] at h1
    rw [Nat.pow_succ] at ha hb
    have h2 := le8_inj k (a / 256) (b / 256) (by omega) (by omega) h.2
    omega
theorem inv_inj {N f g a b : Nat} (hfg : f * g % N = 1) (ha : a < N) (hb : b < N) (h : a * f % N = b * f % N) : a = b := by
  have e : ∀ x, x < N → (x * f % N) * g % N = x := fun x hx => by
    rw [Nat.mod_mul_mod, Nat.mul_assoc, Nat.mul_mod, hfg, Nat.mul_one, Nat.mod_mod, Nat.mod_eq_of_lt hx]
  rw [← e a ha, ← e b hb, h]
/-- Multiplication by the factor can be undone. -/
theorem mul_inj {a b : Nat} (ha : a < 18446744073709551616) (hb : b < 18446744073709551616) (h : a * 1099511628211 % 18446744073709551616 = b * 1099511628211 % 18446744073709551616) : a = b :=
  inv_inj (g := 14886173955864302971) (by decide) ha hb h
theorem xor_cancel {a b c : Nat} (h : a ^^^ c = b ^^^ c) : a = b := by
  have := congrArg (· ^^^ c) h
  simpa [Nat.xor_assoc] using this
theorem mix_inj {a b : Nat} (ha : a < 18446744073709551616) (hb : b < 18446744073709551616) {c : UInt8} (h : mix a c = mix b c) : a = b := by
  have hc := u8_lt c
  exact xor_cancel (mul_inj (xor_lt64 ha (by omega)) (xor_lt64 hb (by omega)) h)
theorem mix_byte {a : Nat} (ha : a < 18446744073709551616) {c d : UInt8} (h : mix a c = mix a d) : c = d := by
  have hc := u8_lt c
  have hd := u8_lt d
  have := mul_inj (xor_lt64 ha (by omega)) (xor_lt64 ha (by omega)) h
  rw [Nat.xor_comm a, Nat.xor_comm a] at this
  exact u8_ext (xor_cancel this)
theorem foldl_inj (l : List UInt8) : ∀ {a b : Nat}, a < 18446744073709551616 → b < 18446744073709551616 → l.foldl mix a = l.foldl mix b → a = b := by
  induction l with
  | nil => intro a b _ _ h; rw [List.foldl_nil, List.foldl_nil] at h; exact h
  | cons c l ih => intro a b ha hb h; rw [List.foldl_cons, List.foldl_cons] at h; exact mix_inj ha hb (ih (mix_lt _ _) (mix_lt _ _) h)
/-- One changed byte changes the seal. -/
theorem fnv_change {key : Nat} (hk : key < 18446744073709551616) (x y : List UInt8) (c d : UInt8) (h : fnv key (x ++ c :: y) = fnv key (x ++ d :: y)) : c = d := by
  unfold fnv at h
  rw [List.foldl_append, List.foldl_append, List.foldl_cons, List.foldl_cons] at h
  exact mix_byte (foldl_lt x _ (fnv0_lt hk)) (foldl_inj y (mix_lt _ _) (mix_lt _ _) h)
theorem stamp_inj {key key' : Nat} (hk : key < 18446744073709551616) (hk' : key' < 18446744073709551616) {x y : List UInt8} (h : stamp key x = stamp key' y) : fnv key x = fnv key' y :=
  le8_inj 8 _ _ (Nat.lt_of_lt_of_le (fnv_lt hk x) (by decide)) (Nat.lt_of_lt_of_le (fnv_lt hk' y) (by decide)) h
end Go.Proofs.Ytopppkafbbfobaa.W
