/- wire.Bytes and wire.GetBytes. -/
import Derived.Test.YtopppkafbbfobaaC64
import Derived.Test.YtopppkafbbfobaaB1
namespace Go.Proofs.Ytopppkafbbfobaa.W
open Go.RowKit

def encBytes (l : List UInt8) : List UInt8 := encInt (l.length : Int) ++ l
def decBytes (b : List UInt8) : Except Nat (List UInt8 × Nat) :=
  match cnt b 1 with
  | .error e => .error e
  | .ok (n, u) => .ok ((b.drop u).take n, u + n)
def resB : Except Nat (List UInt8 × Nat) → Value
  | .ok (s, u) => .tuple #[str s, .int .i64 (u : Int), .int .i64 0]
  | .error e => .tuple #[str [], .int .i64 0, .int .i64 (e : Int)]

set_option maxRecDepth 100000 in
set_option maxHeartbeats 400000 in
theorem bytes_any (l : List UInt8) (hl : l.length ≤ 140737488355000) (w : World) : Calls Try.prog 22 #[str l] w (RetB w (encBytes l)) := by
  have hI : I64 (l.length : Int) := ⟨by omega, by omega⟩
  have hel := encInt_length (l.length : Int)
  have hnb := nb_le (mag (l.length : Int))
  have h9 : (encInt (l.length : Int)).length ≤ 9 := by omega
  clear hel hnb
  unfold str
  go_enter Try.func22, Try.ntmps22
  go_wp2_with fail
  refine (int_any _ hI w).mono ?_
  rintro e w1 ⟨v, rfl, ho, hB⟩
  have hbz := hB.size
  go_wp2_with (at_builtin; refine wp_apps (w0 := w) rfl (.tmp 5) (.tmp 6) 28 9 rfl w.heap.size 5 Try.underlying28 Try.underlying9 inf5 _ (encInt (l.length : Int)).length (bv (encInt (l.length : Int))) rfl ho l rfl (by omega) hbz hB ?_; intro v' w' ho' hB')
  go_ret
  exact ⟨_, rfl, by rw [encBytes, List.length_append, bv_append]; exact ho', hB'⟩

theorem cnt_err {b : List UInt8} {s k : Nat} (h : cnt b s = .error k) : k = 2 ∨ k = 3 := by
  unfold cnt at h
  split at h
  · rename_i hd
    have := dec_err hd
    cases h
    exact this
  · split at h
    · cases h; exact .inl rfl
    split at h
    · cases h; exact .inr rfl
    cases h
theorem decBytes_err {b : List UInt8} {k : Nat} (h : decBytes b = .error k) : k = 2 ∨ k = 3 := by
  unfold decBytes at h
  split at h
  · rename_i hd
    cases h
    exact cnt_err hd
  · cases h
theorem cnt_ok {b : List UInt8} {s n u : Nat} (h : cnt b s = .ok (n, u)) : decInt b = .ok ((n : Int), u) ∧ n ≤ (b.length - u) / s := by
  unfold cnt at h
  split at h
  · cases h
  · rename_i m v hd
    split at h
    · cases h
    split at h
    · cases h
    cases h
    exact ⟨by rw [hd, Int.toNat_of_nonneg (by omega)], by omega⟩

set_option maxRecDepth 100000 in
set_option maxHeartbeats 400000 in
theorem getBytes_err (A : Option Addr) (l : List UInt8) (n c k : Nat) (w : World) (hn : n = l.length) (hnc : n ≤ c) (hR : Rd w A (bv l)) (hd : Hid (cnt l 1 = .error k)) (hk : ((k : Int) != 0) = true) :
    Calls Try.prog 32 #[.slice A n c] w fun e w' => e = .returned (.tuple #[str [], .int .i64 0, .int .i64 (k : Int)]) ∧ w = w' := by
  have HN := hide hn
  clear hn
  go_enter Try.func32, Try.ntmps32
  go_wp2_with fail
  refine (count_any A l n c 1 _ HN.out hnc hR (by omega) (by omega)).mono ?_
  rw [hd.out]
  rintro e w' ⟨rfl, a, b, rfl⟩
  go_wp2
  go_ret3
  exact ⟨rfl, rfl⟩

set_option maxRecDepth 100000 in
set_option maxHeartbeats 400000 in
theorem getBytes_ok (A : Option Addr) (l : List UInt8) (n c m u : Nat) (w : World) (hn : n = l.length) (hnc : n ≤ c) (hR : Rd w A (bv l)) (hm : n ≤ 9223372036854775807) (hd : Hid (cnt l 1 = .ok (m, u))) (hmu : u + m ≤ n) :
    Calls Try.prog 32 #[.slice A n c] w fun e w' => e = .returned (.tuple #[str ((l.drop u).take m), .int .i64 ((u : Int) + (m : Int)), .int .i64 0]) ∧ w = w' := by
  have HN := hide hn
  have hcut := run_cut Try.underlying28 cel5 ino5 A n c (u : Int) ((u : Int) + (m : Int)) (by omega) (by omega) (by omega)
  have hR' := hR.cut (sz := 1) (n := n) (by rw [bv_length]; omega) hnc u (u + m) hmu
  rw [Nat.mul_one, Nat.mul_one, Nat.add_sub_cancel_left, show ((bv l).drop u).take m = bv ((l.drop u).take m) from by simp [bv, List.map_take, List.map_drop]] at hR'
  have e1 : ((u : Int) + (m : Int)).toNat - (u : Int).toNat = m := by omega
  rw [e1, Int.toNat_natCast] at hcut
  clear e1
  have hcv := run_tostr (cutAt A c u 1) ((l.drop u).take m) m (c - u) hR' (by simp; omega)
  clear hn hR'
  generalize cutAt A c u 1 = A' at *
  go_enter Try.func32, Try.ntmps32
  go_wp2_with fail
  refine (count_any A l n c 1 _ HN.out hnc hR (by omega) (by omega)).mono ?_
  rw [hd.out]
  rintro e w' ⟨rfl, rfl⟩
  go_wp2
  go_ret3
  exact ⟨rfl, rfl⟩

/-- wire.GetBytes. -/
theorem getBytes_any (A : Option Addr) (l : List UInt8) (n c : Nat) (w : World) (hn : n = l.length) (hnc : n ≤ c) (hR : Rd w A (bv l)) :
    Calls Try.prog 32 #[.slice A n c] w fun e w' => e = .returned (resB (decBytes l)) ∧ w = w' := by
  have hm : n ≤ 9223372036854775807 := by have := hR.len; rw [bv_length] at this; omega
  unfold decBytes
  cases hd : cnt l 1 with
  | error k =>
    have := cnt_err hd
    exact getBytes_err A l n c k w hn hnc hR (hide hd) (by rw [bne_iff_ne]; omega)
  | ok r =>
    obtain ⟨m, u⟩ := r
    obtain ⟨h1, h2⟩ := cnt_ok hd
    obtain ⟨_, _, _, hu⟩ := dec_bounds h1
    rw [Nat.div_one] at h2
    refine (getBytes_ok A l n c m u w hn hnc hR hm (hide hd) (by omega)).mono ?_
    rintro e w' ⟨rfl, rfl⟩
    refine ⟨?_, rfl⟩
    rw [resB, Int.natCast_add]
end Go.Proofs.Ytopppkafbbfobaa.W
