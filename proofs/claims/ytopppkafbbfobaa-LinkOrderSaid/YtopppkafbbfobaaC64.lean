/- wire.count decodes the length of a list. -/
import Derived.Test.YtopppkafbbfobaaC30
namespace Go.Proofs.Ytopppkafbbfobaa.W
open Go.RowKit

/-- The length of a list whose elements have at least so many bytes, and where it ends. -/
def cnt (l : List UInt8) (size : Nat) : Except Nat (Nat × Nat) :=
  match decInt l with
  | .error e => .error e
  | .ok (n, u) => if n < 0 then .error 2 else if (l.length - u) / size < n.toNat then .error 3 else .ok (n.toNat, u)
/-- What wire.count leaves. -/
def CntPost (r : Except Nat (Nat × Nat)) (w : World) (e : Ending) (w' : World) : Prop :=
  w = w' ∧ match r with
    | .error k => ∃ a b : Int, e = .returned (.tuple #[.int .i64 a, .int .i64 b, .int .i64 (k : Int)])
    | .ok (n, u) => e = .returned (.tuple #[.int .i64 (n : Int), .int .i64 (u : Int), .int .i64 0])

theorem dec_err {l : List UInt8} {k : Nat} (h : decInt l = .error k) : k = 2 ∨ k = 3 := by
  cases l with
  | nil => simp [decInt] at h; omega
  | cons a t =>
    rw [decInt] at h
    split at h
    · cases h; exact .inl rfl
    split at h
    · cases h; exact .inr rfl
    split at h
    · cases h; exact .inl rfl
    split at h
    · cases h; exact .inl rfl
    cases h

set_option maxRecDepth 100000 in
set_option maxHeartbeats 400000 in
theorem count_err (A : Option Addr) (l : List UInt8) (n c size k : Nat) (w : World) (hn : n = l.length) (hnc : n ≤ c) (hR : Rd w A (bv l)) (hd : Hid (decInt l = .error k)) (hk : ((k : Int) != 0) = true) :
    Calls Try.prog 64 #[.slice A n c, .int .i64 (size : Int)] w (CntPost (.error k) w) := by
  have HN := hide hn
  clear hn
  go_enter Try.func64, Try.ntmps64
  go_wp2_with (go_at_call 30; refine (getInt_any A l n c _ HN.out hnc hR).mono ?_; rintro e w' ⟨rfl, rfl⟩; rw [hd.out]; simp only [resI])
  go_ret3
  exact ⟨rfl, 0, 0, rfl⟩

set_option maxRecDepth 100000 in
set_option maxHeartbeats 400000 in
theorem count_neg (A : Option Addr) (l : List UInt8) (n c size u : Nat) (m : Int) (w : World) (hn : n = l.length) (hnc : n ≤ c) (hR : Rd w A (bv l)) (hd : Hid (decInt l = .ok (m, u))) (hneg : m < 0) :
    Calls Try.prog 64 #[.slice A n c, .int .i64 (size : Int)] w (CntPost (.error 2) w) := by
  have HN := hide hn
  clear hn
  go_enter Try.func64, Try.ntmps64
  go_wp2_with (go_at_call 30; refine (getInt_any A l n c _ HN.out hnc hR).mono ?_; rintro e w' ⟨rfl, rfl⟩; rw [hd.out]; simp only [resI])
  go_ret3
  exact ⟨rfl, _, _, rfl⟩

set_option maxRecDepth 100000 in
set_option maxHeartbeats 400000 in
theorem count_more (A : Option Addr) (l : List UInt8) (n c size u : Nat) (m : Nat) (w : World) (hn : n = l.length) (hnc : n ≤ c) (hR : Rd w A (bv l)) (hm : n ≤ 9223372036854775807) (hd : Hid (decInt l = .ok ((m : Int), u))) (hun : u ≤ n) (hs0 : 0 < size) (hs : size ≤ 9223372036854775807) (hlt : (n - u) / size < m) :
    Calls Try.prog 64 #[.slice A n c, .int .i64 (size : Int)] w (CntPost (.error 3) w) := by
  have HN := hide hn
  clear hn
  have hq : (((n : Int) - (u : Int)) / (size : Int)) < (m : Int) := by
    have : (((n - u) / size : Nat) : Int) = ((n : Int) - (u : Int)) / (size : Int) := by simp [Int.ofNat_sub hun]
    omega
  go_enter Try.func64, Try.ntmps64
  go_wp2_with (go_at_call 30; refine (getInt_any A l n c _ HN.out hnc hR).mono ?_; rintro e w' ⟨rfl, rfl⟩; rw [hd.out]; simp only [resI])
  go_ret3
  exact ⟨rfl, _, _, rfl⟩

set_option maxRecDepth 100000 in
set_option maxHeartbeats 400000 in
theorem count_ok (A : Option Addr) (l : List UInt8) (n c size u : Nat) (m : Nat) (w : World) (hn : n = l.length) (hnc : n ≤ c) (hR : Rd w A (bv l)) (hm : n ≤ 9223372036854775807) (hd : Hid (decInt l = .ok ((m : Int), u))) (hun : u ≤ n) (hs0 : 0 < size) (hs : size ≤ 9223372036854775807) (hlt : m ≤ (n - u) / size) :
    Calls Try.prog 64 #[.slice A n c, .int .i64 (size : Int)] w (CntPost (.ok (m, u)) w) := by
  have HN := hide hn
  clear hn
  have hq : (m : Int) ≤ (((n : Int) - (u : Int)) / (size : Int)) := by
    have : (((n - u) / size : Nat) : Int) = ((n : Int) - (u : Int)) / (size : Int) := by simp [Int.ofNat_sub hun]
    omega
  go_enter Try.func64, Try.ntmps64
  go_wp2_with (go_at_call 30; refine (getInt_any A l n c _ HN.out hnc hR).mono ?_; rintro e w' ⟨rfl, rfl⟩; rw [hd.out]; simp only [resI])
  go_ret3
  exact ⟨rfl, rfl⟩

/-- wire.count. -/
theorem count_any (A : Option Addr) (l : List UInt8) (n c size : Nat) (w : World) (hn : n = l.length) (hnc : n ≤ c) (hR : Rd w A (bv l)) (hs0 : 0 < size) (hs : size ≤ 9223372036854775807) :
    Calls Try.prog 64 #[.slice A n c, .int .i64 (size : Int)] w (CntPost (cnt l size) w) := by
  have hm : n ≤ 9223372036854775807 := by have := hR.len; rw [bv_length] at this; omega
  unfold cnt
  cases hd : decInt l with
  | error k =>
    have := dec_err hd
    exact count_err A l n c size k w hn hnc hR (hide hd) (by rw [bne_iff_ne]; omega)
  | ok r =>
    obtain ⟨m, u⟩ := r
    obtain ⟨hb, h1, h9, hu⟩ := dec_bounds hd
    show Calls _ _ _ _ (CntPost (if m < 0 then _ else _) w)
    by_cases hneg : m < 0
    · rw [if_pos hneg]
      exact count_neg A l n c size u m w hn hnc hR (hide hd) hneg
    · rw [if_neg hneg]
      obtain ⟨q, rfl⟩ := Int.eq_ofNat_of_zero_le (show 0 ≤ m by omega)
      rw [Int.toNat_natCast]
      by_cases hlt : (l.length - u) / size < q
      · rw [if_pos hlt]
        exact count_more A l n c size u q w hn hnc hR hm (hide hd) (by omega) hs0 hs (by rw [hn]; exact hlt)
      · rw [if_neg hlt]
        exact count_ok A l n c size u q w hn hnc hR hm (hide hd) (by omega) hs0 hs (by rw [hn]; omega)
end Go.Proofs.Ytopppkafbbfobaa.W
