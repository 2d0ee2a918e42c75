/- wire.GetInt decodes an integer at the beginning of a byte sequence. -/
import Derived.Test.YtopppkafbbfobaaC20
namespace Go.Proofs.Ytopppkafbbfobaa.W
open Go.RowKit

/-- Three results: a number, how many bytes, an error. -/
def resI : Except Nat (Int × Nat) → Value
  | .ok (n, u) => .tuple #[.int .i64 n, .int .i64 (u : Int), .int .i64 0]
  | .error e => .tuple #[.int .i64 0, .int .i64 0, .int .i64 (e : Int)]

set_option maxRecDepth 100000 in
set_option maxHeartbeats 400000 in
theorem getInt_nil (A : Option Addr) (c : Nat) (w : World) : Calls Try.prog 30 #[.slice A 0 c] w fun e w' => e = .returned (resI (decInt [])) ∧ w = w' := by
  go_enter Try.func30, Try.ntmps30
  go_wp2
  go_ret3
  exact ⟨rfl, rfl⟩

set_option maxRecDepth 100000 in
set_option maxHeartbeats 400000 in
theorem gi_long_neg (b off n c h k : Nat) (hpos : 0 < n) (hm : n ≤ 9223372036854775807) (hh : h < 128) (w : World) (h0 : w.cell? ⟨b, off, none⟩ = some (.int .u8 (h : Int)))
    (hx : bits .xor .u8 (h : Int) 255 = 128 + (k : Int)) (hk1 : k < 128) (hk : 8 < k) :
    Calls Try.prog 30 #[.slice (some ⟨b, off, none⟩) n c] w fun e w' => e = .returned (.tuple #[.int .i64 0, .int .i64 0, .int .i64 2]) ∧ w = w' := by
  go_enter Try.func30, Try.ntmps30
  go_wp2
  go_ret3
  exact ⟨rfl, rfl⟩

set_option maxRecDepth 100000 in
set_option maxHeartbeats 400000 in
theorem gi_short_neg (b off n c h k : Nat) (hpos : 0 < n) (hm : n ≤ 9223372036854775807) (hh : h < 128) (w : World) (h0 : w.cell? ⟨b, off, none⟩ = some (.int .u8 (h : Int)))
    (hx : bits .xor .u8 (h : Int) 255 = 128 + (k : Int)) (hk : k ≤ 8) (hkn : n ≤ k) :
    Calls Try.prog 30 #[.slice (some ⟨b, off, none⟩) n c] w fun e w' => e = .returned (.tuple #[.int .i64 0, .int .i64 0, .int .i64 3]) ∧ w = w' := by
  go_enter Try.func30, Try.ntmps30
  go_wp2
  go_ret3
  exact ⟨rfl, rfl⟩

set_option maxRecDepth 100000 in
set_option maxHeartbeats 400000 in
theorem gi_zero_neg (b off n c h k h1 : Nat) (hm : n ≤ 9223372036854775807) (hh : h < 128) (w : World) (h0 : w.cell? ⟨b, off, none⟩ = some (.int .u8 (h : Int)))
    (hx : bits .xor .u8 (h : Int) 255 = 128 + (k : Int)) (hk : k ≤ 8) (hk0 : 0 < k) (hkn : k < n) (hc1 : w.cell? ⟨b, off + 1, none⟩ = some (.int .u8 (h1 : Int))) (hx1 : bits .xor .u8 (h1 : Int) 255 = 0) :
    Calls Try.prog 30 #[.slice (some ⟨b, off, none⟩) n c] w fun e w' => e = .returned (.tuple #[.int .i64 0, .int .i64 0, .int .i64 2]) ∧ w = w' := by
  have hn1 : 1 < n := by omega
  go_enter Try.func30, Try.ntmps30
  go_wp2
  go_ret3
  exact ⟨rfl, rfl⟩

/-- What the full reading leaves. -/
def GiPost (w : World) (m : Nat) (R : Int) (u : Nat) (e : Ending) (w' : World) : Prop :=
  e = .returned (if 9223372036854775808 ≤ m then .tuple #[.int .i64 0, .int .i64 0, .int .i64 2] else .tuple #[.int .i64 R, .int .i64 (u : Int), .int .i64 0]) ∧ w = w'

theorem gi_big {w : World} {m : Nat} {R : Int} {u : Nat} (h : 0 < (m : Int) / 9223372036854775808) : GiPost w m R u (.returned (.tuple #[.int .i64 0, .int .i64 0, .int .i64 2])) w := by
  refine ⟨?_, rfl⟩
  rw [if_pos (by omega)]
theorem gi_fine {w : World} {m : Nat} {R a b : Int} {u : Nat} (h : (m : Int) / 9223372036854775808 ≤ 0) (h1 : Hid (m < 9223372036854775808 → a = R)) (h2 : b = (u : Int)) : GiPost w m R u (.returned (.tuple #[.int .i64 a, .int .i64 b, .int .i64 0])) w := by
  have hm : m < 9223372036854775808 := by omega
  refine ⟨?_, rfl⟩
  rw [if_neg (by omega), h1.out hm, h2]

set_option maxRecDepth 100000 in
set_option maxHeartbeats 400000 in
theorem gi_full_neg (b off n c h k : Nat) (g y V : Nat → Nat) (R : Int) (hm : n ≤ 9223372036854775807) (hnc : n ≤ c) (hh : h < 128) (w : World) (h0 : w.cell? ⟨b, off, none⟩ = some (.int .u8 (h : Int)))
    (hx : bits .xor .u8 (h : Int) 255 = 128 + (k : Int)) (hk : k ≤ 8) (hk0 : 0 < k) (hkn : k < n) (hc : Hid (∀ j, j < k → w.cell? ⟨b, off + 1 + j, none⟩ = some (.int .u8 (g j : Int))))
    (hy : Hid (∀ j, j < k → bits .xor .u8 (g j : Int) 255 = (y j : Int))) (hy1 : Hid (0 < y 0)) (hV0 : V 0 = 0) (hR : Hid (V k < 9223372036854775808 → wrap64 (bits .xor .u64 IntKind.u64.max (V k : Int)) = R)) (hV : Hid (∀ j, j < k → bits .or .u64 (IntKind.u64.wrap ((V j : Int) * 256)) (IntKind.u64.wrap (y j : Int)) = (V (j + 1) : Int))) :
    Calls Try.prog 30 #[.slice (some ⟨b, off, none⟩) n c] w (GiPost w (V k) R (k + 1)) := by
  have hn1 : 1 < n := by omega
  have e1 := hc.out 0 hk0
  have e2 := hy.out 0 hk0
  have e3 : (((y 0 : Nat) : Int) == 0) = false := by have := hy1.out; simp; omega
  generalize hg0 : g 0 = g0 at *
  generalize hy0 : y 0 = y0 at *
  have HG := hide hg0
  have HY := hide hy0
  clear hg0 hy0
  simp only [Nat.add_zero] at e1
  have hc1 : ¬ c = 1 := by omega
  go_enter Try.func30, Try.ntmps30
  go_wp2
  go_loop [7, 48] (fun m q => ∃ i : Nat, i ≤ k ∧ m = .int .u64 (V i : Int) ∧ q = .int .i64 (i : Int)) (fun _ q => k - (intOf q).toNat)
  case atStart => exact ⟨0, Nat.zero_le _, by rw [hV0]; rfl, rfl⟩
  case round =>
    obtain ⟨i, hi, rfl, rfl⟩ := hrel
    by_cases hik : i < k
    · have c1 := hc.out i hik
      have c2 := hy.out i hik
      go_wp2
      go_round
      case rel => exact ⟨i + 1, by omega, by rw [hV.out i hik], by go_num⟩
      case measure => simp [intOf]; omega
    · obtain rfl : i = k := by omega
      go_wp2
      · go_ret3
        exact gi_big (by assumption)
      · go_ret3
        exact gi_fine (by assumption) hR (by simp; omega)

theorem ret3_int {a b c a' b' c' : Int} (h1 : a = a') (h2 : b = b') (h3 : c = c') : Ending.returned (.tuple #[.int .i64 a, .int .i64 b, .int .i64 c]) = .returned (.tuple #[.int .i64 a', .int .i64 b', .int .i64 c']) := by rw [h1, h2, h3]
theorem not_zero : wrap64 (bits .xor .u64 IntKind.u64.max 0) = -1 := by decide +kernel
set_option maxRecDepth 100000 in
set_option maxHeartbeats 400000 in
theorem gi_none_neg (b off n c h : Nat) (hpos : 0 < n) (hm : n ≤ 9223372036854775807) (hnc : n ≤ c) (hh : h < 128) (w : World) (h0 : w.cell? ⟨b, off, none⟩ = some (.int .u8 (h : Int)))
    (hx : bits .xor .u8 (h : Int) 255 = 128) :
    Calls Try.prog 30 #[.slice (some ⟨b, off, none⟩) n c] w fun e w' => e = .returned (.tuple #[.int .i64 (-1), .int .i64 1, .int .i64 0]) ∧ w = w' := by
  by_cases hc1 : c = 1
  all_goals
    go_enter Try.func30, Try.ntmps30
    go_wp2
    go_loop [7, 48] (fun m q => m = .int .u64 0 ∧ q = .int .i64 0) (fun _ _ => 0)
    case atStart => exact ⟨rfl, rfl⟩
    case round =>
      obtain ⟨rfl, rfl⟩ := hrel
      go_wp2
      go_ret3
      exact ⟨ret3_int not_zero rfl rfl, rfl⟩
set_option maxRecDepth 100000 in
set_option maxHeartbeats 400000 in
theorem gi_long_pos (b off n c h k : Nat) (hpos : 0 < n) (hm : n ≤ 9223372036854775807) (hh : 128 ≤ h) (w : World) (h0 : w.cell? ⟨b, off, none⟩ = some (.int .u8 (h : Int)))
    (hx : bits .xor .u8 (h : Int) 0 = 128 + (k : Int)) (hk1 : k < 128) (hk : 8 < k) :
    Calls Try.prog 30 #[.slice (some ⟨b, off, none⟩) n c] w fun e w' => e = .returned (.tuple #[.int .i64 0, .int .i64 0, .int .i64 2]) ∧ w = w' := by
  go_enter Try.func30, Try.ntmps30
  go_wp2
  go_ret3
  exact ⟨rfl, rfl⟩

set_option maxRecDepth 100000 in
set_option maxHeartbeats 400000 in
theorem gi_short_pos (b off n c h k : Nat) (hpos : 0 < n) (hm : n ≤ 9223372036854775807) (hh : 128 ≤ h) (w : World) (h0 : w.cell? ⟨b, off, none⟩ = some (.int .u8 (h : Int)))
    (hx : bits .xor .u8 (h : Int) 0 = 128 + (k : Int)) (hk : k ≤ 8) (hkn : n ≤ k) :
    Calls Try.prog 30 #[.slice (some ⟨b, off, none⟩) n c] w fun e w' => e = .returned (.tuple #[.int .i64 0, .int .i64 0, .int .i64 3]) ∧ w = w' := by
  go_enter Try.func30, Try.ntmps30
  go_wp2
  go_ret3
  exact ⟨rfl, rfl⟩

set_option maxRecDepth 100000 in
set_option maxHeartbeats 400000 in
theorem gi_zero_pos (b off n c h k h1 : Nat) (hm : n ≤ 9223372036854775807) (hh : 128 ≤ h) (w : World) (h0 : w.cell? ⟨b, off, none⟩ = some (.int .u8 (h : Int)))
    (hx : bits .xor .u8 (h : Int) 0 = 128 + (k : Int)) (hk : k ≤ 8) (hk0 : 0 < k) (hkn : k < n) (hc1 : w.cell? ⟨b, off + 1, none⟩ = some (.int .u8 (h1 : Int))) (hx1 : bits .xor .u8 (h1 : Int) 0 = 0) :
    Calls Try.prog 30 #[.slice (some ⟨b, off, none⟩) n c] w fun e w' => e = .returned (.tuple #[.int .i64 0, .int .i64 0, .int .i64 2]) ∧ w = w' := by
  have hn1 : 1 < n := by omega
  go_enter Try.func30, Try.ntmps30
  go_wp2
  go_ret3
  exact ⟨rfl, rfl⟩

set_option maxRecDepth 100000 in
set_option maxHeartbeats 400000 in
theorem gi_full_pos (b off n c h k : Nat) (g y V : Nat → Nat) (R : Int) (hm : n ≤ 9223372036854775807) (hnc : n ≤ c) (hh : 128 ≤ h) (w : World) (h0 : w.cell? ⟨b, off, none⟩ = some (.int .u8 (h : Int)))
    (hx : bits .xor .u8 (h : Int) 0 = 128 + (k : Int)) (hk : k ≤ 8) (hk0 : 0 < k) (hkn : k < n) (hc : Hid (∀ j, j < k → w.cell? ⟨b, off + 1 + j, none⟩ = some (.int .u8 (g j : Int))))
    (hy : Hid (∀ j, j < k → bits .xor .u8 (g j : Int) 0 = (y j : Int))) (hy1 : Hid (0 < y 0)) (hV0 : V 0 = 0) (hR : Hid (V k < 9223372036854775808 → (V k : Int) = R)) (hV : Hid (∀ j, j < k → bits .or .u64 (IntKind.u64.wrap ((V j : Int) * 256)) (IntKind.u64.wrap (y j : Int)) = (V (j + 1) : Int))) :
    Calls Try.prog 30 #[.slice (some ⟨b, off, none⟩) n c] w (GiPost w (V k) R (k + 1)) := by
  have hn1 : 1 < n := by omega
  have e1 := hc.out 0 hk0
  have e2 := hy.out 0 hk0
  have e3 : (((y 0 : Nat) : Int) == 0) = false := by have := hy1.out; simp; omega
  generalize hg0 : g 0 = g0 at *
  generalize hy0 : y 0 = y0 at *
  have HG := hide hg0
  have HY := hide hy0
  clear hg0 hy0
  simp only [Nat.add_zero] at e1
  have hc1 : ¬ c = 1 := by omega
  go_enter Try.func30, Try.ntmps30
  go_wp2
  go_loop [7, 48] (fun m q => ∃ i : Nat, i ≤ k ∧ m = .int .u64 (V i : Int) ∧ q = .int .i64 (i : Int)) (fun _ q => k - (intOf q).toNat)
  case atStart => exact ⟨0, Nat.zero_le _, by rw [hV0]; rfl, rfl⟩
  case round =>
    obtain ⟨i, hi, rfl, rfl⟩ := hrel
    by_cases hik : i < k
    · have c1 := hc.out i hik
      have c2 := hy.out i hik
      go_wp2
      go_round
      case rel => exact ⟨i + 1, by omega, by rw [hV.out i hik], by go_num⟩
      case measure => simp [intOf]; omega
    · obtain rfl : i = k := by omega
      go_wp2
      · go_ret3
        exact gi_big (by assumption)
      · go_ret3
        exact gi_fine (by assumption) hR (by simp; omega)

set_option maxRecDepth 100000 in
set_option maxHeartbeats 400000 in
theorem gi_none_pos (b off n c h : Nat) (hpos : 0 < n) (hm : n ≤ 9223372036854775807) (hnc : n ≤ c) (hh : 128 ≤ h) (w : World) (h0 : w.cell? ⟨b, off, none⟩ = some (.int .u8 (h : Int)))
    (hx : bits .xor .u8 (h : Int) 0 = 128) :
    Calls Try.prog 30 #[.slice (some ⟨b, off, none⟩) n c] w fun e w' => e = .returned (.tuple #[.int .i64 0, .int .i64 1, .int .i64 0]) ∧ w = w' := by
  by_cases hc1 : c = 1
  all_goals
    go_enter Try.func30, Try.ntmps30
    go_wp2
    go_loop [7, 48] (fun m q => m = .int .u64 0 ∧ q = .int .i64 0) (fun _ _ => 0)
    case atStart => exact ⟨rfl, rfl⟩
    case round =>
      obtain ⟨rfl, rfl⟩ := hrel
      go_wp2
      go_ret3
      exact ⟨rfl, rfl⟩

theorem val_cast (M : Nat) (hM : M < 9223372036854775808) : wrap64 (bits .xor .u64 IntKind.u64.max (M : Int)) = -1 - (M : Int) := by
  have h1 : BitVec.ofInt 64 IntKind.u64.max = BitVec.allOnes 64 := by decide
  have h2 : bits .xor .u64 IntKind.u64.max (M : Int) = ((18446744073709551615 - M : Nat) : Int) := by
    show IntKind.u64.wrap ((BitVec.ofInt 64 IntKind.u64.max ^^^ BitVec.ofInt 64 (M : Int)).toNat : Int) = _
    rw [h1, BitVec.allOnes_xor, BitVec.toNat_not, ofInt_u64 M (by omega)]
    simp only [IntKind.wrap, IntKind.bits, IntKind.signed]
    simp
    omega
  rw [h2]
  unfold wrap64
  omega
theorem or_step (v y : Nat) (hv : v < 72057594037927936) (hy : y < 256) : bits .or .u64 (IntKind.u64.wrap ((v : Int) * 256)) (IntKind.u64.wrap (y : Int)) = ((v * 256 + y : Nat) : Int) := by
  have e1 : IntKind.u64.wrap ((v : Int) * 256) = ((v * 256 : Nat) : Int) := by
    simp only [IntKind.wrap, IntKind.bits, IntKind.signed]
    simp
    omega
  have e2 : IntKind.u64.wrap (y : Int) = (y : Int) := by
    simp only [IntKind.wrap, IntKind.bits, IntKind.signed]
    simp
    omega
  rw [e1, e2, u64_or_nat _ _ (by omega) (by omega)]
  congr 1
  rw [show v * 256 = v <<< 8 from by rw [Nat.shiftLeft_eq]]
  exact (Nat.shiftLeft_add_eq_or_of_lt (by omega) _).symm

theorem bv_getElem? (l : List UInt8) (j : Nat) (h : j < l.length) : (bv l)[j]? = some (.int .u8 ((l.getD j 0).toNat : Int)) := by
  simp [bv, List.getElem?_eq_getElem h, List.getD_eq_getElem?_getD]
theorem take_succ_getD (l : List UInt8) (j : Nat) (h : j < l.length) : l.take (j + 1) = l.take j ++ [l.getD j 0] := by
  rw [List.take_succ_eq_append_getElem h]
  simp [List.getD_eq_getElem?_getD, List.getElem?_eq_getElem h]
/-- wire.GetInt. -/
theorem getInt_any (A : Option Addr) (l : List UInt8) (n c : Nat) (w : World) (hn : n = l.length) (hnc : n ≤ c) (hR : Rd w A (bv l)) :
    Calls Try.prog 30 #[.slice A n c] w fun e w' => e = .returned (resI (decInt l)) ∧ w = w' := by
  subst hn
  cases l with
  | nil => exact getInt_nil A c w
  | cons h t =>
    have hm := hR.len
    rw [bv_length] at hm
    obtain ⟨b, off, rfl, hc⟩ := hR.2 (by simp [bv])
    have h0 : w.cell? ⟨b, off, none⟩ = some (.int .u8 (h.toNat : Int)) := hc 0 _ rfl
    have hcell : ∀ j, j < t.length → w.cell? ⟨b, off + 1 + j, none⟩ = some (.int .u8 ((t.getD j 0).toNat : Int)) := fun j hj => by
      have := hc (j + 1) _ (by show (bv t)[j]? = _; exact bv_getElem? t j hj)
      rwa [show off + (j + 1) = off + 1 + j from by omega] at this
    have hl : (h :: t).length = t.length + 1 := rfl
    have h128 : (128 : UInt8).toNat = 128 := rfl
    rw [decInt]
    generalize hs : decide (h < 128) = s
    have hx := xor_flip s h
    have hfl := fl_toNat s h
    have hh := u8_lt h
    have hk0 : 128 ≤ (fl s h).toNat := by
      rw [hfl]
      cases s
      · have : ¬ h < 128 := by simpa using hs
        rw [UInt8.lt_iff_toNat_lt] at this
        simp; omega
      · have : h < 128 := by simpa using hs
        rw [UInt8.lt_iff_toNat_lt] at this
        simp; omega
    have hf256 := u8_lt (fl s h)
    obtain ⟨k, hk⟩ : ∃ k, (fl s h).toNat = 128 + k := ⟨_, (Nat.add_sub_cancel' hk0).symm⟩
    have hx' : bits .xor .u8 (h.toNat : Int) (if s then 255 else 0) = 128 + (k : Int) := by rw [hx, hk]; simp
    rw [hk, Nat.add_sub_cancel_left]
    by_cases hk8 : 8 < k
    · rw [if_pos hk8]
      cases s
      · have : ¬ h < 128 := by simpa using hs
        rw [UInt8.lt_iff_toNat_lt] at this
        exact gi_long_pos b off _ c h.toNat k (by omega) hm (by omega) w h0 hx' (by omega) hk8
      · have : h < 128 := by simpa using hs
        rw [UInt8.lt_iff_toNat_lt] at this
        exact gi_long_neg b off _ c h.toNat k (by omega) hm (by omega) w h0 hx' (by omega) hk8
    rw [if_neg hk8]
    by_cases hkn : t.length < k
    · rw [if_pos hkn]
      cases s
      · have : ¬ h < 128 := by simpa using hs
        rw [UInt8.lt_iff_toNat_lt] at this
        exact gi_short_pos b off _ c h.toNat k (by omega) hm (by omega) w h0 hx' (by omega) (by omega)
      · have : h < 128 := by simpa using hs
        rw [UInt8.lt_iff_toNat_lt] at this
        exact gi_short_neg b off _ c h.toNat k (by omega) hm (by omega) w h0 hx' (by omega) (by omega)
    rw [if_neg hkn]
    by_cases hz : 0 < k ∧ fl s (t.getD 0 0) = 0
    · rw [if_pos hz]
      have hx1 := xor_flip s (t.getD 0 0)
      rw [hz.2] at hx1
      have hc1 := hcell 0 (by omega)
      rw [Nat.add_zero] at hc1
      cases s
      · have : ¬ h < 128 := by simpa using hs
        rw [UInt8.lt_iff_toNat_lt] at this
        exact gi_zero_pos b off _ c h.toNat k _ hm (by omega) w h0 hx' (by omega) hz.1 (by omega) hc1 hx1
      · have : h < 128 := by simpa using hs
        rw [UInt8.lt_iff_toNat_lt] at this
        exact gi_zero_neg b off _ c h.toNat k _ hm (by omega) w h0 hx' (by omega) hz.1 (by omega) hc1 hx1
    rw [if_neg hz]
    rcases Nat.eq_zero_or_pos k with rfl | hkp
    · simp only [List.take_zero, List.map_nil, val_nil]
      cases s
      · have hlt : ¬ h < 128 := by simpa using hs
        have := hlt
        rw [UInt8.lt_iff_toNat_lt] at this
        have g := gi_none_pos b off (h :: t).length c h.toNat (by omega) hm hnc (by omega) w h0 (by simpa using hx')
        rw [if_neg (by omega)]
        simpa [resI, hlt] using g
      · have hlt : h < 128 := by simpa using hs
        have := hlt
        rw [UInt8.lt_iff_toNat_lt] at this
        have g := gi_none_neg b off (h :: t).length c h.toNat (by omega) hm hnc (by omega) w h0 (by simpa using hx')
        rw [if_neg (by omega)]
        simpa [resI, hlt] using g
    have hV : ∀ j, j < k → bits .or .u64 (IntKind.u64.wrap ((val ((t.take j).map (fl s)) : Int) * 256)) (IntKind.u64.wrap ((fl s (t.getD j 0)).toNat : Int)) = (val ((t.take (j + 1)).map (fl s)) : Int) := fun j hj => by
      have hv := val_lt ((t.take j).map (fl s))
      have hle : 256 ^ ((t.take j).map (fl s)).length ≤ 256 ^ 7 := Nat.pow_le_pow_right (by omega) (by simp; omega)
      rw [or_step _ _ (by omega) (u8_lt _), take_succ_getD t j (by omega), List.map_append, List.map_cons, List.map_nil, val_snoc]
    have hpos0 : 0 < (fl s (t.getD 0 0)).toNat := by
      rcases Nat.eq_zero_or_pos (fl s (t.getD 0 0)).toNat with h | h
      · exact absurd ⟨hkp, u8_ext (by rw [h]; rfl)⟩ hz
      · exact h
    cases s
    · have hlt : ¬ h < 128 := by simpa using hs
      have := hlt
      rw [UInt8.lt_iff_toNat_lt] at this
      refine (gi_full_pos b off (h :: t).length c h.toNat k (fun j => (t.getD j 0).toNat) (fun j => (fl false (t.getD j 0)).toNat) (fun j => val ((t.take j).map (fl false))) _ hm hnc (by omega) w h0 hx' (by omega) hkp (by omega)
        (hide fun j hj => hcell j (by omega)) (hide fun j hj => xor_flip false _) (hide hpos0) rfl (hide fun _ => rfl) (hide hV)).mono ?_
      rintro e w' ⟨rfl, rfl⟩
      refine ⟨?_, rfl⟩
      simp only [hlt, if_false]
      by_cases hb : 9223372036854775808 ≤ val ((t.take k).map (fl false))
      · rw [if_pos hb, if_pos hb]; rfl
      · rw [if_neg hb, if_neg hb]; rfl
    · have hlt : h < 128 := by simpa using hs
      have := hlt
      rw [UInt8.lt_iff_toNat_lt] at this
      refine (gi_full_neg b off (h :: t).length c h.toNat k (fun j => (t.getD j 0).toNat) (fun j => (fl true (t.getD j 0)).toNat) (fun j => val ((t.take j).map (fl true))) (-1 - (val ((t.take k).map (fl true)) : Int)) hm hnc (by omega) w h0 hx' (by omega) hkp (by omega)
        (hide fun j hj => hcell j (by omega)) (hide fun j hj => xor_flip true _) (hide hpos0) rfl (hide fun hv => val_cast _ hv) (hide hV)).mono ?_
      rintro e w' ⟨rfl, rfl⟩
      refine ⟨?_, rfl⟩
      simp only [hlt, if_true]
      by_cases hb : 9223372036854775808 ≤ val ((t.take k).map (fl true))
      · rw [if_pos hb, if_pos hb]; rfl
      · rw [if_neg hb, if_neg hb]; rfl
end Go.Proofs.Ytopppkafbbfobaa.W
