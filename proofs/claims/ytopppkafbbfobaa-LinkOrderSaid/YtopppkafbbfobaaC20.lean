/- wire.Int returns the encoding of its argument in new memory. -/
import Derived.Test.YtopppkafbbfobaaB0
namespace Go.Proofs.Ytopppkafbbfobaa.W
open Go.RowKit

theorem xor255_nat (a : Nat) (h : a < 256) : a ^^^ 255 = 255 - a := by
  have h1 := BitVec.toNat_not (x := BitVec.ofNat 8 a)
  rw [← BitVec.xor_allOnes, BitVec.toNat_xor, BitVec.toNat_allOnes, BitVec.toNat_ofNat, Nat.mod_eq_of_lt (by omega)] at h1
  simpa using h1
theorem xor_flip (s : Bool) (b : UInt8) : bits .xor .u8 (b.toNat : Int) (if s then 255 else 0) = ((fl s b).toNat : Int) := by
  have hb := u8_lt b
  rw [fl_toNat]
  cases s
  · have := u8_xor_nat b.toNat 0 hb (by omega)
    simpa using this
  · have := u8_xor_nat b.toNat 255 hb (by omega)
    rw [xor255_nat _ hb] at this
    simpa using this
theorem xor_255 (b : UInt8) : bits .xor .u8 (b.toNat : Int) 255 = ((fl true b).toNat : Int) := xor_flip true b
theorem xor_0 (b : UInt8) : bits .xor .u8 (b.toNat : Int) 0 = ((fl false b).toNat : Int) := xor_flip false b
theorem not64 (n : Int) (hn : I64 n) (h : n < 0) : bits .xor .u64 IntKind.u64.max (IntKind.u64.wrap n) = (mag n : Int) := by
  unfold I64 at hn
  have h0 : IntKind.u64.wrap n = ((n + 18446744073709551616).toNat : Nat) := by
    simp only [IntKind.wrap, IntKind.bits, IntKind.signed]
    simp
    omega
  have h1 : BitVec.ofInt 64 IntKind.u64.max = BitVec.allOnes 64 := by decide
  show IntKind.u64.wrap ((BitVec.ofInt 64 IntKind.u64.max ^^^ BitVec.ofInt 64 (IntKind.u64.wrap n)).toNat : Int) = _
  rw [h1, BitVec.allOnes_xor, BitVec.toNat_not, h0, ofInt_u64 _ (by omega)]
  have hm := mag_cast n
  rw [if_pos h] at hm
  simp only [IntKind.wrap, IntKind.bits, IntKind.signed]
  simp
  omega
theorem pow_8 (k : Nat) : 2 ^ (8 * k) = 256 ^ k := by rw [Nat.pow_mul]
theorem wrap_u8_div (m k : Nat) : IntKind.u8.wrap ((m / 2 ^ (8 * k) : Nat) : Int) = ((UInt8.ofNat (m / 256 ^ k)).toNat : Int) := by
  rw [pow_8, ofNat_toNat]
  simp [IntKind.wrap, IntKind.bits, IntKind.signed]

theorem round_head (j : Nat) (h : j ≤ 8) (s : Bool) : bits .xor .u8 (128 + (j : Int)) (if s then 255 else 0) = ((fl s (UInt8.ofNat (128 + j))).toNat : Int) := by
  rw [← xor_flip, ofNat_toNat, Nat.mod_eq_of_lt (by omega)]
  rfl

theorem div_cast (M k : Nat) : (M : Int) / 2 ^ k = ((M / 2 ^ k : Nat) : Int) := by simp
theorem div_cast_pos (M k : Nat) (h : ¬ M / 2 ^ k = 0) : 0 < (M : Int) / 2 ^ k := by
  rw [div_cast]
  exact Int.ofNat_lt.2 (Nat.pos_of_ne_zero h)
theorem head_ex (j : Nat) (h : j ≤ 8) (s : Bool) : ∃ H : UInt8, bits .xor .u8 (128 + (j : Int)) (if s then 255 else 0) = (H.toNat : Int) ∧ Hid (fl s (UInt8.ofNat (128 + j)) = H) := ⟨_, round_head j h s, rfl⟩
theorem byte_ex (M r : Nat) (s : Bool) : ∃ H : UInt8, bits .xor .u8 ((M : Int) / 2 ^ (8 * r) % 256) (if s then 255 else 0) = (H.toNat : Int) ∧ Hid (fl s (UInt8.ofNat (M / 256 ^ r)) = H) := by
  refine ⟨_, ?_, rfl⟩
  rw [← xor_flip, ← wrap_u8_div M r, div_cast]
  simp [IntKind.wrap, IntKind.bits, IntKind.signed]
/-- After some rounds of the second loop. -/
def Part (s : Bool) (M j r : Nat) (H : UInt8) (L : List UInt8) : Prop := ∃ t, L = H :: t ∧ t ++ (be r M).map (fl s) = (be j M).map (fl s)
theorem Part.start (s : Bool) (M j : Nat) (H : UInt8) : Part s M j j H [H] := ⟨[], rfl, rfl⟩
theorem Part.step {s : Bool} {M j r : Nat} {H b : UInt8} {L : List UInt8} (h : Part s M j (r + 1) H L) (hb : fl s (UInt8.ofNat (M / 256 ^ r)) = b) : Part s M j r H (L ++ [b]) := by
  obtain ⟨t, rfl, ht⟩ := h
  refine ⟨t ++ [b], rfl, ?_⟩
  rw [be, List.map_cons, hb] at ht
  simpa using ht
theorem Part.done {s : Bool} {M j : Nat} {H : UInt8} {L : List UInt8} (h : Part s M j 0 H L) : L = H :: (be j M).map (fl s) := by
  obtain ⟨t, rfl, ht⟩ := h
  rw [be, List.map_nil, List.append_nil] at ht
  rw [ht]
theorem Part.len {s : Bool} {M j r : Nat} {H : UInt8} {L : List UInt8} (h : Part s M j r H L) : L.length + r = j + 1 := by
  obtain ⟨t, rfl, ht⟩ := h
  have := congrArg List.length ht
  simp only [List.length_append, List.length_map, be_length] at this
  simp only [List.length_cons]
  omega
theorem own_lit (w : World) (H : UInt8) : (w.alloc (.cells #[.int .u8 (H.toNat : Int)] 5)).ownsRow w.heap.size 5 1 (.slice (some ⟨w.heap.size, 0, none⟩) 1 1) [H].length (bv [H]) :=
  World.ownsRow_lit (base := w.heap.size) (e := 5) (size := 1) w #[.int .u8 (H.toNat : Int)] 1 (Nat.le_refl _) (by decide) rfl
theorem nb_of (M j : Nat) (hj : j ≤ 8) (hMj : M < 256 ^ j) (hex : ¬ (0 < j ∧ M / 2 ^ (8 * (j - 1)) = 0)) : nb M = j :=
  nb_unique M j hj hMj fun h0 => by
    have : ¬ M / 2 ^ (8 * (j - 1)) = 0 := fun h => hex ⟨h0, h⟩
    rw [pow_8] at this
    rcases Nat.lt_or_ge M (256 ^ (j - 1)) with h | h
    · exact absurd (Nat.div_eq_of_lt h) this
    · exact h

set_option maxRecDepth 100000 in
set_option maxHeartbeats 400000 in
theorem int_neg_core (n : Int) (M : Nat) (l : List UInt8) (hn : I64 n) (hneg : n < 0) (hM : M < 9223372036854775808) (HM : Hid (bits .xor .u64 IntKind.u64.max (IntKind.u64.wrap n) = (M : Int)))
    (hl : Hid (l = fl true (UInt8.ofNat (128 + nb M)) :: (be (nb M) M).map (fl true))) (w : World) :
    Calls Try.prog 20 #[.int .i64 n] w (RetB w l) := by
  have hb1 : -9223372036854775808 ≤ n := hn.1
  go_enter Try.func20, Try.ntmps20
  go_wp2
  go_step3
  go_wp2
  go_step3
  go_wp2
  rw [HM.out]
  clear HM
  go_loop [5] (fun k => ∃ j : Nat, j ≤ 8 ∧ M < 256 ^ j ∧ k = .int .i64 j) (fun k => (intOf k).toNat)
  case atStart => exact ⟨8, by omega, by omega, rfl⟩
  case round =>
    obtain ⟨j, hj, hMj, rfl⟩ := hrel
    by_cases hex : 0 < j ∧ M / 2 ^ (8 * (j - 1)) = 0
    · have h1 := hex.1
      have h2 : ((M : Int) / 2 ^ (8 * (j - 1))) ≤ 0 := by have := hex.2; norm_cast; omega
      have HD : M < 256 ^ (j - 1) := by
        have := hex.2
        rw [pow_8] at this
        exact (Nat.div_eq_zero_iff.1 this).resolve_left (by have : 0 < 256 ^ (j - 1) := Nat.pow_pos (by omega); omega)
      clear hex
      go_wp2
      go_round
      case rel => exact ⟨j - 1, by omega, HD, by go_num⟩
      case measure => simp [intOf]; omega
    · have hk := hide (nb_of M j hj hMj hex)
      obtain ⟨H, hr, hH⟩ := head_ex j hj true
      simp only [if_true] at hr
      have h2 : 0 < j → 0 < ((M : Int) / 2 ^ (8 * (j - 1))) := fun h => by
        have h3 : ¬ M / 2 ^ (8 * (j - 1)) = 0 := fun h' => hex ⟨h, h'⟩
        exact div_cast_pos M _ h3
      clear hex hMj
      by_cases hj0 : 0 < j
      all_goals
        first | have h2 := h2 hj0 | clear h2
        go_wp2
        go_loopw [6, 7] (fun v i wr => ∃ (r : Nat) (L : List UInt8), r ≤ j ∧ i = .int .i64 ((r : Int) - 1) ∧ Part true M j r H L ∧ wr.ownsRow w.heap.size 5 1 v L.length (bv L) ∧ Below w.heap.size w wr) (fun _ i _ => (intOf i + 1).toNat)
        case atStart => exact ⟨j, [H], by omega, rfl, Part.start _ _ _ _, own_lit w H, (Below.refl _ _).alloc (Nat.le_refl _) _⟩
        case round =>
          obtain ⟨r, L, hrj, rfl, hP, hown, hB⟩ := hrel
          by_cases hr0 : 0 < r
          · first
            | (exfalso; omega)
            | (obtain ⟨r, rfl⟩ : ∃ q, r = q + 1 := ⟨r - 1, by omega⟩
               obtain ⟨X, hX, hXX⟩ := byte_ex M r true
               simp only [if_true] at hX
               have e1 : ((r + 1 : Nat) : Int) - 1 = r := by omega
               rw [e1]
               clear e1
               have hL := hP.len
               have hbz := hB.size
               have HP := hide hP
               clear hP
               go_wp2_with (at_builtin; refine wp_app1 (w0 := w) rfl (.tmp 36) (.tmp 44) 28 rfl w.heap.size (.int .u8 0) 1 Try.underlying28 inf5 rfl _ L.length (bv L) rfl hown rfl rfl (by omega) (by omega) hbz hB ?_; intro v' w1 ho1 hB1 _ _)
               go_roundw
               case rel => exact ⟨r, L ++ [X], by omega, rfl, HP.out.step hXX.out, by rw [bv_append, List.length_append]; exact ho1, hB1⟩
               case measure => simp [intOf])
          · obtain rfl : r = 0 := by omega
            have HP := hide hP
            clear hP
            go_wp2
            try rw [Exit.noGoto_ret]
            go_ret
            exact ⟨_, rfl, by rw [hl.out, hk.out, hH.out, ← HP.out.done]; exact hown, hB⟩
set_option maxRecDepth 100000 in
set_option maxHeartbeats 400000 in
theorem int_pos_core (M : Nat) (l : List UInt8) (hM : M < 9223372036854775808)
    (hl : Hid (l = fl false (UInt8.ofNat (128 + nb M)) :: (be (nb M) M).map (fl false))) (w : World) :
    Calls Try.prog 20 #[.int .i64 (M : Int)] w (RetB w l) := by
  go_enter Try.func20, Try.ntmps20
  go_wp2
  go_step3
  go_wp2
  go_step3
  go_wp2
  go_loop [5] (fun k => ∃ j : Nat, j ≤ 8 ∧ M < 256 ^ j ∧ k = .int .i64 j) (fun k => (intOf k).toNat)
  case atStart => exact ⟨8, by omega, by omega, rfl⟩
  case round =>
    obtain ⟨j, hj, hMj, rfl⟩ := hrel
    by_cases hex : 0 < j ∧ M / 2 ^ (8 * (j - 1)) = 0
    · have h1 := hex.1
      have h2 : ((M : Int) / 2 ^ (8 * (j - 1))) ≤ 0 := by have := hex.2; norm_cast; omega
      have HD : M < 256 ^ (j - 1) := by
        have := hex.2
        rw [pow_8] at this
        exact (Nat.div_eq_zero_iff.1 this).resolve_left (by have : 0 < 256 ^ (j - 1) := Nat.pow_pos (by omega); omega)
      clear hex
      go_wp2
      go_round
      case rel => exact ⟨j - 1, by omega, HD, by go_num⟩
      case measure => simp [intOf]; omega
    · have hk := hide (nb_of M j hj hMj hex)
      obtain ⟨H, hr, hH⟩ := head_ex j hj false
      simp only [Bool.false_eq_true, if_false] at hr
      have h2 : 0 < j → 0 < ((M : Int) / 2 ^ (8 * (j - 1))) := fun h => by
        have h3 : ¬ M / 2 ^ (8 * (j - 1)) = 0 := fun h' => hex ⟨h, h'⟩
        exact div_cast_pos M _ h3
      clear hex hMj
      by_cases hj0 : 0 < j
      all_goals
        first | have h2 := h2 hj0 | clear h2
        go_wp2
        go_loopw [6, 7] (fun v i wr => ∃ (r : Nat) (L : List UInt8), r ≤ j ∧ i = .int .i64 ((r : Int) - 1) ∧ Part false M j r H L ∧ wr.ownsRow w.heap.size 5 1 v L.length (bv L) ∧ Below w.heap.size w wr) (fun _ i _ => (intOf i + 1).toNat)
        case atStart => exact ⟨j, [H], by omega, rfl, Part.start _ _ _ _, own_lit w H, (Below.refl _ _).alloc (Nat.le_refl _) _⟩
        case round =>
          obtain ⟨r, L, hrj, rfl, hP, hown, hB⟩ := hrel
          by_cases hr0 : 0 < r
          · first
            | (exfalso; omega)
            | (obtain ⟨r, rfl⟩ : ∃ q, r = q + 1 := ⟨r - 1, by omega⟩
               obtain ⟨X, hX, hXX⟩ := byte_ex M r false
               simp only [Bool.false_eq_true, if_false] at hX
               have e1 : ((r + 1 : Nat) : Int) - 1 = r := by omega
               rw [e1]
               clear e1
               have hL := hP.len
               have hbz := hB.size
               have HP := hide hP
               clear hP
               go_wp2_with (at_builtin; refine wp_app1 (w0 := w) rfl (.tmp 36) (.tmp 44) 28 rfl w.heap.size (.int .u8 0) 1 Try.underlying28 inf5 rfl _ L.length (bv L) rfl hown rfl rfl (by omega) (by omega) hbz hB ?_; intro v' w1 ho1 hB1 _ _)
               go_roundw
               case rel => exact ⟨r, L ++ [X], by omega, rfl, HP.out.step hXX.out, by rw [bv_append, List.length_append]; exact ho1, hB1⟩
               case measure => simp [intOf])
          · obtain rfl : r = 0 := by omega
            have HP := hide hP
            clear hP
            go_wp2
            try rw [Exit.noGoto_ret]
            go_ret
            exact ⟨_, rfl, by rw [hl.out, hk.out, hH.out, ← HP.out.done]; exact hown, hB⟩
/-- wire.Int. -/
theorem int_any (n : Int) (hn : I64 n) (w : World) : Calls Try.prog 20 #[.int .i64 n] w (RetB w (encInt n)) := by
  by_cases h : n < 0
  · exact int_neg_core n (mag n) (encInt n) hn h (mag_lt n hn) (hide (not64 n hn h)) (hide (by simp [encInt, h])) w
  · have hm := mag_cast n
    rw [if_neg h] at hm
    have := int_pos_core (mag n) (encInt n) (mag_lt n hn) (hide (by simp [encInt, h])) w
    rwa [hm] at this
end Go.Proofs.Ytopppkafbbfobaa.W
