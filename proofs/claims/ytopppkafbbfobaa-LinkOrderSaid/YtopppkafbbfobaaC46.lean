/- link.Open. -/
import Derived.Test.YtopppkafbbfobaaC43
import Derived.Test.YtopppkafbbfobaaC42
import Derived.Deep.RegionHeld3
import Derived.Deep.DrawnRows
namespace Go.Proofs.Ytopppkafbbfobaa.W
open Go.RowKit
attribute [local go_sem ↓] Go.wp_at_zero Go.wp_at_succ
/-- What a function leaves that opens sealed bytes. -/
def OpenPost (w : World) (r : Except Nat Bs) (e : Ending) (w' : World) : Prop :=
  Below w.heap.size w w' ∧ match r with
    | .error k => e = .returned (.tuple #[.slice none 0 0, .int .i64 (k : Int)])
    | .ok c => ∃ v, e = .returned (.tuple #[v, .int .i64 0]) ∧ w'.ownsRow w.heap.size 5 1 v c.length (bv c)
theorem neq95 (xs ys : List UInt8) (hx : xs.length = 8) (hy : ys.length = 8) (W : World) : (binOp .neq 95 (arr8 xs) (arr8 ys)).run Try.prog W = .ok (.bool (!(xs == ys))) W := by
  unfold arr8
  rw [run_neq_struct]
  have := run_equalIn_bytes (P := Try.prog) W 9998 95 5 8 Try.underlying95 Try.underlying5 (fun w => run_sizeOf cel5 ino5 w) xs ys hx hy
  rw [show (bv xs) = xs.map Extern.Stop.cell from rfl, show (bv ys) = ys.map Extern.Stop.cell from rfl, this]
  rfl
theorem rd_drew {w : World} {A : Option Addr} {xs : List Value} (h : Rd w A xs) : Rd w.drew A xs := h
theorem below_undrew {B : Nat} {w w' : World} (h : Below B w.drew w') : Below B w w' := ⟨h.os, h.tape, h.output, h.size, h.block⟩
theorem below_undrewN {B n : Nat} {w w' : World} (h : Below B (w.drewN n) w') : Below B w w' := ⟨h.os, h.tape, h.output, h.size, h.block⟩
theorem addr_add (b off j : Nat) : (⟨b, off, none⟩ : Addr).add j = ⟨b, off + j, none⟩ := by unfold Addr.add; split <;> simp_all
theorem arr8_lit (b0 b1 b2 b3 b4 b5 b6 b7 : UInt8) : arr8 [b0, b1, b2, b3, b4, b5, b6, b7] = .agg #[.int .u8 (b0.toNat : Int), .int .u8 (b1.toNat : Int), .int .u8 (b2.toNat : Int), .int .u8 (b3.toNat : Int), .int .u8 (b4.toNat : Int), .int .u8 (b5.toNat : Int), .int .u8 (b6.toNat : Int), .int .u8 (b7.toNat : Int)] := rfl
set_option maxRecDepth 100000 in
set_option maxHeartbeats 400000 in
theorem Open_short (key : Nat) (A : Option Addr) (n c : Nat) (w : World) (hn : n < 8) :
    Calls Try.prog 46 #[.int .u64 (key : Int), .slice A n c] w fun e w' => e = .returned (.tuple #[.slice none 0 0, .int .i64 2]) ∧ w = w' := by
  have h1 : (n : Int) < 8 := by omega
  go_enter Try.func46, Try.ntmps46
  go_wp2
  go_ret2
  exact ⟨rfl, rfl⟩
theorem run_arr95 (A : Option Addr) (c : Nat) (W : World) : (Instr.arrayAt 95 (.slice A 8 c)).run Try.prog W = .ok (.pointer A) W := by
  simp [Instr.arrayAt, run_underlying Try.underlying95]
theorem seal_lit (key : Nat) (hk : key < 18446744073709551616) (A : Option Addr) (l : List UInt8) (n c : Nat) (w : World) (hn : n = l.length) (hR : Rd w A (bv l)) (a0 a1 a2 a3 a4 a5 a6 a7 : UInt8) (hst : Hid (stamp key l = [a0, a1, a2, a3, a4, a5, a6, a7])) :
    Calls Try.prog 67 #[.int .u64 (key : Int), .slice A n c] w fun e w' => e = .returned (.agg #[.int .u8 (a0.toNat : Int), .int .u8 (a1.toNat : Int), .int .u8 (a2.toNat : Int), .int .u8 (a3.toNat : Int), .int .u8 (a4.toNat : Int), .int .u8 (a5.toNat : Int), .int .u8 (a6.toNat : Int), .int .u8 (a7.toNat : Int)]) ∧ Below w.heap.size w w' := by
  rw [← arr8_lit, ← hst.out]
  exact seal_any key hk A l n c w hn hR
theorem eight {l : List UInt8} (h : l.length = 8) : ∃ b0 b1 b2 b3 b4 b5 b6 b7 : UInt8, l = [b0, b1, b2, b3, b4, b5, b6, b7] := by
  match l, h with
  | [b0, b1, b2, b3, b4, b5, b6, b7], _ => exact ⟨_, _, _, _, _, _, _, _, rfl⟩
set_option maxRecDepth 100000 in
set_option maxHeartbeats 400000 in
theorem Open_bad (key : Nat) (hk : key < 18446744073709551616) (b off : Nat) (l s : List UInt8) (q c : Nat) (w : World) (hq : Hid (q = l.length)) (hc : q + 8 ≤ c) (hl : q ≤ 140737488350000)
    (hR : Rd w (some ⟨b, off, none⟩) (bv l)) (hs : Hid (s.length = 8)) (b0 b1 b2 b3 b4 b5 b6 b7 : UInt8) (hS : Hid (s = [b0, b1, b2, b3, b4, b5, b6, b7])) (hcell : Hid (∀ j u, (bv s)[j]? = some u → w.cell? ⟨b, off + q + j, none⟩ = some u)) (hne : Hid (stamp key l ≠ s)) :
    Calls Try.prog 46 #[.int .u64 (key : Int), .slice (some ⟨b, off, none⟩) (q + 8) c] w (OpenPost w (.error 9)) := by
  have hcut1 := run_cut_to Try.underlying28 cel5 ino5 (some ⟨b, off, none⟩) (q + 8) c (q : Int) (by omega) (by omega)
  have hcut2 := run_cut_from Try.underlying28 cel5 ino5 (some ⟨b, off, none⟩) (q + 8) c (q : Int) (by omega) (by omega)
  rw [cutAt_zero, Int.toNat_natCast] at hcut1
  rw [Int.toNat_natCast, Nat.add_sub_cancel_left, show cutAt (some ⟨b, off, none⟩) c q 1 = some ⟨b, off + q, none⟩ from by unfold cutAt; rw [if_neg (by omega), Nat.mul_one, Option.map_some, addr_add]] at hcut2
  have harr := run_arr95 (some ⟨b, off + q, none⟩) (c - q)
  have hnq := fun W => neq95 (stamp key l) s (stamp_length _ _) hs.out W
  rw [show (stamp key l == s) = false from by rw [beq_eq_false_iff_ne]; exact hne.out] at hnq
  obtain ⟨a0, a1, a2, a3, a4, a5, a6, a7, hst⟩ := stamp8 key l
  rw [hS.out, hst, arr8_lit, arr8_lit] at hnq
  have HST := hide hst
  clear hst
  have hC := hcell.out
  rw [hS.out] at hC
  have c0 := hC 0 _ rfl
  have c1 := hC 1 _ rfl
  have c2 := hC 2 _ rfl
  have c3 := hC 3 _ rfl
  have c4 := hC 4 _ rfl
  have c5 := hC 5 _ rfl
  have c6 := hC 6 _ rfl
  have c7 := hC 7 _ rfl
  clear hC
  generalize off + q = o at *
  go_enter Try.func46, Try.ntmps46
  go_wp2_with fail
  have hkeep : ∀ w', Below w.heap.size w w' → w'.cell? ⟨b, o, none⟩ = some (.int .u8 (b0.toNat : Int)) ∧ w'.cell? ⟨b, o + 1, none⟩ = some (.int .u8 (b1.toNat : Int)) ∧ w'.cell? ⟨b, o + 2, none⟩ = some (.int .u8 (b2.toNat : Int)) ∧ w'.cell? ⟨b, o + 3, none⟩ = some (.int .u8 (b3.toNat : Int)) ∧
      w'.cell? ⟨b, o + 4, none⟩ = some (.int .u8 (b4.toNat : Int)) ∧ w'.cell? ⟨b, o + 5, none⟩ = some (.int .u8 (b5.toNat : Int)) ∧ w'.cell? ⟨b, o + 6, none⟩ = some (.int .u8 (b6.toNat : Int)) ∧ w'.cell? ⟨b, o + 7, none⟩ = some (.int .u8 (b7.toNat : Int)) := fun w' hB =>
    have hb := World.block_lt_of_cell? _ _ c0
    ⟨(hB.cell (p := ⟨b, o, none⟩) hb).trans c0, (hB.cell (p := ⟨b, o + 1, none⟩) hb).trans c1, (hB.cell (p := ⟨b, o + 2, none⟩) hb).trans c2, (hB.cell (p := ⟨b, o + 3, none⟩) hb).trans c3, (hB.cell (p := ⟨b, o + 4, none⟩) hb).trans c4, (hB.cell (p := ⟨b, o + 5, none⟩) hb).trans c5, (hB.cell (p := ⟨b, o + 6, none⟩) hb).trans c6, (hB.cell (p := ⟨b, o + 7, none⟩) hb).trans c7⟩
  have HKP := hide hkeep
  clear hkeep
  go_region_held3 (fun w' => w'.cell? ⟨b, o, none⟩ = some (.int .u8 (b0.toNat : Int)) ∧ w'.cell? ⟨b, o + 1, none⟩ = some (.int .u8 (b1.toNat : Int)) ∧ w'.cell? ⟨b, o + 2, none⟩ = some (.int .u8 (b2.toNat : Int)) ∧ w'.cell? ⟨b, o + 3, none⟩ = some (.int .u8 (b3.toNat : Int)) ∧
      w'.cell? ⟨b, o + 4, none⟩ = some (.int .u8 (b4.toNat : Int)) ∧ w'.cell? ⟨b, o + 5, none⟩ = some (.int .u8 (b5.toNat : Int)) ∧ w'.cell? ⟨b, o + 6, none⟩ = some (.int .u8 (b6.toNat : Int)) ∧ w'.cell? ⟨b, o + 7, none⟩ = some (.int .u8 (b7.toNat : Int)))
    (first | exact HKP.out _ (below_undrew hB) | go_keep)
    ((go_at_call 67; refine (seal_lit key hk (some ⟨b, off, none⟩) l q c w.drew hq.out (rd_drew hR) a0 a1 a2 a3 a4 a5 a6 a7 HST).mono ?_; rintro e w1 ⟨rfl, hB⟩))
  all_goals
    go_wp2
    go_ret2
    exact ⟨below_undrew hB, rfl⟩
set_option maxRecDepth 100000 in
set_option maxHeartbeats 400000 in
theorem Open_good (key : Nat) (hk : key < 18446744073709551616) (b off : Nat) (l s : List UInt8) (q c : Nat) (w : World) (hq : Hid (q = l.length)) (hc : q + 8 ≤ c) (hl : q ≤ 140737488350000)
    (hR : Rd w (some ⟨b, off, none⟩) (bv l)) (hs : Hid (s.length = 8)) (b0 b1 b2 b3 b4 b5 b6 b7 : UInt8) (hS : Hid (s = [b0, b1, b2, b3, b4, b5, b6, b7])) (hcell : Hid (∀ j u, (bv s)[j]? = some u → w.cell? ⟨b, off + q + j, none⟩ = some u)) (hne : Hid (stamp key l = s)) :
    Calls Try.prog 46 #[.int .u64 (key : Int), .slice (some ⟨b, off, none⟩) (q + 8) c] w (OpenPost w (.ok l)) := by
  have hcut1 := run_cut_to Try.underlying28 cel5 ino5 (some ⟨b, off, none⟩) (q + 8) c (q : Int) (by omega) (by omega)
  have hcut2 := run_cut_from Try.underlying28 cel5 ino5 (some ⟨b, off, none⟩) (q + 8) c (q : Int) (by omega) (by omega)
  rw [cutAt_zero, Int.toNat_natCast] at hcut1
  rw [Int.toNat_natCast, Nat.add_sub_cancel_left, show cutAt (some ⟨b, off, none⟩) c q 1 = some ⟨b, off + q, none⟩ from by unfold cutAt; rw [if_neg (by omega), Nat.mul_one, Option.map_some, addr_add]] at hcut2
  have harr := run_arr95 (some ⟨b, off + q, none⟩) (c - q)
  have hnq := fun W => neq95 (stamp key l) s (stamp_length _ _) hs.out W
  rw [show (stamp key l == s) = true from by rw [beq_iff_eq]; exact hne.out] at hnq
  obtain ⟨a0, a1, a2, a3, a4, a5, a6, a7, hst⟩ := stamp8 key l
  rw [hS.out, hst, arr8_lit, arr8_lit] at hnq
  have HST := hide hst
  clear hst
  have hC := hcell.out
  rw [hS.out] at hC
  have c0 := hC 0 _ rfl
  have c1 := hC 1 _ rfl
  have c2 := hC 2 _ rfl
  have c3 := hC 3 _ rfl
  have c4 := hC 4 _ rfl
  have c5 := hC 5 _ rfl
  have c6 := hC 6 _ rfl
  have c7 := hC 7 _ rfl
  clear hC
  generalize off + q = o at *
  go_enter Try.func46, Try.ntmps46
  go_wp2_with fail
  have hkeep : ∀ w', Below w.heap.size w w' → w'.cell? ⟨b, o, none⟩ = some (.int .u8 (b0.toNat : Int)) ∧ w'.cell? ⟨b, o + 1, none⟩ = some (.int .u8 (b1.toNat : Int)) ∧ w'.cell? ⟨b, o + 2, none⟩ = some (.int .u8 (b2.toNat : Int)) ∧ w'.cell? ⟨b, o + 3, none⟩ = some (.int .u8 (b3.toNat : Int)) ∧
      w'.cell? ⟨b, o + 4, none⟩ = some (.int .u8 (b4.toNat : Int)) ∧ w'.cell? ⟨b, o + 5, none⟩ = some (.int .u8 (b5.toNat : Int)) ∧ w'.cell? ⟨b, o + 6, none⟩ = some (.int .u8 (b6.toNat : Int)) ∧ w'.cell? ⟨b, o + 7, none⟩ = some (.int .u8 (b7.toNat : Int)) := fun w' hB =>
    have hb := World.block_lt_of_cell? _ _ c0
    ⟨(hB.cell (p := ⟨b, o, none⟩) hb).trans c0, (hB.cell (p := ⟨b, o + 1, none⟩) hb).trans c1, (hB.cell (p := ⟨b, o + 2, none⟩) hb).trans c2, (hB.cell (p := ⟨b, o + 3, none⟩) hb).trans c3, (hB.cell (p := ⟨b, o + 4, none⟩) hb).trans c4, (hB.cell (p := ⟨b, o + 5, none⟩) hb).trans c5, (hB.cell (p := ⟨b, o + 6, none⟩) hb).trans c6, (hB.cell (p := ⟨b, o + 7, none⟩) hb).trans c7⟩
  have HKP := hide hkeep
  clear hkeep
  go_region_held3 (fun w' => w'.cell? ⟨b, o, none⟩ = some (.int .u8 (b0.toNat : Int)) ∧ w'.cell? ⟨b, o + 1, none⟩ = some (.int .u8 (b1.toNat : Int)) ∧ w'.cell? ⟨b, o + 2, none⟩ = some (.int .u8 (b2.toNat : Int)) ∧ w'.cell? ⟨b, o + 3, none⟩ = some (.int .u8 (b3.toNat : Int)) ∧
      w'.cell? ⟨b, o + 4, none⟩ = some (.int .u8 (b4.toNat : Int)) ∧ w'.cell? ⟨b, o + 5, none⟩ = some (.int .u8 (b5.toNat : Int)) ∧ w'.cell? ⟨b, o + 6, none⟩ = some (.int .u8 (b6.toNat : Int)) ∧ w'.cell? ⟨b, o + 7, none⟩ = some (.int .u8 (b7.toNat : Int)))
    (first | exact HKP.out _ (below_undrew hB) | go_keep)
    ((go_at_call 67; refine (seal_lit key hk (some ⟨b, off, none⟩) l q c w.drew hq.out (rd_drew hR) a0 a1 a2 a3 a4 a5 a6 a7 HST).mono ?_; rintro e w1 ⟨rfl, hB⟩))
  all_goals
    have hB0 := below_undrew hB
    have hz := hB0.size
    go_wp2_with fail
    refine (clone_any (some ⟨b, off, none⟩) l q c _ hq.out (hR.below hB0) (by have := hq.out; omega)).mono ?_
    rintro e w2 ⟨v, rfl, ho, hB2⟩
    go_wp2
    go_ret2
    exact ⟨below_trans hB0 hB2 hz, _, rfl, own_rebase ho hz⟩
/-- link.Open. -/
theorem Open_any (key : Nat) (hk : key < 18446744073709551616) (A : Option Addr) (l : List UInt8) (n c : Nat) (w : World) (hn : n = l.length) (hc : n ≤ c) (hl : n ≤ 140737488350000) (hR : Rd w A (bv l)) :
    Calls Try.prog 46 #[.int .u64 (key : Int), .slice A n c] w (OpenPost w (openP key l)) := by
  unfold openP
  by_cases h8 : l.length < 8
  · rw [if_pos h8]
    refine (Open_short key A n c w (by omega)).mono ?_
    rintro e w' ⟨rfl, rfl⟩
    exact ⟨Below.refl _ _, rfl⟩
  rw [if_neg h8]
  obtain ⟨b, off, rfl, hcell⟩ := hR.2 (by rw [bv_length]; omega)
  obtain ⟨q, hq⟩ : ∃ q, l.length = q + 8 := ⟨l.length - 8, by omega⟩
  rw [hq, Nat.add_sub_cancel, hn, hq]
  have h1 : (l.take q).length = q := by rw [List.length_take]; omega
  have h2 : (l.drop q).length = 8 := by rw [List.length_drop]; omega
  have hR1 : Rd w (some ⟨b, off, none⟩) (bv (l.take q)) := by
    refine ⟨by rw [bv_length]; omega, fun _ => ⟨b, off, rfl, fun j u hu => hcell j u ?_⟩⟩
    have hj : j < q := by have := (List.getElem?_eq_some_iff.1 hu).1; rwa [bv_length, h1] at this
    rw [← hu]
    simp [bv, hj]
  have hC : ∀ j u, (bv (l.drop q))[j]? = some u → w.cell? ⟨b, off + q + j, none⟩ = some u := fun j u hu => by
    rw [Nat.add_assoc]
    refine hcell (q + j) u ?_
    rw [← hu]
    simp [bv, List.getElem?_drop]
  obtain ⟨b0, b1, b2, b3, b4, b5, b6, b7, hs⟩ := eight h2
  by_cases hst : stamp key (l.take q) = l.drop q
  · rw [if_pos hst]
    exact Open_good key hk b off (l.take q) (l.drop q) q c w (hide h1.symm) (by omega) (by omega) hR1 (hide h2) b0 b1 b2 b3 b4 b5 b6 b7 (hide hs) (hide hC) (hide hst)
  · rw [if_neg hst]
    exact Open_bad key hk b off (l.take q) (l.drop q) q c w (hide h1.symm) (by omega) (by omega) hR1 (hide h2) b0 b1 b2 b3 b4 b5 b6 b7 (hide hs) (hide hC) (hide hst)
end Go.Proofs.Ytopppkafbbfobaa.W
