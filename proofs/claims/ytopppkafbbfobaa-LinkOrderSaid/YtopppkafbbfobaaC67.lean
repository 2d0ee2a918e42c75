/- link.seal. -/
import Derived.Test.YtopppkafbbfobaaM0
import Derived.Laws.Bits64
namespace Go.Proofs.Ytopppkafbbfobaa.W
open Go.RowKit
theorem mix_int (h : Nat) (c : UInt8) (hh : h < 18446744073709551616) : IntKind.u64.wrap (bits .xor .u64 (h : Int) (c.toNat : Int) * 1099511628211) = ((mix h c : Nat) : Int) := by
  have hc := u8_lt c
  rw [u64_xor_nat h c.toNat hh (by omega)]
  unfold mix
  generalize h ^^^ c.toNat = x
  show (x : Int) * 1099511628211 % 18446744073709551616 = _
  omega
/-- Byte j of a number, if it is among the first k. -/
def zat (m k j : Nat) : Int := if j < k then ((m / 256 ^ j % 256 : Nat) : Int) else 0
theorem zat_more {m k j : Nat} (h : j ≠ k) : zat m (k + 1) j = zat m k j := by
  unfold zat
  by_cases h1 : j < k
  · rw [if_pos h1, if_pos (by omega)]
  · rw [if_neg h1, if_neg (by omega)]
theorem zat_last (m k : Nat) : zat m (k + 1) k = ((m / 256 ^ k % 256 : Nat) : Int) := by unfold zat; rw [if_pos (by omega)]
theorem zeros8 {m : Nat} (i : Nat) (hi : i < 8) : (#[.int .u8 0, .int .u8 0, .int .u8 0, .int .u8 0, .int .u8 0, .int .u8 0, .int .u8 0, .int .u8 0] : Array Value)[i]? = some (.int .u8 (zat m 0 i)) := by
  have h : zat m 0 i = 0 := by unfold zat; rw [if_neg (by omega)]
  rw [h]
  obtain rfl | rfl | rfl | rfl | rfl | rfl | rfl | rfl : i = 0 ∨ i = 1 ∨ i = 2 ∨ i = 3 ∨ i = 4 ∨ i = 5 ∨ i = 6 ∨ i = 7 := by omega
  all_goals rfl
theorem zeros8' (i : Nat) (hi : i < 8) : (#[.int .u8 0, .int .u8 0, .int .u8 0, .int .u8 0, .int .u8 0, .int .u8 0, .int .u8 0, .int .u8 0] : Array Value)[i]? = some (.int .u8 0) := by
  have := zeros8 (m := 0) i hi
  rwa [show zat 0 0 i = 0 from by unfold zat; rw [if_neg (by omega)]] at this
/-- A stamp as an array. -/
def arr8 (l : List UInt8) : Value := .agg ((bv l).toArray)
theorem arr8_zat (m : Nat) : arr8 (le8 8 m) = .agg #[.int .u8 (zat m 8 0), .int .u8 (zat m 8 1), .int .u8 (zat m 8 2), .int .u8 (zat m 8 3), .int .u8 (zat m 8 4), .int .u8 (zat m 8 5), .int .u8 (zat m 8 6), .int .u8 (zat m 8 7)] := by
  simp only [arr8, le8, bv, List.map_cons, List.map_nil, zat, ofNat_toNat, Nat.div_div_eq_div_mul]
  simp
set_option maxRecDepth 100000 in
set_option maxHeartbeats 400000 in
theorem seal_any (key : Nat) (hk : key < 18446744073709551616) (A : Option Addr) (l : List UInt8) (n c : Nat) (w : World) (hn : n = l.length) (hR : Rd w A (bv l)) :
    Calls Try.prog 67 #[.int .u64 (key : Int), .slice A n c] w fun e w' => e = .returned (arr8 (stamp key l)) ∧ Below w.heap.size w w' := by
  have hm : n ≤ 9223372036854775807 := by have := hR.len; rw [bv_length] at this; omega
  have HK := hide (u64_xor_nat 14695981039346656037 key (by decide) hk)
  have HL := hide (fun k => fnv_lt hk (l.take k))
  have HN := hide hn
  have HR := hide hR
  clear hn hk hR
  go_enter Try.func67, Try.ntmps67
  go_wp2
  go_loop [5, 14] (fun h i => ∃ k : Nat, k ≤ n ∧ i = .int .i64 (k : Int) ∧ h = .int .u64 ((fnv key (l.take k) : Nat) : Int)) (fun _ i => n - (intOf i).toNat)
  case atStart => exact ⟨0, Nat.zero_le _, rfl, val_int HK.out⟩
  case round =>
    obtain ⟨k, hk, rfl, rfl⟩ := hrel
    by_cases hkn : k < n
    · obtain ⟨b, off, rfl, hc⟩ := HR.out.2 (by rw [bv_length, ← HN.out]; omega)
      have hc1 := hc k _ (bv_getElem? l k (by rw [← HN.out]; exact hkn))
      have hlb := World.block_lt_of_cell? _ _ hc1
      have HT := hide (take_succ_getD l k (by rw [← HN.out]; exact hkn))
      have HF := hide (fnv_snoc key (l.take k) (l.getD k 0))
      have HX := hide (mix_int (fnv key (l.take k)) (l.getD k 0) (HL.out k))
      generalize l.getD k 0 = x at *
      generalize fnv key (l.take k) = m at *
      have hx := u8_lt x
      simp only at hlb
      clear hc
      have hc2 := (((Below.refl w.heap.size w).alloc (Nat.le_refl _) (Obj.cells #[.int .u8 0, .int .u8 0, .int .u8 0, .int .u8 0, .int .u8 0, .int .u8 0, .int .u8 0, .int .u8 0] 95)).cell (p := ⟨b, off + k, none⟩) hlb).trans hc1
      clear hc1
      go_wp2
      go_round
      case rel => exact ⟨k + 1, by omega, by go_num, val_int (by rw [HT.out, HF.out]; exact HX.out)⟩
      case measure => simp [intOf]; omega
    · obtain rfl : k = n := by omega
      have HT := hide (List.take_of_length_le (l := l) (i := k) (by rw [HN.out]; exact Nat.le_refl _))
      have HS := hide (show stamp key l = le8 8 (fnv key (l.take k)) from by rw [HT.out]; rfl)
      have hlt := hide (HL.out k)
      generalize fnv key (l.take k) = m at *
      go_wp2
      go_loopw [24] (fun i wr => ∃ j : Nat, j ≤ 8 ∧ i = .int .i64 (j : Int) ∧ Below (w.heap.size + 1) (w.alloc (Obj.cells #[.int .u8 0, .int .u8 0, .int .u8 0, .int .u8 0, .int .u8 0, .int .u8 0, .int .u8 0, .int .u8 0] 95)) wr ∧
        Hid (∀ i, i < 8 → wr.cell? ⟨w.heap.size + 1, i, none⟩ = some (.int .u8 (zat m j i))) ∧ Hid (∀ i, i < 8 → wr.frozen? ⟨w.heap.size + 1, i, none⟩ = false)) (fun i _ => 8 - (intOf i).toNat)
      case atStart =>
        refine ⟨0, by omega, rfl, (Below.refl _ _).alloc (by simp) _, hide fun i hi => ?_, hide fun i hi => ?_⟩
        · rw [World.cell?_alloc_at _ _ _ _ (by simp)]; exact zeros8 i hi
        · exact World.frozen?_alloc_at _ _ _ _ (by simp)
      case round =>
        obtain ⟨j, hj, rfl, hB, hC, hF⟩ := hrel
        by_cases hj8 : j < 8
        · have c1 := hC.out j hj8
          have f1 := hF.out j hj8
          have hlb := World.block_lt_of_cell? _ _ c1
          simp only at hlb
          go_wp2
          refine ⟨⟨j + 1, by omega, by go_num, hB.setCell (Nat.le_refl _) _, hide fun i hi => ?_, hide fun i hi => ?_⟩, by simp [intOf]; omega⟩
          · by_cases hij : i = j
            · subst hij
              rw [World.cell?_setCell_same _ _ _ c1, zat_last, div_cast, pow_8, Int.natCast_emod]
              rfl
            · rw [World.cell?_setCell_other _ _ _ _ (fun e => hij (by simpa using (congrArg Addr.off e).symm)), hC.out i hi, zat_more hij]
          · rw [World.frozen?_setCell]; exact hF.out i hi
        · obtain rfl : j = 8 := by omega
          have c0 := hC.out 0 (by omega)
          have c1 := hC.out 1 (by omega)
          have c2 := hC.out 2 (by omega)
          have c3 := hC.out 3 (by omega)
          have c4 := hC.out 4 (by omega)
          have c5 := hC.out 5 (by omega)
          have c6 := hC.out 6 (by omega)
          have c7 := hC.out 7 (by omega)
          have HA := hide ((arr8_zat m).symm)
          generalize zat m 8 0 = z0 at *
          generalize zat m 8 1 = z1 at *
          generalize zat m 8 2 = z2 at *
          generalize zat m 8 3 = z3 at *
          generalize zat m 8 4 = z4 at *
          generalize zat m 8 5 = z5 at *
          generalize zat m 8 6 = z6 at *
          generalize zat m 8 7 = z7 at *
          have hD : ∀ i, i < 8 → wr.cell? ⟨w.heap.size, i, none⟩ = some (.int .u8 0) := fun i hi =>
            (hB.cell (p := ⟨w.heap.size, i, none⟩) (by simp)).trans (by rw [World.cell?_alloc_at _ _ _ _ rfl]; exact zeros8' i hi)
          have hE : ∀ i, wr.frozen? ⟨w.heap.size, i, none⟩ = false := fun i =>
            (hB.frozen (p := ⟨w.heap.size, i, none⟩) (by simp)).trans (World.frozen?_alloc_at _ _ _ _ rfl)
          have d0 := hD 0 (by omega)
          have d1 := hD 1 (by omega)
          have d2 := hD 2 (by omega)
          have d3 := hD 3 (by omega)
          have d4 := hD 4 (by omega)
          have d5 := hD 5 (by omega)
          have d6 := hD 6 (by omega)
          have d7 := hD 7 (by omega)
          clear hD
          go_wp2
          refine bodyPost_ret (v := .agg #[.int .u8 z0, .int .u8 z1, .int .u8 z2, .int .u8 z3, .int .u8 z4, .int .u8 z5, .int .u8 z6, .int .u8 z7]) (by simp [results, Try.results67, go_sem, d0, d1, d2, d3, d4, d5, d6, d7]) rfl ⟨by rw [HS.out, ← HA.out], ?_⟩
          have h0 := ((Below.refl w.heap.size w).alloc (Nat.le_refl _) _).trans (hB.mono (Nat.le_succ _))
          exact (((((((h0.setCell (Nat.le_refl _) _).setCell (Nat.le_refl _) _).setCell (Nat.le_refl _) _).setCell (Nat.le_refl _) _).setCell (Nat.le_refl _) _).setCell (Nat.le_refl _) _).setCell (Nat.le_refl _) _).setCell (Nat.le_refl _) _
end Go.Proofs.Ytopppkafbbfobaa.W
