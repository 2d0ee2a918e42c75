/- The reference's Seal and Bytes. -/
import Derived.Test.YtopppkafbbfobaaC67
import Derived.Test.YtopppkafbbfobaaC73
import Derived.Test.YtopppkafbbfobaaC23
import Derived.Test.YtopppkafbbfobaaM4
namespace Go.Proofs.Ytopppkafbbfobaa.W
open Go.RowKit
theorem le8_step (j m : Nat) : le8 (j + 1) m = le8 j m ++ [UInt8.ofNat (m / 256 ^ j)] := by
  induction j generalizing m with
  | zero => simp [le8]
  | succ j ih =>
    rw [le8, ih (m / 256)]
    conv => rhs; rw [le8]
    rw [Nat.div_div_eq_div_mul, Nat.pow_succ, Nat.mul_comm 256]
    rfl
set_option maxRecDepth 100000 in
set_option maxHeartbeats 800000 in
theorem rSeal_any (key : Nat) (hk : key < 18446744073709551616) (A : Option Addr) (l : List UInt8) (n c : Nat) (w : World) (hn : n = l.length) (hR : Rd w A (bv l)) (hl : n ≤ 140737488350000) :
    Calls Try.prog 48 #[.int .u64 (key : Int), .slice A n c] w (RetB w (sealed key l)) := by
  have HK := hide (u64_xor_nat 14695981039346656037 key (by decide) hk)
  have HL := hide (fun k => fnv_lt hk (l.take k))
  have HN := hide hn
  have HR := hide hR
  clear hn hk hR
  go_enter Try.func48, Try.ntmps48
  go_wp2
  go_loop [5, 6] (fun h i => ∃ k : Nat, k ≤ n ∧ i = .int .i64 (k : Int) ∧ h = .int .u64 ((fnv key (l.take k) : Nat) : Int)) (fun _ i => n - (intOf i).toNat)
  case atStart => exact ⟨0, Nat.zero_le _, rfl, val_int HK.out⟩
  case round =>
    obtain ⟨k, hk, rfl, rfl⟩ := hrel
    by_cases hkn : k < n
    · obtain ⟨b, off, rfl, hc⟩ := HR.out.2 (by rw [bv_length, ← HN.out]; omega)
      have hc1 := hc k _ (bv_getElem? l k (by rw [← HN.out]; exact hkn))
      have HT := hide (take_succ_getD l k (by rw [← HN.out]; exact hkn))
      have HF := hide (fnv_snoc key (l.take k) (l.getD k 0))
      have HX := hide (mix_int (fnv key (l.take k)) (l.getD k 0) (HL.out k))
      generalize l.getD k 0 = x at *
      generalize fnv key (l.take k) = m at *
      have hx := u8_lt x
      clear hc
      go_wp2
      go_round
      case rel => exact ⟨k + 1, by omega, by go_num, val_int (by rw [HT.out, HF.out]; exact HX.out)⟩
      case measure => simp [intOf]; omega
    · obtain rfl : k = n := by omega
      have HT := hide (List.take_of_length_le (l := l) (i := k) (by rw [HN.out]; exact Nat.le_refl _))
      have HS := hide (show stamp key l = le8 8 (fnv key (l.take k)) from by rw [HT.out]; rfl)
      have hlt := hide (HL.out k)
      generalize fnv key (l.take k) = m at *
      have hb : Below w.heap.size w (w.alloc (.cells #[] 5)) := (Below.refl _ _).alloc (Nat.le_refl _) _
      have ho : (w.alloc (.cells #[] 5)).ownsRow w.heap.size 5 1 (.slice (some ⟨w.heap.size, 0, none⟩) 0 0) 0 [] := World.ownsRow_made w #[] 0 (Nat.le_refl _) (Nat.zero_le _) rfl
      have hR2 := HR.out.below hb
      go_wp2_with (at_builtin; refine wp_app (w0 := w) rfl (.tmp 25) (.tmp 26) 28 rfl w.heap.size 5 (.int .u8 0) 1 1 Try.underlying28 inf5 rfl (by decide) _ 0 [] rfl ho A k c (bv l) rfl (by rw [bv_length, Nat.mul_one]; exact HN.out.symm) hR2 (bv_one _) (by omega) (by omega) hb.size hb ?_; intro v' w' ho' hB' _ _)
      rw [Nat.zero_add, List.nil_append] at ho'
      go_wp2
      go_loopw [5, 7, 8] (fun h v i wr => ∃ j : Nat, j ≤ 8 ∧ i = .int .i64 (j : Int) ∧ h = .int .u64 ((m / 256 ^ j : Nat) : Int) ∧ wr.ownsRow w.heap.size 5 1 v (l ++ le8 j m).length (bv (l ++ le8 j m)) ∧ Below w.heap.size w wr) (fun _ _ i _ => 8 - (intOf i).toNat)
      case atStart => exact ⟨0, Nat.zero_le _, rfl, by simp, by simpa [le8, ← HN.out] using ho', hB'⟩
      case round =>
        obtain ⟨j, hj, rfl, rfl, hown, hBr⟩ := hrel
        by_cases hj8 : j < 8
        · have hmj : m / 256 ^ j < 18446744073709551616 := Nat.lt_of_le_of_lt (Nat.div_le_self _ _) hlt.out
          have HD := hide (show m / 256 ^ (j + 1) = m / 256 ^ j / 256 from by rw [Nat.div_div_eq_div_mul, Nat.pow_succ])
          have HL8 := hide (le8_step j m)
          have hln : (l ++ le8 j m).length ≤ 140737488350008 := by rw [List.length_append, le8_length, ← HN.out]; omega
          have hbz := hBr.size
          generalize m / 256 ^ j = q at *
          go_wp2_with (at_builtin; refine wp_app1 (w0 := w) (y := .int .u8 ((q : Int) % 256)) rfl (.tmp 32) (.tmp 36) 28 rfl w.heap.size (.int .u8 0) 1 Try.underlying28 inf5 rfl _ (l ++ le8 j m).length (bv (l ++ le8 j m)) rfl hown rfl rfl (by omega) (by omega) hbz hBr ?_; intro v2 w2 ho2 hB2 _ _)
          go_roundw
          case rel =>
            refine ⟨j + 1, by omega, by go_num, val_int (by rw [HD.out]; rfl), ?_, hB2⟩
            have e1 : bv (l ++ le8 (j + 1) m) = bv (l ++ le8 j m) ++ [.int .u8 ((q : Int) % 256)] := by
              rw [HL8.out, ← List.append_assoc, bv_append]
              simp [bv]
            have e2 : (l ++ le8 (j + 1) m).length = (l ++ le8 j m).length + 1 := by simp only [List.length_append, le8_length]; omega
            rw [e1, e2]
            exact ho2
          case measure => simp [intOf]; omega
        · obtain rfl : j = 8 := by omega
          go_wp2
          go_ret
          exact ⟨_, rfl, by rw [sealed, HS.out]; exact hown, hBr⟩
set_option maxRecDepth 100000 in
set_option maxHeartbeats 800000 in
theorem rBytes_any (s a : Int) (hs : I64 s) (ha : I64 a) (A : Option Addr) (m : Bs) (n c : Nat) (w : World) (hn : n = m.length) (hR : Rd w A (bv m)) (hl : n ≤ 140737488300000) :
    Calls Try.prog 49 #[.agg #[.int .i64 s, .int .i64 a, .slice A n c]] w (RetB w (encPkt s a m)) := by
  have h27 := encInts2_length s a
  have h9 := encBytes_length m
  have hi27 : (encInts [s, a]).length ≤ 9223372036854775807 := by omega
  have hi9 : (encBytes m).length ≤ 9223372036854775807 := by omega
  have hml : m.length ≤ 140737488355000 := by omega
  have hsum : (encInts [s, a]).length + (encBytes m).length ≤ 140737488355328 := by omega
  have HI := hide (show ∀ x ∈ [s, a], I64 x from by simp; exact ⟨hs, ha⟩)
  have HCV := hide (show ∀ W, Below w.heap.size w W → (convert 28 9 (.slice A n c)).run Try.prog W = .ok (str m) W from fun W h => run_tostr A m n c (hR.below h) hn)
  have hb0 : Below w.heap.size w (w.alloc (.cells #[.int .i64 s, .int .i64 a, .slice A n c] 62)) := (Below.refl _ _).alloc (Nat.le_refl _) _
  have hb1 : Below w.heap.size w ((w.alloc (.cells #[.int .i64 s, .int .i64 a, .slice A n c] 62)).alloc (.cells #[.int .i64 s, .int .i64 a] 3)) := hb0.alloc hb0.size _
  have hR0 := rd_block2 w #[.int .i64 s, .int .i64 a, .slice A n c] 62 _ rfl (by simp)
  have hRi := rd_block2 (w.alloc (.cells #[.int .i64 s, .int .i64 a, .slice A n c] 62)) #[.int .i64 s, .int .i64 a] 3 (w.heap.size + 1) (by simp) (by simp)
  clear hn hR h27 h9
  go_enter Try.func49, Try.ntmps49
  go_wp2_with fail
  refine (rints_any _ [s, a] 2 2 _ rfl hRi HI.out (by omega)).mono ?_
  rintro e w1 ⟨v1, rfl, ho1, hB1⟩
  have hB01 := since_call hb1 hB1
  have hcell := ((rd_alloc hR0 (.cells #[.int .i64 s, .int .i64 a] 3)).below hB1).2 (by simp)
  obtain ⟨bb, oo, ee, hc⟩ := hcell
  cases ee
  have g2 : w1.cell? ⟨w.heap.size, 2, none⟩ = some (.slice A n c) := hc 2 _ rfl
  have hcv1 := HCV.out w1 hB01
  clear hc
  go_wp2_with fail
  refine (rbytes_any m hml _).mono ?_
  rintro e w2 ⟨v2, rfl, ho2, hB2⟩
  obtain ⟨A2, c2, rfl, hc2, hR2⟩ := Bt.own ho2 hi9
  have hB02 := since_call hB01 hB2
  have hown := own_kept ho1 hB2
  go_wp2_with (at_builtin; refine wp_app (w0 := w) rfl (.tmp 10) (.tmp 14) 28 rfl w.heap.size 5 (.int .u8 0) 1 1 Try.underlying28 inf5 rfl (by decide) _ (encInts [s, a]).length (bv (encInts [s, a])) rfl (own_rebase hown (by simp; omega)) A2 (encBytes m).length c2 (bv (encBytes m)) rfl (by rw [bv_length, Nat.mul_one]) hR2 (bv_one _) hsum (by omega) hB02.size hB02 ?_; intro v' w' ho' hB' _ _)
  go_ret
  exact ⟨_, rfl, by rw [encPkt, bv_append, List.length_append]; exact ho', hB'⟩
end Go.Proofs.Ytopppkafbbfobaa.W
