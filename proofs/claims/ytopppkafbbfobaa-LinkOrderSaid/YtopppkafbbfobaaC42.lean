/- The reference's comparison of two lists of digests. -/
import Derived.Test.YtopppkafbbfobaaC19
import Derived.Stop.BytesEq
namespace Go.Proofs.Ytopppkafbbfobaa.W
open Go.RowKit

theorem run_loadVar_drewN (w : World) (q b off : Nat) (ty : TypeId) (cs : List Value) (d : TypeDesc) (hc : ∀ j u, cs[j]? = some u → w.cell? ⟨b, off + j, none⟩ = some u)
    (hu : Try.prog.underlying ty = some d) (hd : aggD d = true) (hi : (Try.prog.info? ty).map (·.size) = some cs.length) :
    (loadVar ty ⟨b, off, none⟩).run Try.prog (w.drewN q) = .ok (.agg cs.toArray) (w.drewN q) := run_loadVar_agg (w.drewN q) b off ty cs d hc hu hd hi
theorem quiet_load_agg {ops : Array Oper} {Q : Act → Prop} {a : Act} {o : Oper} {rest : List Oper} {w : World} (hgd : Region.wanted o (yielded ops a.tmps) = true) (ty : TypeId) (x : Operand) (ho : o.op = .load ty x)
    (b off : Nat) (hx : a.eval x = .pointer (some ⟨b, off, none⟩)) (cs : List Value) (d : TypeDesc) (hc : ∀ j u, cs[j]? = some u → w.cell? ⟨b, off + j, none⟩ = some u)
    (hu : Try.prog.underlying ty = some d) (hd : aggD d = true) (hi : (Try.prog.info? ty).map (·.size) = some cs.length)
    (h : wpQuiet Try.prog ops (fun w' => ∃ n, w' = w.drewN n) Q rest (a.put o.dst (.agg cs.toArray))) : wpQuiet Try.prog ops (fun w' => ∃ n, w' = w.drewN n) Q (o :: rest) a := by
  refine wpQuiet_step fun K hK => ?_
  rw [if_pos hgd]
  refine ⟨.agg cs.toArray, ?_, hK _ h⟩
  rintro W ⟨q, rfl⟩
  unfold Oper.quietAt execOp
  simp only [ho, hx, Instr.loadAt, Instr.sureAddr, Sem.run_bind, Sem.run_pure, Result.andThen_ok, run_loadVar_drewN w q b off ty cs d hc hu hd hi]
  exact ⟨rfl, rfl⟩
theorem eqg90 : Try.prog.eqGuardType Try.prog.depth 90 = false := by kernel_rfl
theorem neq90 (xs ys : List UInt8) (hx : xs.length = 16) (hy : ys.length = 16) (W : World) : (binOp .neq 90 (.agg (bv xs).toArray) (.agg (bv ys).toArray)).run Try.prog W = .ok (.bool (!(xs == ys))) W := by
  rw [run_neq_struct]
  have := run_equalIn_bytes (P := Try.prog) W 9998 90 5 16 Try.underlying90 Try.underlying5 (fun w => run_sizeOf cel5 ino5 w) xs ys hx hy
  rw [show (bv xs) = xs.map Extern.Stop.cell from rfl, show (bv ys) = ys.map Extern.Stop.cell from rfl, this]
  rfl

set_option maxRecDepth 100000 in
set_option maxHeartbeats 400000 in
theorem sameDigs_len (A B : Option Addr) (n m c d : Nat) (w : World) (h : ((n : Int) != (m : Int)) = true) :
    Calls Try.prog 42 #[.slice A n c, .slice B m d] w (Quiet false w) := by
  go_enter Try.func42, Try.ntmps42
  go_wp2
  go_ret
  exact ⟨rfl, 0, rfl⟩

set_option maxRecDepth 100000 in
set_option maxHeartbeats 400000 in
theorem sameDigs_eq (b1 o1 b2 o2 n c d : Nat) (xs ys : List (List UInt8)) (w : World) (hx : Hid (xs.length = n)) (hy : Hid (ys.length = n)) (hm : n ≤ 576460752303423488) (hx16 : D16 xs) (hy16 : D16 ys)
    (h1 : Hid (∀ k, k < n → ∀ j u, (bv (xs.getD k []))[j]? = some u → w.cell? ⟨b1, o1 + k * 16 + j, none⟩ = some u)) (h2 : Hid (∀ k, k < n → ∀ j u, (bv (ys.getD k []))[j]? = some u → w.cell? ⟨b2, o2 + k * 16 + j, none⟩ = some u)) :
    Calls Try.prog 42 #[.slice (some ⟨b1, o1, none⟩) n c, .slice (some ⟨b2, o2, none⟩) n d] w (Quiet (decide (xs = ys)) w) := by
  go_enter Try.func42, Try.ntmps42
  go_wp2
  go_loopw [5] (fun i wr => ∃ (k : Nat), k ≤ n ∧ i = .int .i64 (k : Int) ∧ Hid (xs.take k = ys.take k) ∧ Hid (∃ q, wr = w.drewN q)) (fun i _ => n - (intOf i).toNat)
  case atStart => exact ⟨0, Nat.zero_le _, rfl, rfl, 0, rfl⟩
  case round =>
    obtain ⟨k, hk, rfl, hT, hq⟩ := hrel
    by_cases hkn : k < n
    · obtain ⟨q, rfl⟩ := hq.out
      have c1 := hide (h1.out k hkn)
      have c2 := hide (h2.out k hkn)
      have l1 : (xs.getD k []).length = 16 := hx16 _ (by rw [List.getD_eq_getElem?_getD, List.getElem?_eq_getElem (by rw [hx.out]; exact hkn)]; exact List.getElem_mem _)
      have l2 : (ys.getD k []).length = 16 := hy16 _ (by rw [List.getD_eq_getElem?_getD, List.getElem?_eq_getElem (by rw [hy.out]; exact hkn)]; exact List.getElem_mem _)
      have hnq := neq90 _ _ l1 l2
      have L1 := hide l1
      have L2 := hide l2
      have HT1 := hide (take_succ_get xs k [] (by rw [hx.out]; exact hkn))
      have HT2 := hide (take_succ_get ys k [] (by rw [hy.out]; exact hkn))
      have HF := hide (show xs.getD k [] ≠ ys.getD k [] → decide (xs = ys) = false from fun h => by
          rw [decide_eq_false_iff_not]
          intro h'
          rw [h'] at h
          exact h rfl)
      clear l1 l2
      generalize xs.getD k [] = x at *
      generalize ys.getD k [] = y at *
      have hg := eqg90
      by_cases he : x = y
      · have hb : (!(x == y)) = false := by simp [he]
        rw [hb] at hnq
        clear hb
        have HE := hide he
        clear he
        go_wp2
        refine wp_region_quiet_lit (by kernel_rfl) (by kernel_rfl) ?_
        quiet_step (fail)
        quiet_step (fail)
        quiet_step (fail)
        refine quiet_load_agg rfl 90 (.tmp 19) rfl b1 (o1 + k * 16) rfl (bv x) _ c1.out Try.underlying90 rfl (by rw [bv_length, L1.out]; exact inf90) ?_
        repeat (quiet_step (fail))
        refine quiet_load_agg rfl 90 (.tmp 23) rfl b2 (o2 + k * 16) rfl (bv y) _ c2.out Try.underlying90 rfl (by rw [bv_length, L2.out]; exact inf90) ?_
        repeat (quiet_step (fail))
        refine wpQuiet_nil ?_
        rintro W ⟨nq, rfl⟩
        rw [World.drewN_drewN]
        go_wp2
        go_roundw
        case rel => exact ⟨k + 1, by omega, by go_num, by show _ = _; rw [HT1.out, HT2.out, hT.out, HE.out], _, rfl⟩
        case measure => simp [intOf]; omega
      · have hb : (!(x == y)) = true := by simp [he]
        rw [hb] at hnq
        have HF2 := hide (HF.out he)
        clear hb he
        go_wp2
        refine wp_region_quiet_lit (by kernel_rfl) (by kernel_rfl) ?_
        repeat (quiet_step (fail))
        refine quiet_load_agg rfl 90 (.tmp 19) rfl b1 (o1 + k * 16) rfl (bv x) _ c1.out Try.underlying90 rfl (by rw [bv_length, L1.out]; exact inf90) ?_
        repeat (quiet_step (fail))
        refine quiet_load_agg rfl 90 (.tmp 23) rfl b2 (o2 + k * 16) rfl (bv y) _ c2.out Try.underlying90 rfl (by rw [bv_length, L2.out]; exact inf90) ?_
        repeat (quiet_step (fail))
        refine wpQuiet_nil ?_
        rintro W ⟨nq, rfl⟩
        rw [World.drewN_drewN]
        go_wp2
        go_ret
        exact ⟨by rw [HF2.out]; rfl, _, rfl⟩
    · obtain rfl : k = n := by omega
      obtain ⟨q, rfl⟩ := hq.out
      go_wp2
      go_ret
      refine ⟨?_, _, rfl⟩
      have hT2 := hT.out
      rw [List.take_of_length_le (by rw [hx.out]; exact Nat.le_refl _), List.take_of_length_le (by rw [hy.out]; exact Nat.le_refl _)] at hT2
      rw [hT2]
      simp

set_option maxRecDepth 100000 in
set_option maxHeartbeats 400000 in
theorem sameDigs_nil (A B : Option Addr) (c d : Nat) (w : World) : Calls Try.prog 42 #[.slice A 0 c, .slice B 0 d] w (Quiet true w) := by
  go_enter Try.func42, Try.ntmps42
  go_wp2
  go_loopw [5] (fun i wr => i = .int .i64 0 ∧ wr = w) (fun _ _ => 0)
  case atStart => exact ⟨rfl, rfl⟩
  case round =>
    obtain ⟨rfl, rfl⟩ := hrel
    go_wp2
    go_ret
    exact ⟨rfl, 0, rfl⟩

/-- ref.SameDigests. -/
theorem sameDigs_any (A B : Option Addr) (xs ys : List (List UInt8)) (n m c d : Nat) (w : World) (hn : n = xs.length) (hm : m = ys.length) (hA : Rd w A (dv xs)) (hB : Rd w B (dv ys)) (hx : D16 xs) (hy : D16 ys) :
    Calls Try.prog 42 #[.slice A n c, .slice B m d] w (Quiet (decide (xs = ys)) w) := by
  subst hn
  subst hm
  by_cases h : xs.length = ys.length
  · rcases Nat.eq_zero_or_pos xs.length with h0 | h0
    · have e1 : xs = [] := List.eq_nil_of_length_eq_zero h0
      have e2 : ys = [] := List.eq_nil_of_length_eq_zero (by omega)
      subst e1
      subst e2
      exact sameDigs_nil A B c d w
    · have hl := hA.len
      rw [dv_length xs hx] at hl
      obtain ⟨b1, o1, rfl, h1⟩ := hA.2 (by rw [dv_length xs hx]; omega)
      obtain ⟨b2, o2, rfl, h2⟩ := hB.2 (by rw [dv_length ys hy]; omega)
      rw [← h]
      refine sameDigs_eq b1 o1 b2 o2 xs.length c d xs ys w rfl h.symm ?_ hx hy (hide fun k hk j u hu => ?_) (hide fun k hk j u hu => ?_)
      · omega
      · rw [Nat.add_assoc]; exact h1 _ u (dv_at xs hx k hk j u hu)
      · rw [Nat.add_assoc]; exact h2 _ u (dv_at ys hy k (by omega) j u hu)
  · rw [decide_eq_false (fun e => h (by rw [e]))]
    exact sameDigs_len A B _ _ c d w (by rw [bne_iff_ne]; omega)
end Go.Proofs.Ytopppkafbbfobaa.W
