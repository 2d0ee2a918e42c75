/- For every integer, text, list of integers, list of texts and list of digests within the limits of the statement: each of their five encodings, cut short at any of its first 500 places, is decoded with the error that more is wanted; larger ones: only the examples are asked. No condition. -/
import Derived.Test.YtopppkafbbfobaaRows
import Derived.Test.YtopppkafbbfobaaOp2
import Derived.Test.YtopppkafbbfobaaL11
import Derived.WalkKit
import Derived.ProofKit
import Derived.OpenShut
import Derived.ShutString
import Derived.ChangeOld
import Derived.Below
import Derived.SizedLaws
namespace Go.Proofs.Ytopppkafbbfobaa
open W
open Go.ChangeShapes Go.WideShapes Go.ChangeAt Go.RowKit
open Go.ChangeMaps (open_string shut_string)
set_option linter.unusedVariables false

set_option maxRecDepth 100000 in
theorem wireTruncated_lifted (os : Os) (started : os.Started) (H : Type) (enc : TypeId × Value → H) :
    ReturnsInHanded {} Try.checked os 11 .any (Rows.wireTruncatedSpec.pre6 enc Try.prog Try.f11 Rows.wireTruncatedRow.domain false) (Rows.wireTruncatedSpec.post enc Try.prog Try.f11 false true false false) := by
  refine returnsInHanded_of_change_sized (C := Try.checked) own_ started (by kernel_rfl) Try.func11
    (ChangeSpec.witness6 (enc := enc) (C := Try.checked) false ⟨#[], #[.int .i64 0, .string ByteArray.empty, .slice none 0 0, .slice none 0 0, .slice none 0 0], []⟩ 8 (by kernel_rfl) (by kernel_rfl) (by kernel_rfl) (by kernel_rfl)) ?_
  intro W base args ds gs before hval0 hW hcnd hsz0 _
  have hsz : (DataW.weightsEach Try.prog (Try.f11.params.toList ++ Rows.wireTruncatedSpec.plain.varTypes Try.prog) (ds ++ gs)).all (· ≤ reachBytes) = true := hsz0
  have hval : ∀ (j : Nat) t v, Try.f11.params[j]? = some t → args[j]? = some v → Value.okWide Try.prog W .any base t v := hval0
  have hW' := hW
  obtain ⟨p, q, hA0, hV, rfl, hfz, hnd⟩ := hW
  have hA : DataW.TrodAll enc Try.prog W 0 (fun _ => true) true Try.f11.params.toList args.toList ds p := hA0
  rw [Try.params11] at hA hval hsz
  obtain ⟨v0, vs0, d0, ds0, p0, q0, hargs, rfl, rfl, h0, r0⟩ := trodAll_cons hA
  obtain ⟨v1, vs1, d1, ds1, p1, q1, rfl, rfl, rfl, h1, r1⟩ := trodAll_cons r0
  obtain ⟨v2, vs2, d2, ds2, p2, q2, rfl, rfl, rfl, h2, r2⟩ := trodAll_cons r1
  obtain ⟨v3, vs3, d3, ds3, p3, q3, rfl, rfl, rfl, h3, r3⟩ := trodAll_cons r2
  obtain ⟨v4, vs4, d4, ds4, p4, q4, rfl, rfl, rfl, h4, r4⟩ := trodAll_cons r3
  obtain ⟨rfl, rfl, rfl⟩ := trodAll_nil r4
  obtain rfl : args = #[v0, v1, v2, v3, v4] := by cases args; simp_all
  obtain ⟨rfl, rfl⟩ := trodVars_none hV
  obtain ⟨a0, rfl, rfl, rfl, w0⟩ := open_int Try.underlying3 (hval 0 3 v0 rfl rfl) h0
  obtain ⟨b1, rfl, rfl, rfl, w1⟩ := open_string Try.underlying9 (hval 1 9 v1 rfl rfl) h1
  obtain ⟨l1, rfl⟩ : ∃ l : List UInt8, b1 = ⟨l.toArray⟩ := ⟨b1.data.toList, by cases b1; simp⟩
  have s1 : l1.length ≤ 140737488351232 := by have := sized_string hsz (j := 1) (t := 9) rfl rfl; rw [reach_eq] at this; simpa using this
  obtain ⟨a2, n2, c2, rfl⟩ := okWide_slice Try.underlying22 (hval 2 22 v2 rfl rfl)
  have k2 := h2
  have lt2 : ∀ x ∈ p2, x.block < W.heap.size := by obtain ⟨m, hm⟩ := k2; exact DataW.trod_lt m _ _ _ hm
  obtain ⟨el2, D2⟩ := dat_slice Try.underlying22 h2
  have s2 : n2 * Try.prog.bytesOf 3 ≤ reachBytes := sized_dat hsz (j := 2) rfl rfl Try.underlying22 D2
  rw [by3, reach_eq] at s2
  obtain ⟨l2, _, e2, f2, R2, I2, _⟩ := op_ints h2
  obtain ⟨a3, n3, c3, rfl⟩ := okWide_slice Try.underlying23 (hval 3 23 v3 rfl rfl)
  have k3 := h3
  have lt3 : ∀ x ∈ p3, x.block < W.heap.size := by obtain ⟨m, hm⟩ := k3; exact DataW.trod_lt m _ _ _ hm
  obtain ⟨el3, D3⟩ := dat_slice Try.underlying23 h3
  have s3 : n3 * Try.prog.bytesOf 9 ≤ reachBytes := sized_dat hsz (j := 3) rfl rfl Try.underlying23 D3
  rw [by9, reach_eq] at s3
  obtain ⟨l3, e3, f3, R3, T3⟩ := op_strs h3
  have z3 := sized_strs hsz (j := 3) rfl rfl T3
  rw [reach_eq] at z3
  obtain ⟨a4, n4, c4, rfl⟩ := okWide_slice Try.underlying24 (hval 4 24 v4 rfl rfl)
  have k4 := h4
  have lt4 : ∀ x ∈ p4, x.block < W.heap.size := by obtain ⟨m, hm⟩ := k4; exact DataW.trod_lt m _ _ _ hm
  obtain ⟨el4, D4⟩ := dat_slice Try.underlying24 h4
  have s4 : n4 * Try.prog.bytesOf 90 ≤ reachBytes := sized_dat hsz (j := 4) rfl rfl Try.underlying24 D4
  rw [by90, reach_eq] at s4
  obtain ⟨l4, e4, f4, G4, R4⟩ := op_digs h4 (by omega)
  have core : Calls Try.prog 11 #[.int .i64 a0, str l1, .slice a2 n2 c2, .slice a3 n3 c3, .slice a4 n4 c4] W (Yes W) := by
    by_cases h : l1.length + 9 * n2 + 16 * n4 ≤ 400
    · by_cases h2 : n3 ≤ 40
      · have htot : tot l3 ≤ 5629499534049320 := by
          have h3 := sum_most z3
          have h4 : l3.length * 140737488351232 ≤ 40 * 140737488351232 := Nat.mul_le_mul_right _ (by omega)
          unfold tot
          omega
        by_cases hm : tot l3 ≤ 2000
        · exact trunc_short a0 (wf_i64 w0) l1 a2 a3 a4 n2 c2 n3 c3 n4 c4 l2 l3 l4 W h e2 R2 I2 e3 R3 h2 hm e4 R4 G4
        · exact trunc_many a0 l1 a2 a3 a4 n2 c2 n3 c3 n4 c4 l3 W h h2 e3 R3 (by omega) (by omega)
      · exact trunc_wide a0 l1 a2 a3 a4 n2 c2 n3 c3 n4 c4 W h (by omega) (by omega)
    · exact trunc_long a0 l1 a2 a3 a4 n2 c2 n3 c3 n4 c4 W (by omega) (by omega) (by omega) (by omega)
  refine core.mono fun e W' ⟨he, bel⟩ => ?_
  subst he
  exact ⟨_, rfl, _, _, _, [], _, [], hW', trodAll_mk1 (shut_bool Try.underlying4 _), (trodAll_cons_mk (shut_int Try.underlying3 w0) (trodAll_cons_mk (shut_string Try.underlying9 w1) (trodAll_cons_mk (Below.trod laidOut_ (by kernel_rfl) (of_decide_eq_true (by kernel_rfl)) k2 bel lt2) (trodAll_cons_mk (Below.trod laidOut_ (by kernel_rfl) (of_decide_eq_true (by kernel_rfl)) k3 bel lt3) (trodAll_cons_mk (Below.trod laidOut_ (by kernel_rfl) (of_decide_eq_true (by kernel_rfl)) k4 bel lt4) trodAll_mk0))))), rfl, bel.frame _, fun h => by cases h⟩

/-- The statement. -/
theorem wireTruncated_holds : Rows.WireTruncatedSaid :=
  OpenClaim.holds_of_wide 11 Try.f11 rfl rfl rfl rfl rfl rfl rfl ⟨rfl, rfl, rfl, rfl, rfl⟩ rfl rfl rfl rfl rfl (by kernel_rfl) Try.func11 (by kernel_rfl)
    (of_decide_eq_true (by kernel_rfl)) (by unfold Func.isWrapper; first | (rw [if_pos (by decide +kernel)]; kernel_rfl) | (rw [if_neg (by decide +kernel)]; exact ⟨rfl, rfl⟩))
    (fun os started H enc _ => wireTruncated_lifted os started H enc)
#print axioms wireTruncated_holds
end Go.Proofs.Ytopppkafbbfobaa
