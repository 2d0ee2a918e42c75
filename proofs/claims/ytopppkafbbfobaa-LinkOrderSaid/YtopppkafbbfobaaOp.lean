/- The statements' arguments, opened: what was read is a list. -/
import Derived.Test.YtopppkafbbfobaaRows
import Derived.Test.YtopppkafbbfobaaC24
import Derived.ProofKit
import Derived.OpenShut
import Derived.ShutString
import Derived.ChangeOld
namespace Go.Proofs.Ytopppkafbbfobaa.W
open Go.ChangeShapes Go.WideShapes Go.ChangeAt Go.RowKit
open Go.ChangeMaps (open_string shut_string)

theorem own_ : ownKnob Try.prog.godebug = none := by kernel_rfl
theorem laidOut_ : laidOutB Try.prog = true := by kernel_rfl
/-- What is told of a slice of integers that came in. -/
def IsRow (k : IntKind) (w : World) (a : Option Addr) (len cap : Nat) (zs : List Int) : Prop :=
  (a = none ∧ len = 0 ∧ cap = 0 ∧ zs = []) ∨
  ∃ x, a = some x ∧ len ≤ cap ∧ cap ≤ maxLen ∧ zs.length = cap ∧ (∀ i, i < zs.length → w.cell? (x.add i) = some (.int k (zs.getD i 0))) ∧ ∀ n ∈ zs, (Lit.int k n).wf = true
theorem wf_u8 {n : Int} (h : (Lit.int .u8 n).wf = true) : 0 ≤ n ∧ n ≤ 255 := by
  have h1 : IntKind.u8.min = 0 := rfl
  have h2 : IntKind.u8.max = 255 := rfl
  simp only [Lit.wf, Bool.and_eq_true, decide_eq_true_eq] at h
  omega
theorem wf_i64 {n : Int} (h : (Lit.int .i64 n).wf = true) : I64 n := by
  have h1 : IntKind.i64.min = -9223372036854775808 := rfl
  have h2 : IntKind.i64.max = 9223372036854775807 := rfl
  simp only [Lit.wf, Bool.and_eq_true, decide_eq_true_eq] at h
  exact ⟨by omega, by omega⟩
theorem row_cells {k : IntKind} {w : World} {a : Option Addr} {len cap : Nat} {zs : List Int} (h : IsRow k w a len cap zs) : len ≤ cap ∧ (zs.take len).length = len ∧ Rd w a ((zs.take len).map fun n => .int k n) := by
  rcases h with ⟨rfl, rfl, rfl, rfl⟩ | ⟨x, rfl, hlc, hcm, hz, hc, _⟩
  · exact ⟨Nat.le_refl _, rfl, Rd.nil _ _⟩
  · have hl : (zs.take len).length = len := by rw [List.length_take]; omega
    refine ⟨hlc, hl, ⟨by rw [List.length_map, hl]; unfold maxLen at hcm; omega, fun h0 => ?_⟩⟩
    rw [List.length_map, hl] at h0
    obtain ⟨b, off, spot⟩ := x
    have hs : spot = none := by simpa [Addr.add] using World.cell?_spot (hc 0 (by omega))
    subst hs
    refine ⟨b, off, rfl, fun j u hu => ?_⟩
    have hj : j < len := by
      have := (List.getElem?_eq_some_iff.1 hu).1
      rwa [List.length_map, hl] at this
    have h1 := hc j (by omega)
    rw [show (⟨b, off, none⟩ : Addr).add j = ⟨b, off + j, none⟩ from by unfold Addr.add; split <;> simp_all] at h1
    rw [h1, ← hu]
    have hjz : j < zs.length := by omega
    rw [List.getElem?_map, List.getElem?_take, if_pos hj, List.getElem?_eq_getElem hjz]
    simp [List.getD_eq_getElem?_getD, List.getElem?_eq_getElem hjz]
theorem row_bytes {w : World} {a : Option Addr} {len cap : Nat} {zs : List Int} (h : IsRow .u8 w a len cap zs) : ∃ l : List UInt8, len = l.length ∧ len ≤ cap ∧ Rd w a (bv l) := by
  obtain ⟨h1, h2, h3⟩ := row_cells h
  refine ⟨(zs.take len).map fun n => UInt8.ofNat n.toNat, by rw [List.length_map, h2], h1, ?_⟩
  have hw : ∀ n ∈ zs.take len, (Lit.int .u8 n).wf = true := by
    rcases h with ⟨_, _, _, rfl⟩ | ⟨x, _, _, _, _, _, hw⟩
    · intro n hn; simp at hn
    · exact fun n hn => hw n (List.mem_of_mem_take hn)
  have e : bv ((zs.take len).map fun n => UInt8.ofNat n.toNat) = (zs.take len).map fun n => .int .u8 n := by
    rw [bv, List.map_map]
    apply List.map_congr_left
    intro n hn
    have := wf_u8 (hw n hn)
    have h4 : (((UInt8.ofNat n.toNat).toNat : Nat) : Int) = n := by rw [ofNat_toNat]; omega
    simp only [Function.comp_apply, h4]
  rw [e]
  exact h3
theorem row_ints {w : World} {a : Option Addr} {len cap : Nat} {zs : List Int} (h : IsRow .i64 w a len cap zs) : ∃ l : List Int, len = l.length ∧ len ≤ cap ∧ Rd w a (iv l) ∧ ∀ x ∈ l, I64 x := by
  obtain ⟨h1, h2, h3⟩ := row_cells h
  refine ⟨zs.take len, h2.symm, h1, h3, fun n hn => ?_⟩
  rcases h with ⟨_, _, _, rfl⟩ | ⟨x, _, _, _, _, _, hw⟩
  · simp at hn
  · exact wf_i64 (hw n (List.mem_of_mem_take hn))
end Go.Proofs.Ytopppkafbbfobaa.W
