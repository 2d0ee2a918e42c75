/- A number of 64 bits that came in. -/
import Derived.Test.YtopppkafbbfobaaOp2
namespace Go.Proofs.Ytopppkafbbfobaa.W
theorem wf_u64 {n : Int} (h : (Lit.int .u64 n).wf = true) : 0 ≤ n ∧ n ≤ 18446744073709551615 := by
  have h1 : IntKind.u64.min = 0 := rfl
  have h2 : IntKind.u64.max = 18446744073709551615 := rfl
  simp only [Lit.wf, Bool.and_eq_true, decide_eq_true_eq] at h
  omega
end Go.Proofs.Ytopppkafbbfobaa.W
