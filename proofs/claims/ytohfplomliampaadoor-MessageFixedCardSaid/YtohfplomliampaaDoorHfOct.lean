/- A byte that is told of. -/
import Derived.Test.YtohfplomliampaaDoorHfFixLaw
namespace Go.Hf
open Go.RowKit Go.Proofs Go.V

theorem u8_of {n : Int} (h : (Lit.int .u8 n).wf = true) : 0 ≤ n ∧ n < 256 := by
  simp [Lit.wf, IntKind.min, IntKind.max, IntKind.signed, IntKind.bits] at h
  omega

end Go.Hf
