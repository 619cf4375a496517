/- The row ForgetReads: the law is true of whatever input. No condition. -/
import Derived.Test.YtiheccjebnamcaaHsEnds
import Derived.Test.YtiheccjebnamcaaRows
import Derived.WalkKit
import Derived.ProofKit
namespace Go.Proofs.Ytiheccjebnamcaa
open Go.RowKit Go.V Go.Hs

set_option maxRecDepth 100000 in
theorem forgetReads_holds : Rows.ForgetReadsSaid :=
  OpenClaim.holds_of_wide 10 Try.f10 rfl rfl rfl rfl rfl rfl rfl ⟨rfl, rfl, rfl, rfl, rfl⟩ rfl rfl rfl rfl rfl (by kernel_rfl) Try.func10 (by kernel_rfl)
    (of_decide_eq_true (by kernel_rfl)) (by unfold Func.isWrapper; first | (rw [if_pos (by decide +kernel)]; kernel_rfl) | (rw [if_neg (by decide +kernel)]; exact ⟨rfl, rfl⟩))
    (fun os started H enc _ => law_holds (C := Try.checked) (s := Rows.forgetReadsSpec) (show ownKnob Try.prog.godebug = none by kernel_rfl) started (by kernel_rfl) Try.func10
      (ChangeSpec.witness6 (enc := enc) (C := Try.checked) false ⟨#[], #[.slice none 0 0], []⟩ 8 (by kernel_rfl) (by kernel_rfl) (by kernel_rfl) (by kernel_rfl))
      rfl (tb := 4) (ps := sg10.ps) (sem := r10) s10 (by kernel_rfl) (fun d hd => forgetReads hd.1 (fun b hb => have q := hd.2 b hb; ⟨i64_of q.1, i64_of q.2.1, i64_of q.2.2.1, i64_of q.2.2.2.1, i64_of q.2.2.2.2.1, i64_of q.2.2.2.2.2⟩)) (show laidOutB Try.prog = true by kernel_rfl) (by kernel_rfl) (by kernel_rfl) (by kernel_rfl)
      (fun ds h => by match ds, h with | [d1], _ => exact ⟨rfl, rfl, rfl⟩))
end Go.Proofs.Ytiheccjebnamcaa
