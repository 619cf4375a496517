/- The row EndOthers: the law is true of whatever input. No condition. -/
import Derived.Test.YtiheccjebnamcaaHsEnds
import Derived.Test.YtiheccjebnamcaaRows
import Derived.WalkKit
import Derived.ProofKit
namespace Go.Proofs.Ytiheccjebnamcaa
open Go.RowKit Go.V Go.Hs

set_option maxRecDepth 100000 in
theorem endOthers_holds : Rows.EndOthersSaid :=
  OpenClaim.holds_of_wide 6 Try.f6 rfl rfl rfl rfl rfl rfl rfl ⟨rfl, rfl, rfl, rfl, rfl⟩ rfl rfl rfl rfl rfl (by kernel_rfl) Try.func6 (by kernel_rfl)
    (of_decide_eq_true (by kernel_rfl)) (by unfold Func.isWrapper; first | (rw [if_pos (by decide +kernel)]; kernel_rfl) | (rw [if_neg (by decide +kernel)]; exact ⟨rfl, rfl⟩))
    (fun os started H enc _ => law_holds (C := Try.checked) (s := Rows.endOthersSpec) (show ownKnob Try.prog.godebug = none by kernel_rfl) started (by kernel_rfl) Try.func6
      (ChangeSpec.witness6 (enc := enc) (C := Try.checked) false ⟨#[], #[.slice none 0 0, .int .i64 0, .int .i64 0, .bool false], []⟩ 8 (by kernel_rfl) (by kernel_rfl) (by kernel_rfl) (by kernel_rfl))
      rfl (tb := 4) (ps := sg6.ps) (sem := r6) s6 (by kernel_rfl) (fun d hd => endOthers hd.1.1 (fun b hb => have q := hd.1.2 b hb; ⟨i64_of q.1, i64_of q.2.1, i64_of q.2.2.1, i64_of q.2.2.2.1, i64_of q.2.2.2.2.1, i64_of q.2.2.2.2.2⟩) (i64_of hd.2.1) (i64_of hd.2.2.1) d.2.2.2) (show laidOutB Try.prog = true by kernel_rfl) (by kernel_rfl) (by kernel_rfl) (by kernel_rfl)
      (fun ds h => by match ds, h with | [d1, d2, d3, d4], _ => exact ⟨rfl, rfl, rfl⟩))
end Go.Proofs.Ytiheccjebnamcaa
