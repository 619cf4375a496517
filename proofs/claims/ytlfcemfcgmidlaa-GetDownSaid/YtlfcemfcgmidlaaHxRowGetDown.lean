/- The row GetDown: the law is true of whatever input. No condition. -/
import Derived.Test.YtlfcemfcgmidlaaHxTwo
import Derived.Test.YtlfcemfcgmidlaaRows
import Derived.WalkKit
import Derived.ProofKit
namespace Go.Proofs.Ytlfcemfcgmidlaa
open Go.RowKit Go.V Go.Hx
set_option maxRecDepth 100000 in
theorem getDown_holds : Rows.GetDownSaid :=
  OpenClaim.holds_of_wide 3 Try.f3 rfl rfl rfl rfl rfl rfl rfl ⟨rfl, rfl, rfl, rfl, rfl⟩ rfl rfl rfl rfl rfl (by kernel_rfl) Try.func3 (by kernel_rfl)
    (of_decide_eq_true (by kernel_rfl)) (by unfold Func.isWrapper; first | (rw [if_pos (by decide +kernel)]; kernel_rfl) | (rw [if_neg (by decide +kernel)]; exact ⟨rfl, rfl⟩))
    (fun os started H enc _ => law_holds (C := Try.checked) (s := Rows.getDownSpec) (show ownKnob Try.prog.godebug = none by kernel_rfl) started (by kernel_rfl) Try.func3
      (ChangeSpec.witness6 (enc := enc) (C := Try.checked) false ⟨#[], #[.int .i64 0, .int .i64 0, .int .i64 0], []⟩ 8 (by kernel_rfl) (by kernel_rfl) (by kernel_rfl) (by kernel_rfl))
      rfl (tb := 4) (ps := sg3.ps) (sem := r3) s3 (by kernel_rfl) (fun d hd => getDown (i64_of hd.1) (i64_of hd.2.1) (i64_of hd.2.2)) (show laidOutB Try.prog = true by kernel_rfl) (by kernel_rfl) (by kernel_rfl) (by kernel_rfl)
      (fun ds h => by match ds, h with | [d1, d2, d3], _ => exact ⟨rfl, rfl, rfl⟩))
end Go.Proofs.Ytlfcemfcgmidlaa
