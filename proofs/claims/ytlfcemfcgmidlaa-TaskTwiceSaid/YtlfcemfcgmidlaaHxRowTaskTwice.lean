/- The row TaskTwice: the law is true of whatever input. No condition. -/
import Derived.Test.YtlfcemfcgmidlaaHxTwo
import Derived.Test.YtlfcemfcgmidlaaRows
import Derived.WalkKit
import Derived.ProofKit
namespace Go.Proofs.Ytlfcemfcgmidlaa
open Go.RowKit Go.V Go.Hx
set_option maxRecDepth 100000 in
theorem taskTwice_holds : Rows.TaskTwiceSaid :=
  OpenClaim.holds_of_wide 4 Try.f4 rfl rfl rfl rfl rfl rfl rfl ⟨rfl, rfl, rfl, rfl, rfl⟩ rfl rfl rfl rfl rfl (by kernel_rfl) Try.func4 (by kernel_rfl)
    (of_decide_eq_true (by kernel_rfl)) (by unfold Func.isWrapper; first | (rw [if_pos (by decide +kernel)]; kernel_rfl) | (rw [if_neg (by decide +kernel)]; exact ⟨rfl, rfl⟩))
    (fun os started H enc _ => law_holds (C := Try.checked) (s := Rows.taskTwiceSpec) (show ownKnob Try.prog.godebug = none by kernel_rfl) started (by kernel_rfl) Try.func4
      (ChangeSpec.witness6 (enc := enc) (C := Try.checked) false ⟨#[], #[.int .i64 0, .int .i64 0, .bool false], []⟩ 8 (by kernel_rfl) (by kernel_rfl) (by kernel_rfl) (by kernel_rfl))
      rfl (tb := 4) (ps := sg4.ps) (sem := r4) s4 (by kernel_rfl) (fun d hd => taskTwice (i64_of hd.1) (i64_of hd.2.1)) (show laidOutB Try.prog = true by kernel_rfl) (by kernel_rfl) (by kernel_rfl) (by kernel_rfl)
      (fun ds h => by match ds, h with | [d1, d2, d3], _ => exact ⟨rfl, rfl, rfl⟩))
end Go.Proofs.Ytlfcemfcgmidlaa
