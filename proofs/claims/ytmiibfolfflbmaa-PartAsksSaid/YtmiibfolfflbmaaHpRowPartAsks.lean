/- The row PartAsks: the law is true of whatever input. No condition. -/
import Derived.Test.YtmiibfolfflbmaaHpPart
import Derived.Test.YtmiibfolfflbmaaRows
import Derived.WalkKit
import Derived.ProofKit
namespace Go.Proofs.Ytmiibfolfflbmaa
open Go.RowKit Go.V Go.Hp

set_option maxRecDepth 100000 in
theorem partAsks_holds : Rows.PartAsksSaid :=
  OpenClaim.holds_of_wide 4 Try.f4 rfl rfl rfl rfl rfl rfl rfl ⟨rfl, rfl, rfl, rfl, rfl⟩ rfl rfl rfl rfl rfl (by kernel_rfl) Try.func4 (by kernel_rfl)
    (of_decide_eq_true (by kernel_rfl)) (by unfold Func.isWrapper; first | (rw [if_pos (by decide +kernel)]; kernel_rfl) | (rw [if_neg (by decide +kernel)]; exact ⟨rfl, rfl⟩))
    (fun os started H enc _ => law_holds (C := Try.checked) (s := Rows.partAsksSpec) (show ownKnob Try.prog.godebug = none by kernel_rfl) started (by kernel_rfl) Try.func4
      (ChangeSpec.witness6 (enc := enc) (C := Try.checked) false ⟨#[], #[.int .i64 0, .slice none 0 0, .int .i64 0], []⟩ 8 (by kernel_rfl) (by kernel_rfl) (by kernel_rfl) (by kernel_rfl))
      rfl (tb := 4) (ps := sg4.ps) (sem := r4) s4 (by kernel_rfl) (fun d hd => partAsks (i64_of hd.1) hd.2.1.1 (fun b hb => have q := hd.2.1.2 b hb; ⟨i64_of q.1, i64_of q.2.1, i64_of q.2.2.1, i64_of q.2.2.2.1, i64_of q.2.2.2.2.1, i64_of q.2.2.2.2.2⟩) (i64_of hd.2.2)) (show laidOutB Try.prog = true by kernel_rfl) (by kernel_rfl) (by kernel_rfl) (by kernel_rfl)
      (fun ds h => by match ds, h with | [d1, d2, d3], _ => exact ⟨rfl, rfl, rfl⟩))
end Go.Proofs.Ytmiibfolfflbmaa
