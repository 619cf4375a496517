/- The row ShowHidden, and its tied card: the law is true of whatever input; the table holds what the program's text lays. No other condition. -/
import Derived.Test.YtlfcemfcgmidlaaDoorHyShow
import Derived.Test.YtlfcemfcgmidlaaDoorLibK
import Derived.Test.YtlfcemfcgmidlaaDoorRows
import Derived.Test.YtlfcemfcgmidlaaDoorCards
import Derived.Test.YtlfcemfcgmidlaaDoorTie
import Derived.SevenTiedAt
import Derived.Lay
namespace Go.Proofs.YtlfcemfcgmidlaaDoor
open Go.RowKit Go.V Go.Hy
theorem tables_showHidden {W : World} (h : laidMetH Tryd.prog [("math/bits.deBruijn32tab", Rows.laid_math_bits_deBruijn32tab), ("math/bits.deBruijn64tab", Rows.laid_math_bits_deBruijn64tab), ("internal/strconv.uint64pow10", Rows.laid_internal_strconv_uint64pow10)] W) : ∀ g t, Go.V.look cx.G g = some t → RepR W (tabS W cx.G) t (.pointer (some ⟨g, 0, none⟩)) := by
  have hp : (([("math/bits.deBruijn32tab", Rows.laid_math_bits_deBruijn32tab), ("math/bits.deBruijn64tab", Rows.laid_math_bits_deBruijn64tab), ("internal/strconv.uint64pow10", Rows.laid_internal_strconv_uint64pow10)] : List (String × DataW Unit)).all fun x => x.2.handleName?.isNone) = true := by kernel_rfl
  have r1 : ReadsAs Tryd.prog W "internal/strconv.uint64pow10" 1 235 Rows.laid_internal_strconv_uint64pow10 := reads_of hp h (by kernel_rfl) (by kernel_rfl) (.tail _ (.tail _ (.head _)))
  intro g t hgt
  change Go.V.look ((1, _) :: []) g = some t at hgt
  rw [look_cons] at hgt
  split at hgt
  · rename_i e
    subst e
    simp only [Option.some.injEq] at hgt
    subst hgt
    exact table_of (n := 20) (e := 222) r1 (by kernel_rfl) (by kernel_rfl) (by kernel_rfl) (by kernel_rfl) (by rfl)
  cases hgt
set_option maxRecDepth 100000 in
theorem showHidden_row : Rows.ShowHiddenSaid :=
  OpenClaim.holds_of_wide 11 Tryd.f11 rfl rfl rfl rfl rfl rfl rfl ⟨rfl, rfl, rfl, rfl, rfl⟩ rfl rfl rfl rfl rfl (by kernel_rfl) Tryd.func11 (by kernel_rfl)
    (of_decide_eq_true (by kernel_rfl)) (by unfold Func.isWrapper; first | (rw [if_pos (by decide +kernel)]; kernel_rfl) | (rw [if_neg (by decide +kernel)]; exact ⟨rfl, rfl⟩))
    (fun os started H enc _ => law_holds_tab (C := Tryd.checked) (s := Rows.showHiddenSpec) (laid := [("math/bits.deBruijn32tab", Rows.laid_math_bits_deBruijn32tab), ("math/bits.deBruijn64tab", Rows.laid_math_bits_deBruijn64tab), ("internal/strconv.uint64pow10", Rows.laid_internal_strconv_uint64pow10)]) (G := cx.G) (show ownKnob Tryd.prog.godebug = none by kernel_rfl) started (by kernel_rfl) Tryd.func11
      (ChangeSpec.witness_shaped (enc := enc) (C := Tryd.checked) (os := os) (X := fun w _ => laidMetH Tryd.prog [("math/bits.deBruijn32tab", Rows.laid_math_bits_deBruijn32tab), ("math/bits.deBruijn64tab", Rows.laid_math_bits_deBruijn64tab), ("internal/strconv.uint64pow10", Rows.laid_internal_strconv_uint64pow10)] w) false (World.laidAll Tryd.prog os [("math/bits.deBruijn32tab", Rows.laid_math_bits_deBruijn32tab), ("math/bits.deBruijn64tab", Rows.laid_math_bits_deBruijn64tab), ("internal/strconv.uint64pow10", Rows.laid_internal_strconv_uint64pow10)]) #[.slice none 0 0, .slice none 0 0, .slice none 0 0, .int .i64 0, .int .i64 0, .int .i64 0, .int .i64 0] 8 (World.laidAll_os _ _ _) (World.shaped_of_ZipB (by kernel_rfl) (by kernel_rfl)) (by kernel_rfl) (by kernel_rfl) (by kernel_rfl)
        (by rw [MakeChecks.laidMetH_plain _ _ _ (by kernel_rfl)]; exact laidMet_laidAll _ (by kernel_rfl) (by kernel_rfl)))
      rfl (tb := 4) (ps := sg11.ps) (sem := r11) s11 (by kernel_rfl) (bs := [true, true, true, false, false, false, false]) (by kernel_rfl) (fun d hd hz => showHidden (fun b hb => have q := hd.1.2 b hb; ⟨i64_of q.1, i64_of q.2.1, i64_of q.2.2.1, i64_of q.2.2.2.1, i64_of q.2.2.2.2.1, i64_of q.2.2.2.2.2⟩) (fun b hb => have q := hd.2.1.2 b hb; ⟨i64_of q.1, i64_of q.2.1, i64_of q.2.2.1, i64_of q.2.2.2.1, i64_of q.2.2.2.2.1, i64_of q.2.2.2.2.2⟩) (fun b hb => have q := hd.2.2.1.2 b hb; ⟨i64_of q.1, i64_of q.2.1, i64_of q.2.2.1, i64_of q.2.2.2.1, i64_of q.2.2.2.2.1, i64_of q.2.2.2.2.2⟩) hd.1.1 hd.2.1.1 hd.2.2.1.1 (i64_of hd.2.2.2.1) (i64_of hd.2.2.2.2.1) (i64_of hd.2.2.2.2.2.1) (i64_of hd.2.2.2.2.2.2)) (fun W h => tables_showHidden h) (show laidOutB Tryd.prog = true by kernel_rfl) (by kernel_rfl) (by kernel_rfl) (by kernel_rfl)
      (fun ds h => by match ds, h with | [d1, d2, d3, d4, d5, d6, d7], _ => exact ⟨rfl, rfl, rfl⟩))
/-- The card. -/
theorem showHidden_holds : Rows.ShowHiddenCardSaid :=
  Claim7.holds_tied_plain_at .later [] [.data, .data, .data] true (true, "24345609f3f80e89cc8ebdb0f4b40753a28526397943cd244f2e6da08421813d") false
    showHidden_row (fun _ h => by cases h) (by kernel_rfl) (fun _ h => by cases h) showHidden_row_tie rfl ⟨rfl, rfl⟩ (by kernel_rfl) rfl
    (fun f fn hf hfn => by
      obtain rfl : f = 11 := Option.some.inj ((show Tryd.prog.funcNamed "reredos/reredoskeep.ShowHidden" = some 11 by kernel_rfl).symm.trans hf) |>.symm
      obtain rfl : fn = Tryd.f11 := (Option.some.inj (Tryd.func11.symm.trans hfn)).symm
      exact ⟨by kernel_rfl, fun j t ht => by
        have hm : t ∈ Tryd.f11.params.toList := by simpa using Array.mem_of_getElem? ht
        have hall : (Tryd.f11.params.toList.all fun u => !Tryd.prog.wantsStandIn u) = true := by kernel_rfl
        exact (show Tryd.prog.wantsStandIn t = false by simpa using List.all_eq_true.1 hall t hm)⟩)
    (by kernel_rfl)
end Go.Proofs.YtlfcemfcgmidlaaDoor
