/- The row LinesBad, and its tied card: the law is true of whatever input; the table holds what the program's text lays. No other condition. -/
import Derived.Test.YtmcaghldcabnnaaDoorHlBad
import Derived.Test.YtmcaghldcabnnaaDoorLibK
import Derived.Test.YtmcaghldcabnnaaDoorRows
import Derived.Test.YtmcaghldcabnnaaDoorCards
import Derived.Test.YtmcaghldcabnnaaDoorTie
import Derived.SevenTiedAt
import Derived.Lay
namespace Go.Proofs.YtmcaghldcabnnaaDoor
open Go.RowKit Go.V Go.Hl

theorem tables_linesBad {W : World} (h : laidMetH Tryd.prog [("math/bits.deBruijn32tab", Rows.laid_math_bits_deBruijn32tab), ("math/bits.deBruijn64tab", Rows.laid_math_bits_deBruijn64tab), ("internal/strconv.uint64pow10", Rows.laid_internal_strconv_uint64pow10), ("unicode/utf8.acceptRanges", Rows.laid_unicode_utf8_acceptRanges), ("strconv.ErrRange", Rows.laid_strconv_ErrRange), ("strconv.ErrSyntax", Rows.laid_strconv_ErrSyntax), ("reredos/lines.words", Rows.laid_reredos_lines_words), ("reredos/lines.calls", Rows.laid_reredos_lines_calls), ("unicode/utf8.first", Rows.laid_unicode_utf8_first)] W) : ∀ g t, Go.V.look cx.G g = some t → RepR W (tabS W cx.G) t (.pointer (some ⟨g, 0, none⟩)) := by
  have hp : (([("math/bits.deBruijn32tab", Rows.laid_math_bits_deBruijn32tab), ("math/bits.deBruijn64tab", Rows.laid_math_bits_deBruijn64tab), ("internal/strconv.uint64pow10", Rows.laid_internal_strconv_uint64pow10), ("unicode/utf8.acceptRanges", Rows.laid_unicode_utf8_acceptRanges), ("strconv.ErrRange", Rows.laid_strconv_ErrRange), ("strconv.ErrSyntax", Rows.laid_strconv_ErrSyntax), ("reredos/lines.words", Rows.laid_reredos_lines_words), ("reredos/lines.calls", Rows.laid_reredos_lines_calls), ("unicode/utf8.first", Rows.laid_unicode_utf8_first)] : List (String × DataW Unit)).all fun x => x.2.handleName?.isNone) = true := by kernel_rfl
  have r0 : ReadsAs Tryd.prog W "reredos/lines.words" 0 73 Rows.laid_reredos_lines_words := reads_of hp h (by kernel_rfl) (by kernel_rfl) (.tail _ (.tail _ (.tail _ (.tail _ (.tail _ (.tail _ (.head _)))))))
  have r1 : ReadsAs Tryd.prog W "reredos/lines.calls" 1 94 Rows.laid_reredos_lines_calls := reads_of hp h (by kernel_rfl) (by kernel_rfl) (.tail _ (.tail _ (.tail _ (.tail _ (.tail _ (.tail _ (.tail _ (.head _))))))))
  have r3 : ReadsAs Tryd.prog W "internal/strconv.uint64pow10" 3 130 Rows.laid_internal_strconv_uint64pow10 := reads_of hp h (by kernel_rfl) (by kernel_rfl) (.tail _ (.tail _ (.head _)))
  have r4 : ReadsAs Tryd.prog W "strconv.ErrSyntax" 4 70 Rows.laid_strconv_ErrSyntax := reads_of hp h (by kernel_rfl) (by kernel_rfl) (.tail _ (.tail _ (.tail _ (.tail _ (.tail _ (.head _))))))
  have r5 : ReadsAs Tryd.prog W "strconv.ErrRange" 5 70 Rows.laid_strconv_ErrRange := reads_of hp h (by kernel_rfl) (by kernel_rfl) (.tail _ (.tail _ (.tail _ (.tail _ (.head _)))))
  intro g t hgt
  change Go.V.look ((0, _) :: (1, _) :: (3, _) :: (4, _) :: (5, _) :: []) g = some t at hgt
  rw [look_cons] at hgt
  split at hgt
  · rename_i e
    subst e
    simp only [Option.some.injEq] at hgt
    subst hgt
    exact table_of (n := 9) (e := 9) r0 (by kernel_rfl) (by kernel_rfl) (by kernel_rfl) (by kernel_rfl) (by rfl)
  rw [look_cons] at hgt
  split at hgt
  · rename_i e
    subst e
    simp only [Option.some.injEq] at hgt
    subst hgt
    exact table_of (n := 6) (e := 9) r1 (by kernel_rfl) (by kernel_rfl) (by kernel_rfl) (by kernel_rfl) (by rfl)
  rw [look_cons] at hgt
  split at hgt
  · rename_i e
    subst e
    simp only [Option.some.injEq] at hgt
    subst hgt
    exact table_of (n := 20) (e := 115) r3 (by kernel_rfl) (by kernel_rfl) (by kernel_rfl) (by kernel_rfl) (by rfl)
  rw [look_cons] at hgt
  split at hgt
  · rename_i e
    subst e
    simp only [Option.some.injEq] at hgt
    subst hgt
    exact iface_of r4 (by kernel_rfl) (by rfl)
  rw [look_cons] at hgt
  split at hgt
  · rename_i e
    subst e
    simp only [Option.some.injEq] at hgt
    subst hgt
    exact iface_of r5 (by kernel_rfl) (by rfl)
  cases hgt

set_option maxRecDepth 100000 in
theorem linesBad_row : Rows.LinesBadSaid :=
  OpenClaim.holds_of_wide 6 Tryd.f6 rfl rfl rfl rfl rfl rfl rfl ⟨rfl, rfl, rfl, rfl, rfl⟩ rfl rfl rfl rfl rfl (by kernel_rfl) Tryd.func6 (by kernel_rfl)
    (of_decide_eq_true (by kernel_rfl)) (by unfold Func.isWrapper; first | (rw [if_pos (by decide +kernel)]; kernel_rfl) | (rw [if_neg (by decide +kernel)]; exact ⟨rfl, rfl⟩))
    (fun os started H enc _ => law_holds_tab (C := Tryd.checked) (s := Rows.linesBadSpec) (laid := [("math/bits.deBruijn32tab", Rows.laid_math_bits_deBruijn32tab), ("math/bits.deBruijn64tab", Rows.laid_math_bits_deBruijn64tab), ("internal/strconv.uint64pow10", Rows.laid_internal_strconv_uint64pow10), ("unicode/utf8.acceptRanges", Rows.laid_unicode_utf8_acceptRanges), ("strconv.ErrRange", Rows.laid_strconv_ErrRange), ("strconv.ErrSyntax", Rows.laid_strconv_ErrSyntax), ("reredos/lines.words", Rows.laid_reredos_lines_words), ("reredos/lines.calls", Rows.laid_reredos_lines_calls), ("unicode/utf8.first", Rows.laid_unicode_utf8_first)]) (G := cx.G) (show ownKnob Tryd.prog.godebug = none by kernel_rfl) started (by kernel_rfl) Tryd.func6
      (ChangeSpec.witness_shaped (enc := enc) (C := Tryd.checked) (os := os) (X := fun w _ => laidMetH Tryd.prog [("math/bits.deBruijn32tab", Rows.laid_math_bits_deBruijn32tab), ("math/bits.deBruijn64tab", Rows.laid_math_bits_deBruijn64tab), ("internal/strconv.uint64pow10", Rows.laid_internal_strconv_uint64pow10), ("unicode/utf8.acceptRanges", Rows.laid_unicode_utf8_acceptRanges), ("strconv.ErrRange", Rows.laid_strconv_ErrRange), ("strconv.ErrSyntax", Rows.laid_strconv_ErrSyntax), ("reredos/lines.words", Rows.laid_reredos_lines_words), ("reredos/lines.calls", Rows.laid_reredos_lines_calls), ("unicode/utf8.first", Rows.laid_unicode_utf8_first)] w) false (World.laidAll Tryd.prog os [("math/bits.deBruijn32tab", Rows.laid_math_bits_deBruijn32tab), ("math/bits.deBruijn64tab", Rows.laid_math_bits_deBruijn64tab), ("internal/strconv.uint64pow10", Rows.laid_internal_strconv_uint64pow10), ("unicode/utf8.acceptRanges", Rows.laid_unicode_utf8_acceptRanges), ("strconv.ErrRange", Rows.laid_strconv_ErrRange), ("strconv.ErrSyntax", Rows.laid_strconv_ErrSyntax), ("reredos/lines.words", Rows.laid_reredos_lines_words), ("reredos/lines.calls", Rows.laid_reredos_lines_calls), ("unicode/utf8.first", Rows.laid_unicode_utf8_first)]) #[.slice none 0 0, .int .i64 0] 8 (World.laidAll_os _ _ _) (World.shaped_of_ZipB (by kernel_rfl) (by kernel_rfl)) (by kernel_rfl) (by kernel_rfl) (by kernel_rfl)
        (by rw [MakeChecks.laidMetH_plain _ _ _ (by kernel_rfl)]; exact laidMet_laidAll _ (by kernel_rfl) (by kernel_rfl)))
      rfl (tb := 4) (ps := sg6.ps) (sem := r6) s6 (by kernel_rfl) (bs := [true, false]) (by kernel_rfl) (fun d hd hz => linesBad (fun b hb => have q := hd.1.2 b hb; ⟨i64_of q.1, i64_of q.2.1, i64_of q.2.2.1, i64_of q.2.2.2.1, i64_of q.2.2.2.2.1, i64_of q.2.2.2.2.2⟩) hd.1.1 (i64_of hd.2)) (fun W h => tables_linesBad h) (show laidOutB Tryd.prog = true by kernel_rfl) (by kernel_rfl) (by kernel_rfl) (by kernel_rfl)
      (fun ds h => by match ds, h with | [d1, d2], _ => exact ⟨rfl, rfl, rfl⟩))

/-- The card. -/
theorem linesBad_holds : Rows.LinesBadCardSaid :=
  Claim7.holds_tied_plain_at .later [] [.data, .data, .data, .data, .sentinel, .sentinel, .widerDeep, .widerDeep, .pinned] true (true, "d3e51b284788b828e9e02f0ee81df1e27d00836cd062787ac0981b564a137727") true
    linesBad_row (fun _ h => by cases h) (by kernel_rfl) (fun _ h => by cases h) linesBad_row_tie rfl ⟨rfl, rfl⟩ (by kernel_rfl) rfl
    (fun f fn hf hfn => by
      obtain rfl : f = 6 := Option.some.inj ((show Tryd.prog.funcNamed "reredos/reredoskeep.LinesBad" = some 6 by kernel_rfl).symm.trans hf) |>.symm
      obtain rfl : fn = Tryd.f6 := (Option.some.inj (Tryd.func6.symm.trans hfn)).symm
      exact ⟨by kernel_rfl, fun j t ht => by
        have hm : t ∈ Tryd.f6.params.toList := by simpa using Array.mem_of_getElem? ht
        have hall : (Tryd.f6.params.toList.all fun u => !Tryd.prog.wantsStandIn u) = true := by kernel_rfl
        exact (show Tryd.prog.wantsStandIn t = false by simpa using List.all_eq_true.1 hall t hm)⟩)
    (by kernel_rfl)
end Go.Proofs.YtmcaghldcabnnaaDoor
