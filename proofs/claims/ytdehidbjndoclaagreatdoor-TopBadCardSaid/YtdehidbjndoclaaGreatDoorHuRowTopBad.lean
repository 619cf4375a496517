/- The row TopBad, and its tied card: the law is true of whatever input; the table holds what the program's text lays. No other condition. -/
import Derived.Test.YtdehidbjndoclaaGreatDoorHuBad
import Derived.Test.YtdehidbjndoclaaGreatDoorLibJ
import Derived.Test.YtdehidbjndoclaaGreatDoorRows
import Derived.Test.YtdehidbjndoclaaGreatDoorCards
import Derived.Test.YtdehidbjndoclaaGreatDoorTie
import Derived.SevenTiedAt
import Derived.Lay
namespace Go.Proofs.YtdehidbjndoclaaGreatDoor
open Go.RowKit Go.V Go.Hu
theorem band_topBad {a b : Bool} (ha : a = true) (hb : b = true) : (a && b) = true := by rw [ha, hb]; rfl
set_option maxRecDepth 100000 in
theorem fact1_topBad : Rows.topBadRow.wf (OpenSpec.ofChange Rows.topBadSpec) = true := by kernel_rfl
set_option maxRecDepth 100000 in
theorem fact2_topBad : laidOutB Tryz.prog = true := by kernel_rfl
set_option maxRecDepth 100000 in
theorem fact3_topBad : mapsRowed Tryz.prog = true := by kernel_rfl
set_option maxRecDepth 100000 in
theorem fact4_topBad : Tryz.f3.params.all (Tryz.prog.readableRec ·) = true := by kernel_rfl
set_option maxRecDepth 100000 in
theorem fact5_topBad : namedTie Tryz.prog Rows.topBadRow.named Rows.topBadSpec.vars = true := by kernel_rfl
set_option maxRecDepth 100000 in
theorem fact6_topBad : (Rows.topBadRow.stops == []) = true := by kernel_rfl
set_option maxRecDepth 100000 in
theorem fact7_topBad : (Tryz.prog.stops == []) = true := by kernel_rfl
set_option maxRecDepth 100000 in
theorem fact8_topBad : (Rows.topBadRow.knobs == []) = true := by kernel_rfl
set_option maxRecDepth 100000 in
theorem fact9_topBad : (Tryz.prog.stopKnobs == []) = true := by kernel_rfl
set_option maxRecDepth 100000 in
theorem fact10_topBad : (Rows.topBadRow.inPlace == Tryz.prog.inPlace 3) = true := by kernel_rfl
set_option maxRecDepth 100000 in
theorem fact11_topBad : (Rows.topBadRow.unfollowed == Tryz.prog.unfollowed 3) = true := by kernel_rfl
set_option maxRecDepth 100000 in
theorem fact12_topBad : (Rows.topBadRow.recurses == Tryz.prog.recurses 3) = true := by kernel_rfl
set_option maxRecDepth 100000 in
theorem fact13_topBad : (Rows.topBadRow.named == Tryz.prog.varsNamed 3) = true := by kernel_rfl
set_option maxRecDepth 100000 in
theorem fact14_topBad : (Rows.topBadRow.maps == (Tryz.f3.params.toList ++ Rows.topBadSpec.plain.varTypes Tryz.prog).any (Tryz.prog.mapsRec ·)) = true := by kernel_rfl
set_option maxRecDepth 100000 in
theorem fact15_topBad : (Rows.topBadRow.ifaces == (Tryz.f3.params.toList ++ Rows.topBadSpec.plain.varTypes Tryz.prog).any (Tryz.prog.ifacesRec ·)) = true := by kernel_rfl
set_option maxRecDepth 100000 in
theorem fact16_topBad : (Rows.topBadRow.mapsOut == Tryz.prog.mapsAmong Tryz.f3.resultTypes.toList) = true := by kernel_rfl
set_option maxRecDepth 100000 in
theorem fact17_topBad : (Rows.topBadRow.loops == (Tryz.f3.params.toList ++ Rows.topBadSpec.plain.varTypes Tryz.prog).any (Tryz.prog.loopsFrom ·)) = true := by kernel_rfl
set_option maxRecDepth 100000 in
theorem fact18_topBad : (Rows.topBadRow.wideKeys == (Tryz.f3.params.toList ++ Rows.topBadSpec.plain.varTypes Tryz.prog ++ Tryz.f3.resultTypes.toList).any (Tryz.prog.wideKeysFrom ·)) = true := by kernel_rfl
set_option maxRecDepth 100000 in
theorem fact19_topBad : Rows.topBadSpec.vars.all (Tryz.prog.varReadable ·) = true := by kernel_rfl
set_option maxRecDepth 100000 in
theorem fact20_topBad : Tryz.f3.resultTypes.all (fun t => Tryz.prog.readableRec t && decide (t < Tryz.prog.types.size)) = true := by kernel_rfl
set_option maxRecDepth 100000 in
theorem fact21_topBad : (Rows.topBadRow.ifacesOut == Tryz.f3.resultTypes.toList.any (Tryz.prog.ifacesRec ·)) = true := by kernel_rfl
set_option maxRecDepth 100000 in
theorem fact22_topBad : (Rows.topBadRow.loopsOut == Tryz.f3.resultTypes.toList.any (Tryz.prog.loopsFrom ·)) = true := by kernel_rfl
set_option maxRecDepth 100000 in
theorem fact23_topBad : (Rows.topBadRow.plainKeys == Tryz.prog.plainKeys) = true := by kernel_rfl
set_option maxRecDepth 100000 in
theorem fact24_topBad : Rows.topBadRow.shortTexts.isNone = true := by kernel_rfl
set_option maxRecDepth 100000 in
theorem fact25_topBad : Tryz.prog.stopsHeard = true := by kernel_rfl
set_option maxRecDepth 100000 in
theorem fact26_topBad : Tryz.prog.mayEnter = true := by kernel_rfl
set_option maxRecDepth 100000 in
theorem fact27_topBad : (Rows.topBadRow.lifted == Tryz.prog.liftsFinal) = true := by kernel_rfl
set_option maxRecDepth 100000 in
theorem fact28_topBad : (Tryz.prog.make == some Rows.topBadRow.make) = true := by kernel_rfl
set_option maxRecDepth 100000 in
theorem fact29_topBad : (Rows.topBadRow.kinds == (if Rows.topBadRow.domain.isEmpty then [] else Tryz.f3.params.toList.map fun t => match Tryz.prog.underlying t with | some (.int k) => some k | _ => none)) = true := by kernel_rfl
set_option maxRecDepth 100000 in
theorem fact30_topBad : (Rows.topBadRow.pinned == Rows.topBadRow.pinnedBy) = true := by kernel_rfl
set_option maxRecDepth 100000 in
theorem fact31_topBad : (Rows.topBadRow.veiled == (Tryz.f3.params.toList ++ Rows.topBadSpec.plain.varTypes Tryz.prog ++ Tryz.f3.resultTypes.toList).any (Tryz.prog.veiledRec ·)) = true := by kernel_rfl
set_option maxRecDepth 100000 in
theorem fact32_topBad : Rows.topBadRow.veiledFits Tryz.prog Tryz.f3.params.toList (Tryz.f3.params.toList ++ Rows.topBadSpec.plain.varTypes Tryz.prog ++ Tryz.f3.resultTypes.toList) = true := by kernel_rfl
set_option maxRecDepth 100000 in
theorem closed_topBad : joinedFacts Tryz.prog 3 Tryz.f3 Rows.topBadSpec Rows.topBadRow = true := by
  unfold joinedFacts
  exact band_topBad (band_topBad (band_topBad (band_topBad (band_topBad (band_topBad (band_topBad (band_topBad (band_topBad (band_topBad (band_topBad (band_topBad (band_topBad (band_topBad (band_topBad (band_topBad (band_topBad (band_topBad (band_topBad (band_topBad (band_topBad (band_topBad (band_topBad (band_topBad (band_topBad (band_topBad (band_topBad (band_topBad (band_topBad (band_topBad (band_topBad (fact1_topBad) fact2_topBad) fact3_topBad) fact4_topBad) fact5_topBad) fact6_topBad) fact7_topBad) fact8_topBad) fact9_topBad) fact10_topBad) fact11_topBad) fact12_topBad) fact13_topBad) fact14_topBad) fact15_topBad) fact16_topBad) fact17_topBad) fact18_topBad) fact19_topBad) fact20_topBad) fact21_topBad) fact22_topBad) fact23_topBad) fact24_topBad) fact25_topBad) fact26_topBad) fact27_topBad) fact28_topBad) fact29_topBad) fact30_topBad) fact31_topBad) fact32_topBad
theorem tables_topBad {W : World} (h : laidMetH Tryz.prog [("math/bits.deBruijn32tab", Rows.laid_math_bits_deBruijn32tab), ("math/bits.deBruijn64tab", Rows.laid_math_bits_deBruijn64tab), ("internal/strconv.uint64pow10", Rows.laid_internal_strconv_uint64pow10), ("unicode/utf8.acceptRanges", Rows.laid_unicode_utf8_acceptRanges), ("strconv.ErrRange", Rows.laid_strconv_ErrRange), ("strconv.ErrSyntax", Rows.laid_strconv_ErrSyntax), ("reredos/wire.messages", Rows.laid_reredos_wire_messages), ("reredos/wire.records", Rows.laid_reredos_wire_records), ("unicode/utf8.first", Rows.laid_unicode_utf8_first)] W) : ∀ g t, Go.V.look cx.G g = some t → RepR W (tabS W cx.G) t (.pointer (some ⟨g, 0, none⟩)) := by
  have hp : (([("math/bits.deBruijn32tab", Rows.laid_math_bits_deBruijn32tab), ("math/bits.deBruijn64tab", Rows.laid_math_bits_deBruijn64tab), ("internal/strconv.uint64pow10", Rows.laid_internal_strconv_uint64pow10), ("unicode/utf8.acceptRanges", Rows.laid_unicode_utf8_acceptRanges), ("strconv.ErrRange", Rows.laid_strconv_ErrRange), ("strconv.ErrSyntax", Rows.laid_strconv_ErrSyntax), ("reredos/wire.messages", Rows.laid_reredos_wire_messages), ("reredos/wire.records", Rows.laid_reredos_wire_records), ("unicode/utf8.first", Rows.laid_unicode_utf8_first)] : List (String × DataW Unit)).all fun x => x.2.handleName?.isNone) = true := by kernel_rfl
  intro g t hgt
  cases hgt
set_option maxRecDepth 100000 in
theorem topBad_row : Rows.TopBadSaid :=
  OpenClaim.holds_of_wide 3 Tryz.f3 rfl rfl rfl rfl rfl rfl rfl ⟨rfl, rfl, rfl, rfl, rfl⟩ rfl rfl rfl rfl rfl (by kernel_rfl) Tryz.func3 closed_topBad
    (of_decide_eq_true (by kernel_rfl)) (by unfold Func.isWrapper; first | (rw [if_pos (by decide +kernel)]; kernel_rfl) | (rw [if_neg (by decide +kernel)]; exact ⟨rfl, rfl⟩))
    (fun os started H enc _ => law_holds_tab (C := Tryz.checked) (s := Rows.topBadSpec) (laid := [("math/bits.deBruijn32tab", Rows.laid_math_bits_deBruijn32tab), ("math/bits.deBruijn64tab", Rows.laid_math_bits_deBruijn64tab), ("internal/strconv.uint64pow10", Rows.laid_internal_strconv_uint64pow10), ("unicode/utf8.acceptRanges", Rows.laid_unicode_utf8_acceptRanges), ("strconv.ErrRange", Rows.laid_strconv_ErrRange), ("strconv.ErrSyntax", Rows.laid_strconv_ErrSyntax), ("reredos/wire.messages", Rows.laid_reredos_wire_messages), ("reredos/wire.records", Rows.laid_reredos_wire_records), ("unicode/utf8.first", Rows.laid_unicode_utf8_first)]) (G := cx.G) (show ownKnob Tryz.prog.godebug = none by kernel_rfl) started (by kernel_rfl) Tryz.func3
      (ChangeSpec.witness_shaped (enc := enc) (C := Tryz.checked) (os := os) (X := fun w _ => laidMetH Tryz.prog [("math/bits.deBruijn32tab", Rows.laid_math_bits_deBruijn32tab), ("math/bits.deBruijn64tab", Rows.laid_math_bits_deBruijn64tab), ("internal/strconv.uint64pow10", Rows.laid_internal_strconv_uint64pow10), ("unicode/utf8.acceptRanges", Rows.laid_unicode_utf8_acceptRanges), ("strconv.ErrRange", Rows.laid_strconv_ErrRange), ("strconv.ErrSyntax", Rows.laid_strconv_ErrSyntax), ("reredos/wire.messages", Rows.laid_reredos_wire_messages), ("reredos/wire.records", Rows.laid_reredos_wire_records), ("unicode/utf8.first", Rows.laid_unicode_utf8_first)] w) false (World.laidAll Tryz.prog os [("math/bits.deBruijn32tab", Rows.laid_math_bits_deBruijn32tab), ("math/bits.deBruijn64tab", Rows.laid_math_bits_deBruijn64tab), ("internal/strconv.uint64pow10", Rows.laid_internal_strconv_uint64pow10), ("unicode/utf8.acceptRanges", Rows.laid_unicode_utf8_acceptRanges), ("strconv.ErrRange", Rows.laid_strconv_ErrRange), ("strconv.ErrSyntax", Rows.laid_strconv_ErrSyntax), ("reredos/wire.messages", Rows.laid_reredos_wire_messages), ("reredos/wire.records", Rows.laid_reredos_wire_records), ("unicode/utf8.first", Rows.laid_unicode_utf8_first)]) #[.int .i64 0, .slice none 0 0, .int .i64 0, .slice none 0 0, .int .i64 0] 8 (World.laidAll_os _ _ _) (World.shaped_of_ZipB (by kernel_rfl) (by kernel_rfl)) (by kernel_rfl) (by kernel_rfl) (by kernel_rfl)
        (by rw [MakeChecks.laidMetH_plain _ _ _ (by kernel_rfl)]; exact laidMet_laidAll _ (by kernel_rfl) (by kernel_rfl)))
      rfl (tb := 4) (ps := sg3.ps) (sem := r3) s3 (by kernel_rfl) (bs := [false, true, false, true, false]) (by kernel_rfl) (fun d hd hz => topBad (i64_of hd.1) (fun n hn => i64_of (hd.2.1.2 n hn)) hd.2.1.1 (i64_of hd.2.2.1) (fun b hb => have q := hd.2.2.2.1.2 b hb; ⟨i64_of q.1, i64_of q.2.1, i64_of q.2.2.1, i64_of q.2.2.2.1, i64_of q.2.2.2.2.1, i64_of q.2.2.2.2.2⟩) hd.2.2.2.1.1 (i64_of hd.2.2.2.2)) (fun W h => tables_topBad h) (show laidOutB Tryz.prog = true by kernel_rfl) (by kernel_rfl) (by kernel_rfl) (by kernel_rfl)
      (fun ds h => by match ds, h with | [d1, d2, d3, d4, d5], _ => exact ⟨rfl, rfl, rfl⟩))
/-- The card. -/
theorem topBad_holds : Rows.TopBadCardSaid :=
  Claim7.holds_tied_plain_at .later [] [.data, .data, .data, .data, .sentinel, .sentinel, .data, .data, .pinned] true (true, "e9f8ec114a8d16f90e550aca19acd2880fb75467800d452701f46201f01885ad") true
    topBad_row (fun _ h => by cases h) (by kernel_rfl) (fun _ h => by cases h) topBad_row_tie rfl ⟨rfl, rfl⟩ (by kernel_rfl) rfl
    (fun f fn hf hfn => by
      obtain rfl : f = 3 := Option.some.inj ((show Tryz.prog.funcNamed "reredos/reredostop.TopBad" = some 3 by kernel_rfl).symm.trans hf) |>.symm
      obtain rfl : fn = Tryz.f3 := (Option.some.inj (Tryz.func3.symm.trans hfn)).symm
      exact ⟨by kernel_rfl, fun j t ht => by
        have hm : t ∈ Tryz.f3.params.toList := by simpa using Array.mem_of_getElem? ht
        have hall : (Tryz.f3.params.toList.all fun u => !Tryz.prog.wantsStandIn u) = true := by kernel_rfl
        exact (show Tryz.prog.wantsStandIn t = false by simpa using List.all_eq_true.1 hall t hm)⟩)
    (by kernel_rfl)
end Go.Proofs.YtdehidbjndoclaaGreatDoor
