/- The row LinesFixedUpto, and its tied card: the law is true of whatever input; the table holds what the program's text lays. No other condition. -/
import Derived.Test.YtmcaghldcabnnaaDoorHlFixed
import Derived.Test.YtmcaghldcabnnaaDoorLibK
import Derived.Test.YtmcaghldcabnnaaDoorRows
import Derived.Test.YtmcaghldcabnnaaDoorCards
import Derived.Test.YtmcaghldcabnnaaDoorTie
import Derived.SevenTiedAt
import Derived.Lay
import Derived.ChangeMaps5
import Derived.Deep.DeepHandedRow
namespace Go.Proofs.YtmcaghldcabnnaaDoor
open Go.RowKit Go.V Go.Hl Go.ChangeShapes Go.WideShapes Go.ChangeAt
theorem tables_linesFixedUpto {W : World} (h : laidMetH Tryd.prog [("math/bits.deBruijn32tab", Rows.laid_math_bits_deBruijn32tab), ("math/bits.deBruijn64tab", Rows.laid_math_bits_deBruijn64tab), ("internal/strconv.uint64pow10", Rows.laid_internal_strconv_uint64pow10), ("unicode/utf8.acceptRanges", Rows.laid_unicode_utf8_acceptRanges), ("strconv.ErrRange", Rows.laid_strconv_ErrRange), ("strconv.ErrSyntax", Rows.laid_strconv_ErrSyntax), ("reredos/lines.words", Rows.laid_reredos_lines_words), ("reredos/lines.calls", Rows.laid_reredos_lines_calls), ("unicode/utf8.first", Rows.laid_unicode_utf8_first)] W) : ∀ g t, Go.V.look cx.G g = some t → RepR W (tabS W cx.G) t (.pointer (some ⟨g, 0, none⟩)) := by
  have hp : (([("math/bits.deBruijn32tab", Rows.laid_math_bits_deBruijn32tab), ("math/bits.deBruijn64tab", Rows.laid_math_bits_deBruijn64tab), ("internal/strconv.uint64pow10", Rows.laid_internal_strconv_uint64pow10), ("unicode/utf8.acceptRanges", Rows.laid_unicode_utf8_acceptRanges), ("strconv.ErrRange", Rows.laid_strconv_ErrRange), ("strconv.ErrSyntax", Rows.laid_strconv_ErrSyntax), ("reredos/lines.words", Rows.laid_reredos_lines_words), ("reredos/lines.calls", Rows.laid_reredos_lines_calls), ("unicode/utf8.first", Rows.laid_unicode_utf8_first)] : List (String × DataW Unit)).all fun x => x.2.handleName?.isNone) = true := by kernel_rfl
  have r0 : ReadsAs Tryd.prog W "reredos/lines.words" 0 73 Rows.laid_reredos_lines_words := reads_of hp h (by kernel_rfl) (by kernel_rfl) (.tail _ (.tail _ (.tail _ (.tail _ (.tail _ (.tail _ (.head _)))))))
  have r1 : ReadsAs Tryd.prog W "reredos/lines.calls" 1 94 Rows.laid_reredos_lines_calls := reads_of hp h (by kernel_rfl) (by kernel_rfl) (.tail _ (.tail _ (.tail _ (.tail _ (.tail _ (.tail _ (.tail _ (.head _))))))))
  have r3 : ReadsAs Tryd.prog W "internal/strconv.uint64pow10" 3 130 Rows.laid_internal_strconv_uint64pow10 := reads_of hp h (by kernel_rfl) (by kernel_rfl) (.tail _ (.tail _ (.head _)))
  have r4 : ReadsAs Tryd.prog W "strconv.ErrSyntax" 4 70 Rows.laid_strconv_ErrSyntax := reads_of hp h (by kernel_rfl) (by kernel_rfl) (.tail _ (.tail _ (.tail _ (.tail _ (.tail _ (.head _))))))
  have r5 : ReadsAs Tryd.prog W "strconv.ErrRange" 5 70 Rows.laid_strconv_ErrRange := reads_of hp h (by kernel_rfl) (by kernel_rfl) (.tail _ (.tail _ (.tail _ (.tail _ (.head _)))))
  intro g t hgt
  change Go.V.look ((0, _) :: (1, _) :: (3, _) :: (4, _) :: (5, _) :: []) g = some t at hgt
  rw [look_cons] at hgt
  split at hgt
  · rename_i e
    subst e
    simp only [Option.some.injEq] at hgt
    subst hgt
    exact table_of (n := 9) (e := 9) r0 (by kernel_rfl) (by kernel_rfl) (by kernel_rfl) (by kernel_rfl) (by rfl)
  rw [look_cons] at hgt
  split at hgt
  · rename_i e
    subst e
    simp only [Option.some.injEq] at hgt
    subst hgt
    exact table_of (n := 6) (e := 9) r1 (by kernel_rfl) (by kernel_rfl) (by kernel_rfl) (by kernel_rfl) (by rfl)
  rw [look_cons] at hgt
  split at hgt
  · rename_i e
    subst e
    simp only [Option.some.injEq] at hgt
    subst hgt
    exact table_of (n := 20) (e := 115) r3 (by kernel_rfl) (by kernel_rfl) (by kernel_rfl) (by kernel_rfl) (by rfl)
  rw [look_cons] at hgt
  split at hgt
  · rename_i e
    subst e
    simp only [Option.some.injEq] at hgt
    subst hgt
    exact iface_of r4 (by kernel_rfl) (by rfl)
  rw [look_cons] at hgt
  split at hgt
  · rename_i e
    subst e
    simp only [Option.some.injEq] at hgt
    subst hgt
    exact iface_of r5 (by kernel_rfl) (by rfl)
  cases hgt
set_option maxRecDepth 100000 in
theorem small_text {H : Type} {enc : TypeId × Value → H} {W : World} {args : Array Value} {ds : List (DataW H)} {p : List MemPlace} {d : den (argTy sg5.ps)}
    (hA : DataW.TrodAll enc Tryd.prog W 0 (fun _ => true) true Tryd.f5.params.toList args.toList ds p) (hv : ∀ (j : Nat) t v, Tryd.f5.params.toList[j]? = some t → args[j]? = some v → ∃ b, Value.okWide Tryd.prog W .any b t v)
    (hk : Rows.uptoSmall H ds = true) (hr : ∀ (j : Nat) D, (paramsD sg5.ps d)[j]? = some D → ∃ v, args.toList[j]? = some v ∧ RepD W (oldSit W) D v) : (d.2.2 : List UInt8).length ≤ 10000000 := by
  have hA' : DataW.TrodAll enc Tryd.prog W 0 (fun _ => true) true [3, 29, 9] args.toList ds p := hA
  obtain ⟨v0, vs0, d0, ds0, p0, q0, ha, rfl, -, g0, r0⟩ := trodAll_cons hA'
  obtain ⟨v1, vs1, d1, ds1, p1, q1, rfl, rfl, -, g1, r1⟩ := trodAll_cons r0
  obtain ⟨v2, vs2, d2, ds2, p2, q2, rfl, rfl, -, g2, r2⟩ := trodAll_cons r1
  obtain ⟨rfl, rfl, -⟩ := trodAll_nil r2
  obtain ⟨b, ho⟩ := hv 2 9 v2 rfl (by rw [← Array.getElem?_toList, ha]; rfl)
  obtain ⟨st, rfl, rfl, -, -⟩ := Go.ChangeMaps.open_string Tryd.underlying9 ho g2
  obtain ⟨v, e1, e2⟩ := hr 2 (.v (.c (.k (.v (.string ⟨⟨(d.2.2 : List UInt8)⟩⟩))))) rfl
  rw [ha] at e1
  have e1 : Value.string st = v := Option.some.inj e1
  subst e1
  have hst : st = ⟨⟨(d.2.2 : List UInt8)⟩⟩ := by
    generalize hx : Value.string ⟨⟨(d.2.2 : List UInt8)⟩⟩ = x at e2
    cases e2 with
    | v _ _ hv => cases hv with
      | c _ _ hc => cases hc with
        | k _ _ hk => cases hk with
          | v _ _ => exact (Value.string.inj hx).symm
  have h := of_decide_eq_true hk
  simp only [Rows.uptoBulkAll, Rows.uptoBulk] at h
  rw [hst] at h
  have h2 : (⟨⟨(d.2.2 : List UInt8)⟩⟩ : ByteArray).data.toList = (d.2.2 : List UInt8) := rfl
  rw [h2] at h
  omega
set_option maxRecDepth 100000 in
theorem linesFixedUpto_row : Rows.LinesFixedUptoSaid :=
  OpenClaim.holds_of_cond 5 Tryd.f5 rfl rfl rfl rfl rfl rfl rfl ⟨rfl, rfl, rfl, rfl, rfl⟩ rfl rfl rfl rfl rfl (by kernel_rfl) Tryd.func5 (by kernel_rfl)
    (of_decide_eq_true (by kernel_rfl)) (by unfold Func.isWrapper; first | (rw [if_pos (by decide +kernel)]; kernel_rfl) | (rw [if_neg (by decide +kernel)]; exact ⟨rfl, rfl⟩))
    (fun os started H enc _ F => by
      rw [OpenClaim.pre_eq_preRow]
      exact law_holds_cnd (a := ({ modest := false } : Assume)) (C := Tryd.checked) (s := Rows.linesFixedSpec) (k := Rows.uptoSmall) (F := F) (laid := [("math/bits.deBruijn32tab", Rows.laid_math_bits_deBruijn32tab), ("math/bits.deBruijn64tab", Rows.laid_math_bits_deBruijn64tab), ("internal/strconv.uint64pow10", Rows.laid_internal_strconv_uint64pow10), ("unicode/utf8.acceptRanges", Rows.laid_unicode_utf8_acceptRanges), ("strconv.ErrRange", Rows.laid_strconv_ErrRange), ("strconv.ErrSyntax", Rows.laid_strconv_ErrSyntax), ("reredos/lines.words", Rows.laid_reredos_lines_words), ("reredos/lines.calls", Rows.laid_reredos_lines_calls), ("unicode/utf8.first", Rows.laid_unicode_utf8_first)]) (G := cx.G) (show ownKnob Tryd.prog.godebug = none by kernel_rfl) started (by kernel_rfl) Tryd.func5
        ⟨(World.laidAll Tryd.prog os [("math/bits.deBruijn32tab", Rows.laid_math_bits_deBruijn32tab), ("math/bits.deBruijn64tab", Rows.laid_math_bits_deBruijn64tab), ("internal/strconv.uint64pow10", Rows.laid_internal_strconv_uint64pow10), ("unicode/utf8.acceptRanges", Rows.laid_unicode_utf8_acceptRanges), ("strconv.ErrRange", Rows.laid_strconv_ErrRange), ("strconv.ErrSyntax", Rows.laid_strconv_ErrSyntax), ("reredos/lines.words", Rows.laid_reredos_lines_words), ("reredos/lines.calls", Rows.laid_reredos_lines_calls), ("unicode/utf8.first", Rows.laid_unicode_utf8_first)]), fun _ _ => 0, ⟨#[], #[.int .i64 0, .slice none 0 0, .string ⟨#[]⟩], []⟩, World.laidAll_os _ _ _, World.shaped_of_ZipB (by kernel_rfl) (by kernel_rfl), rfl, (Input.okWide_of_okWideB (by kernel_rfl)).2,
          OpenSpec.preRow_of_cond 8 (Option.some_get (x := DataW.whole enc Tryd.prog ((World.laidAll Tryd.prog os [("math/bits.deBruijn32tab", Rows.laid_math_bits_deBruijn32tab), ("math/bits.deBruijn64tab", Rows.laid_math_bits_deBruijn64tab), ("internal/strconv.uint64pow10", Rows.laid_internal_strconv_uint64pow10), ("unicode/utf8.acceptRanges", Rows.laid_unicode_utf8_acceptRanges), ("strconv.ErrRange", Rows.laid_strconv_ErrRange), ("strconv.ErrSyntax", Rows.laid_strconv_ErrSyntax), ("reredos/lines.words", Rows.laid_reredos_lines_words), ("reredos/lines.calls", Rows.laid_reredos_lines_calls), ("unicode/utf8.first", Rows.laid_unicode_utf8_first)]).forCall (fun _ _ => 0) ⟨#[], #[.int .i64 0, .slice none 0 0, .string ⟨#[]⟩], []⟩).memory Tryd.f5.params.toList [] false (#[.int .i64 0, .slice none 0 0, .string ⟨#[]⟩] : Array Value).toList 8) (by kernel_rfl)).symm (by kernel_rfl) (fun k hk => by cases hk; kernel_rfl) (by kernel_rfl)
            (by rw [MakeChecks.laidMetH_plain _ _ _ (by kernel_rfl)]; exact laidMet_laidAll _ (by kernel_rfl) (by kernel_rfl)), by
          simp only [Assume.holds]
          exact ⟨by simp, by simp, fun _ => Modest.zero, by simp, by simp⟩⟩
        rfl (ps := sg5.ps) (sem := r5) s5 (by kernel_rfl) (bs := [false, true, false]) (by kernel_rfl)
        (fun W args ds p d hA hv hk h1 _ hr => linesFixed (i64_of h1.1) (fun n hn => i64_of (h1.2.1.2 n hn)) h1.2.1.1 (small_text hA hv hk hr)) (fun W h => tables_linesFixedUpto h) (show laidOutB Tryd.prog = true by kernel_rfl) (by kernel_rfl) (by kernel_rfl) (tb := 4) (by kernel_rfl)
        (fun ds h => by match ds, h with | [d1, d2, d3], _ => exact ⟨rfl, rfl, rfl⟩))
/-- The card. -/
theorem linesFixedUpto_holds : Rows.LinesFixedUptoCardSaid :=
  Claim7.holds_tied_plain_at .later [] [.data, .data, .data, .data, .sentinel, .sentinel, .widerDeep, .widerDeep, .pinned] true (true, "d3e51b284788b828e9e02f0ee81df1e27d00836cd062787ac0981b564a137727") true
    linesFixedUpto_row (fun _ h => by cases h) (by kernel_rfl) (fun _ h => by cases h) linesFixedUpto_row_tie rfl ⟨rfl, rfl⟩ (by kernel_rfl) rfl
    (fun f fn hf hfn => by
      obtain rfl : f = 5 := Option.some.inj ((show Tryd.prog.funcNamed "reredos/reredoskeep.LinesFixed" = some 5 by kernel_rfl).symm.trans hf) |>.symm
      obtain rfl : fn = Tryd.f5 := (Option.some.inj (Tryd.func5.symm.trans hfn)).symm
      exact ⟨by kernel_rfl, fun j t ht => by
        have hm : t ∈ Tryd.f5.params.toList := by simpa using Array.mem_of_getElem? ht
        have hall : (Tryd.f5.params.toList.all fun u => !Tryd.prog.wantsStandIn u) = true := by kernel_rfl
        exact (show Tryd.prog.wantsStandIn t = false by simpa using List.all_eq_true.1 hall t hm)⟩)
    (by kernel_rfl)
end Go.Proofs.YtmcaghldcabnnaaDoor
