/- No acts have two forms. -/
import Derived.Test.YtmcaghldcabnnaaDoorHlSays
namespace Go.Hl
open Go.RowKit Go.Proofs Go.V Go.Lib
theorem line_back {s : Txt} {a : Act} (h : Says (splitC 32 s) a) : lineOf a = s := by
  rw [line_join, ← h.words, joinC_split]
theorem says_show {c : Cfg} (hc : CfgOk c) {s : Txt} {a : Act} (h : Says (splitC 32 s) a) (he : actErr c a = 0) : ShowOk a := by
  have hl1 := hc.l1
  unfold actErr at he
  cases e1 : decide (a.1 < 1) || decide (8 < a.1) with
  | true => rw [e1] at he; cases he
  | false =>
    rw [e1, cond_false] at he
    cases e2 : !(!numsBad c a && a.2.2.2.2.2.1.all keepOk) with
    | true => rw [e2] at he; cases he
    | false =>
      rw [e2, cond_false] at he
      cases e3 : !bareB a with
      | true => rw [e3] at he; cases he
      | false =>
        rw [e3, cond_false] at he
        have hb : numsBad c a = false := by
          cases h : numsBad c a with
          | false => rfl
          | true => rw [h] at e2; simp at e2
        unfold numsBad at hb
        simp only [Bool.or_eq_false_iff, decide_eq_false_iff_not] at hb e1
        refine ⟨by omega, by omega, h.s, h.t, h.l, h.p, by omega, h.ke, by omega, fun k => ?_, h.c1, h.c2, h.c3, h.c4⟩
        rw [decide_eq_true k, cond_true] at he
        cases e4 : decide (a.2.2.2.2.2.2.1.1 < 1) || decide (5 < a.2.2.2.2.2.2.1.1) with
        | true => rw [e4] at he; cases he
        | false =>
          simp only [Bool.or_eq_false_iff, decide_eq_false_iff_not] at e4
          omega
theorem cut_none {w : Txt} (h : (10 : UInt8) ∉ w) : r30 (w, [10]) = some (w, ([], false)) := by
  have hi : r54 (w, [10]) = some (-1) := by
    show some (indexByte w 10) = _
    rw [indexByte_no h]
  unfold r30 r42
  simp only [hi, Option.bind_some, bif_f (decide_eq_false (show ¬ (0 : Int) ≤ -1 by omega))]
def Good (c : Cfg) (x : Act) : Prop := r21 (c, x) = some 0 ∧ ShowOk x
theorem read_any {c : Cfg} (hc : CfgOk c) {t : Txt} : ∀ (n : Nat) (rest : Txt) (out : List Act), rest.length ≤ n → rest.length ≤ 10000000 → out.length ≤ 3000 → (∀ x ∈ out, Good c x) →
    ∃ r, loopR (r13_L0 (c, t)) (rest, ((), ((out.length : Int), out))) = some r ∧
      ((∃ l, r = .inl ((), l) ∧ showT out ++ rest = showT l ∧ l.length ≤ 3000 ∧ ∀ x ∈ l, Good c x) ∨ ∃ j e, r = .inr ((), (j, e)) ∧ (0 : Int) ≤ j ∧ ¬ e = 0) := by
  intro n
  induction n with
  | zero =>
    intro rest out hn _ ho hg
    have : rest = [] := List.length_eq_zero_iff.mp (by omega)
    subst this
    refine ⟨.inl ((), out), ?_, .inl ⟨out, rfl, by simp, ho, hg⟩⟩
    rw [loopR_go]
    unfold r13_L0
    simp only [decide_true, Bool.not_true, cond_false, goL_inr]
  | succ n ih =>
    intro rest out hn hb ho hg
    by_cases hr : rest = []
    · subst hr
      refine ⟨.inl ((), out), ?_, .inl ⟨out, rfl, by simp, ho, hg⟩⟩
      rw [loopR_go]
      unfold r13_L0
      simp only [decide_true, Bool.not_true, cond_false, goL_inr]
    have hcut : ∃ w r en, r30 (rest, [10]) = some (w, (r, en)) ∧ w.length ≤ rest.length ∧ (en = true → rest = w ++ 10 :: r) := by
      by_cases h10 : (10 : UInt8) ∈ rest
      · obtain ⟨w, r, rfl, hw⟩ := split_at_byte h10
        simp only [List.length_append, List.length_cons] at hb
        exact ⟨w, r, true, cut_is hw (by omega), by simp, fun _ => rfl⟩
      · exact ⟨rest, [], false, cut_none h10, Nat.le_refl _, fun h => by cases h⟩
    obtain ⟨w, r, en, h1, h2, h3⟩ := hcut
    obtain ⟨a, ok, h4, h5⟩ := one_says w (by omega)
    have hne := decide_eq_false hr
    by_cases h6 : (out.length : Int) = 3000
    · refine ⟨.inr ((), ((out.length : Int), 1)), ?_, .inr ⟨_, _, rfl, by omega, by decide⟩⟩
      rw [loopR_go]
      unfold r13_L0
      simp only [hne, Bool.not_false, cond_true, h1, Option.bind_some, bif_t (decide_eq_true h6), goL_inr]
    cases en with
    | false =>
      refine ⟨.inr ((), ((out.length : Int), 4)), ?_, .inr ⟨_, _, rfl, by omega, by decide⟩⟩
      rw [loopR_go]
      unfold r13_L0
      simp only [hne, Bool.not_false, Bool.not_true, cond_true, cond_false, h1, Option.bind_some, bif_f (decide_eq_false h6), h4, goL_inr]
    | true =>
      cases ok with
      | false =>
        refine ⟨.inr ((), ((out.length : Int), 4)), ?_, .inr ⟨_, _, rfl, by omega, by decide⟩⟩
        rw [loopR_go]
        unfold r13_L0
        simp only [hne, Bool.not_false, Bool.not_true, cond_true, cond_false, h1, Option.bind_some, bif_f (decide_eq_false h6), h4, goL_inr]
      | true =>
        have hsays := h5 rfl
        have hck := actCheck_is hc a (by have := hsays.kl; omega)
        by_cases he : actErr c a = 0
        · rw [he] at hck
          have hshow := says_show hc hsays he
          have hline := line_back hsays
          have hrest := h3 rfl
          have hw : Go.IntKind.wrap .i64 ((out.length : Int) + 1) = ((out.length + 1 : Nat) : Int) := by rw [wrap_i64 (by unfold i64; omega)]; omega
          have hroom : roomOk false out.length 1 120 = true := roomOk_true (by omega)
          have hs : r13_L0 (c, t) (rest, ((), ((out.length : Int), out))) = some (.inl (r, ((), ((((out ++ [a]).length : Nat) : Int), out ++ [a])))) := by
            unfold r13_L0
            simp only [hne, Bool.not_false, Bool.not_true, cond_true, cond_false, h1, Option.bind_some, bif_f (decide_eq_false h6), h4, hck, decide_true, hroom, hw, app_eq]
            simp
          have hlen : rest.length = w.length + (r.length + 1) := by rw [hrest, List.length_append, List.length_cons]
          obtain ⟨q, g1, g2⟩ := ih r (out ++ [a]) (by omega) (by omega) (by rw [List.length_append, List.length_singleton]; omega) (fun x hx => by
            rcases List.mem_append.1 hx with hx | hx
            · exact hg x hx
            · rw [List.mem_singleton] at hx; rw [hx]; exact ⟨hck, hshow⟩)
          refine ⟨q, by rw [loopR_go, hs, goL_inl, g1], ?_⟩
          rcases g2 with ⟨l, p1, p2, p3⟩ | g2
          · refine .inl ⟨l, p1, ?_, p3⟩
            rw [← p2, hrest, ← hline]
            simp [showT]
          · exact .inr g2
        · refine ⟨.inr ((), ((out.length : Int), actErr c a)), ?_, .inr ⟨_, _, rfl, by omega, he⟩⟩
          rw [loopR_go]
          unfold r13_L0
          simp only [hne, Bool.not_false, Bool.not_true, cond_true, cond_false, h1, Option.bind_some, bif_f (decide_eq_false h6), h4, hck, decide_eq_false he, goL_inr]
theorem read_gives {c : Cfg} (hc : CfgOk c) {t : Txt} (ht : t.length ≤ 10000000) :
    (∃ l, r13 (c, t) = some (l, (0, 0)) ∧ t = showT l ∧ l.length ≤ 3000 ∧ ∀ x ∈ l, Good c x) ∨ ∃ j e, r13 (c, t) = some ([], (j, e)) ∧ (0 : Int) ≤ j ∧ ¬ e = 0 := by
  obtain ⟨r, h1, h2⟩ := read_any hc (t := t) t.length t [] (Nat.le_refl _) ht (by simp) (by simp)
  have h1' : loopR (r13_L0 (c, t)) (t, ((), ((0 : Int), []))) = some r := h1
  unfold r13
  simp only [check_ok hc, Option.bind_some, decide_true, Bool.not_true, cond_false, h1']
  rcases h2 with ⟨l, rfl, p2, p3, p4⟩ | ⟨j, e, rfl, p2, p3⟩
  · exact .inl ⟨l, rfl, by simpa [showT] using p2, p3, p4⟩
  · exact .inr ⟨j, e, rfl, p2, p3⟩
abbrev tickA : Act := ((5 : Int), ((0 : Int), ((0 : Int), ((0 : Int), ((0 : Int), ([], (((0 : Int), ((0 : Int), ((0 : Int), ((0 : Int), (0 : Int))))), ([] : List UInt8))))))))
theorem tick_ok {c : Cfg} (hc : CfgOk c) : ActOk c tickA := by
  have s0 := hc.s0; have l0 := hc.l0
  constructor <;> simp only [List.length_nil, ne_eq] <;> first | omega | (intros; first | omega | trivial) | (intro n hn; simp at hn; done) | simp
theorem tack_read {c : Cfg} (hc : CfgOk c) : r13 (c, ([116, 105, 99, 107, 10, 116, 97, 99, 107, 10] : Txt)) = some ([], (1, 4)) := by
  have hb : ∃ a, r31 [116, 97, 99, 107] = some (a, false) := by
    have hs := sp [116, 97, 99, 107] (ws := [[116, 97, 99, 107]]) (by decide) (by decide)
    exact says_none hs (by rw [find_is _ (by decide)]; decide)
  obtain ⟨a, hb⟩ := hb
  have hshow : showT [tickA] = [116, 105, 99, 107, 10] := rfl
  have h := read_on hc (s0 := [116, 105, 99, 107, 10, 116, 97, 99, 107, 10]) (rest := [116, 97, 99, 107, 10]) [tickA] 0 [] (fun x hx => by rw [List.mem_singleton] at hx; rw [hx]; exact tick_ok hc) (by simp) (by simp) (by simp)
  rw [hshow] at h
  have hs : r13_L0 (c, ([116, 105, 99, 107, 10, 116, 97, 99, 107, 10] : Txt)) (([116, 97, 99, 107, 10] : Txt), ((), ((((0 + [tickA].length : Nat)) : Int), [] ++ [tickA]))) = some (.inr (.inr ((), ((1 : Int), 4)))) := by
    have hcut : r30 (([116, 97, 99, 107, 10] : Txt), [10]) = some ([116, 97, 99, 107], ([], true)) := cut_is (w := [116, 97, 99, 107]) (r := []) (by decide) (by decide)
    have hne : decide (([116, 97, 99, 107, 10] : Txt) = ([] : List UInt8)) = false := by decide
    unfold r13_L0
    simp only [hne, Bool.not_false, cond_true, hcut, Option.bind_some, bif_f (decide_eq_false (show ¬ (((0 + [tickA].length : Nat)) : Int) = 3000 by simp)), hb, Bool.not_true, cond_false]
    rfl
  have h' : loopR (r13_L0 (c, ([116, 105, 99, 107, 10, 116, 97, 99, 107, 10] : Txt))) (([116, 105, 99, 107, 10, 116, 97, 99, 107, 10] : Txt), ((), ((0 : Int), []))) = some (.inr ((), ((1 : Int), 4))) := by
    refine Eq.trans h ?_
    rw [loopR_go, hs, goL_inr]
  unfold r13
  simp only [check_ok hc, Option.bind_some, decide_true, Bool.not_true, cond_false, h', Sum.elim_inr]
theorem linesFixed {s : Int} {labels : List Int} {t : Txt} (hs : i64 s) (hlab : ∀ n ∈ labels, i64 n) (hlab' : labels.length ≤ 9223372036854775807) (ht : t.length ≤ 10000000) : r5 (s, (labels, t)) = some true := by
  obtain ⟨c, e0, hc⟩ := cfg_is (a := (s, (labels, 1))) hs hlab hlab' (show i64 1 by unfold i64; omega)
  unfold r5
  simp only [e0, Option.bind_some, tack_read hc, decide_true, Bool.not_true, Bool.not_false, cond_true, cond_false]
  rcases read_gives hc ht with ⟨l, h1, h2, h3, h4⟩ | ⟨j, e, h1, h2, h3⟩
  · obtain ⟨g1, -⟩ := show_is (check_ok hc) h3 h4
    rw [← h2] at g1
    simp only [h1, Option.bind_some, decide_true, Bool.not_true, cond_false, g1, cond_true]
  · simp only [h1, Option.bind_some, decide_eq_false h3, Bool.not_false, cond_true, List.length_nil, decide_eq_true h2]
    rfl
end Go.Hl
