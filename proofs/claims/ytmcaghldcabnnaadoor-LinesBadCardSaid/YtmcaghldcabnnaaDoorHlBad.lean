/- The first line that is wrong is told. -/
import Derived.Test.YtmcaghldcabnnaaDoorHlBack
namespace Go.Hl
open Go.RowKit Go.Proofs Go.V Go.Lib

abbrev cOne : Cfg := (2, [((0 : Int), (0 : Int)), ((1 : Int), (0 : Int))], 3)
theorem two_one : r9 1 = some cOne := by
  simp [r9, r15, IntKind.wrap, IntKind.signed, IntKind.bits]
theorem two_one_ok : CfgOk cOne :=
  ⟨by decide, by decide, by decide, by decide, by simp [LabOk], by decide, by simp, by simp⟩

theorem itoa_lit {u : Nat} {w : Txt} (h : decDigits u = w) : itoa (u : Int) = w := by rw [itoa_nat, h]
theorem n0 : NumW [48] 0 := by
  have h : itoa (0 : Int) = [48] := itoa_lit (u := 0) (by simp [decDigits])
  rw [← h]; exact (num_of (by omega) (by omega)).1
theorem n1 : NumW [49] 1 := by
  have h : itoa (1 : Int) = [49] := itoa_lit (u := 1) (by simp [decDigits])
  rw [← h]; exact (num_of (by omega) (by omega)).1
theorem n2 : NumW [50] 2 := by
  have h : itoa (2 : Int) = [50] := itoa_lit (u := 2) (by simp [decDigits])
  rw [← h]; exact (num_of (by omega) (by omega)).1
theorem n9 : NumW [57] 9 := by
  have h : itoa (9 : Int) = [57] := itoa_lit (u := 9) (by simp [decDigits])
  rw [← h]; exact (num_of (by omega) (by omega)).1
theorem nm : NumW [45, 49] (-1) := by
  have h : itoa (-1 : Int) = [45, 49] := by
    unfold itoa
    rw [if_pos (by omega)]
    have : decDigits (-1 : Int).natAbs = [49] := by
      show decDigits 1 = [49]
      simp [decDigits]
    rw [this]
  refine ⟨?_, ?_⟩
  · show some (atoiV [45, 49]) = _
    rfl
  · rw [(itoa_is (n := -1) (by unfold i64; omega)).1, h]
theorem no_num : r49 [] = some (atoiV []) := rfl
theorem old_num : r49 [48, 49] = some (1, true) := rfl

theorem sp (l : Txt) {ws : List Txt} (hl : l.length ≤ 1000) (h : splitC 32 l = ws) : r33 (l, [32]) = some ws := by rw [Sp.split_is 32 (by omega), h]

/-- What is read of a line that is none. -/
theorem bad1 : ∃ a, r31 [84, 105, 99, 107] = some (a, false) := by
  have hs := sp [84, 105, 99, 107] (ws := [[84, 105, 99, 107]]) (by decide) (by decide)
  have hf : r43 (List.drop 1 tab0, [84, 105, 99, 107]) = some (-1) := by rw [find_is _ (by decide)]; decide
  have hw : Go.IntKind.wrap .i64 (-1 + 1) = 0 := by decide
  unfold r31
  simp only [hs, Option.bind_some, c_len, c_in, c_idx, c_ok, c_mid, e_len, hf, hw, cond_true, cond_false, decide_true]
  exact ⟨_, rfl⟩
theorem bad2 : ∃ a, r31 [116, 105, 99, 107, 32, 49] = some (a, false) := by
  have hs := sp [116, 105, 99, 107, 32, 49] (ws := [wordOf 5, [49]]) (by decide) (by decide)
  have hf := find_word (k := 5) (by omega) (by omega)
  have hw : Go.IntKind.wrap .i64 (5 - 1 + 1) = 5 := by decide
  unfold r31
  simp only [hs, Option.bind_some, c_len, c_in, c_idx, c_ok, c_mid, e_len, hf, hw, cond_true, cond_false, decide_true, Bool.not_true, Bool.not_false, Int.reduceEq, decide_false]
  exact ⟨_, rfl⟩
theorem bad3 : ∃ a, r31 [97, 115, 107, 32, 48, 32, 48] = some (a, false) := by
  have hs := sp [97, 115, 107, 32, 48, 32, 48] (ws := [wordOf 1, [48], [48]]) (by decide) (by decide)
  have hf := find_word (k := 1) (by omega) (by omega)
  have hg : r43 (List.drop 1 tab1, []) = some (-1) := by rw [find_is _ (by decide)]; decide
  have hw : Go.IntKind.wrap .i64 (1 - 1 + 1) = 1 := by decide
  have hw' : Go.IntKind.wrap .i64 (-1 + 1) = 0 := by decide
  unfold r31
  simp only [hs, Option.bind_some, c_len, c_in, c_idx, c_ok, c_mid, e_len, hf, hg, hw, hw', cond_true, cond_false, decide_true, Bool.not_true, Bool.not_false, Int.reduceEq, Int.reduceLT, decide_false, n0.1, n0.2]
  exact ⟨_, rfl⟩
theorem bad4 : ∃ a, r31 [97, 115, 107, 32, 48, 32, 48, 32, 98, 101, 103, 105, 110, 32, 49] = some (a, false) := by
  have hs := sp [97, 115, 107, 32, 48, 32, 48, 32, 98, 101, 103, 105, 110, 32, 49] (ws := [wordOf 1, [48], [48], callOf 1, [49]]) (by decide) (by decide)
  have hf := find_word (k := 1) (by omega) (by omega)
  have hg := find_call (k := 1) (by omega) (by omega)
  have hw : Go.IntKind.wrap .i64 (1 - 1 + 1) = 1 := by decide
  unfold r31
  simp only [hs, Option.bind_some, c_len, c_in, c_idx, c_ok, c_mid, e_len, hf, hg, hw, cond_true, cond_false, decide_true, Bool.not_true, Bool.not_false, Int.reduceEq, Int.reduceLT, decide_false, n0.1, n0.2]
  exact ⟨_, rfl⟩
theorem bad6 : ∃ a, r31 [97, 115, 107, 32, 48, 32, 48, 32, 103, 101, 116, 32, 49, 32, 48] = some (a, false) := by
  have hs := sp [97, 115, 107, 32, 48, 32, 48, 32, 103, 101, 116, 32, 49, 32, 48] (ws := [wordOf 1, [48], [48], callOf 2, [49], [48]]) (by decide) (by decide)
  have hf := find_word (k := 1) (by omega) (by omega)
  have hg := find_call (k := 2) (by omega) (by omega)
  have hw : Go.IntKind.wrap .i64 (1 - 1 + 1) = 1 := by decide
  have hw' : Go.IntKind.wrap .i64 (2 - 1 + 1) = 2 := by decide
  unfold r31
  simp only [hs, Option.bind_some, c_len, c_in, c_idx, c_ok, c_mid, e_len, hf, hg, hw, hw', cond_true, cond_false, decide_true, Bool.not_true, Bool.not_false, Int.reduceEq, Int.reduceLT, decide_false, n0.1, n0.2, n1.1, n1.2, no_num]
  exact ⟨_, rfl⟩
theorem bad8 : ∃ a, r31 [100, 101, 108, 105, 118, 101, 114, 32, 48, 32, 48, 32, 48] = some (a, false) := by
  have hs := sp [100, 101, 108, 105, 118, 101, 114, 32, 48, 32, 48, 32, 48] (ws := [wordOf 2, [48], [48], [48]]) (by decide) (by decide)
  have hf := find_word (k := 2) (by omega) (by omega)
  have hw : Go.IntKind.wrap .i64 (2 - 1 + 1) = 2 := by decide
  unfold r31
  simp only [hs, Option.bind_some, c_len, c_in, c_idx, c_ok, c_mid, e_len, hf, hw, cond_true, cond_false, decide_true, Bool.not_true, Bool.not_false, Int.reduceEq, decide_false, n0.1, n0.2, no_num]
  exact ⟨_, rfl⟩
theorem crash_none {ws : List Txt} {r : Int × (Int × (Int × (Int × (Int × (List Int × (Int × (Int × (Int × (Int × (Int × List UInt8))))))))))} : loopR r31_L0 ((), ((), ((ws, true), r))) = some ((), ((), ((ws, true), r))) := by
  rw [loopR_go]
  unfold r31_L0
  cases decide ((0 : Int) < ((ws.length : Nat) : Int)) <;> simp only [cond_true, cond_false, Option.bind_some, Bool.not_true, goL_inr]
theorem bad11 : ∃ a, r31 [99, 114, 97, 115, 104] = some (a, false) := by
  have hs := sp [99, 114, 97, 115, 104] (ws := [wordOf 6]) (by decide) (by decide)
  have hf := find_word (k := 6) (by omega) (by omega)
  have hw : Go.IntKind.wrap .i64 (6 - 1 + 1) = 6 := by decide
  unfold r31
  simp only [hs, Option.bind_some, c_len, c_in, c_idx, c_ok, c_mid, e_len, hf, hw, cond_true, cond_false, decide_true, Bool.not_true, Bool.not_false, Int.reduceEq, decide_false, no_num, crash_none]
  exact ⟨_, rfl⟩
theorem bad13 : ∃ a, r31 [115, 116, 97, 114, 116, 32, 48, 49] = some (a, false) := by
  have hs := sp [115, 116, 97, 114, 116, 32, 48, 49] (ws := [wordOf 7, [48, 49]]) (by decide) (by decide)
  have hf := find_word (k := 7) (by omega) (by omega)
  have hw : Go.IntKind.wrap .i64 (7 - 1 + 1) = 7 := by decide
  have hd : decide (([49] : List UInt8) = [48, 49]) = false := by decide
  unfold r31
  simp only [hs, Option.bind_some, c_len, c_in, c_idx, c_ok, c_mid, e_len, hf, hw, cond_true, cond_false, decide_true, Bool.not_true, Bool.not_false, Int.reduceEq, decide_false, old_num, n1.2, hd]
  exact ⟨_, rfl⟩
theorem bad_text {w : Txt} (h : decide (Int.tmod ((w.length : Nat) : Int) 2 = 1) = false) {s : Txt} (hs : r33 (s, [32]) = some [wordOf 8, [48], [48], w]) : ∃ a, r31 s = some (a, false) := by
  have hf := find_word (k := 8) (by omega) (by omega)
  have hw : Go.IntKind.wrap .i64 (8 - 1 + 1) = 8 := by decide
  unfold r31
  simp only [hs, Option.bind_some, c_len, c_in, c_idx, c_ok, c_mid, e_len, hf, hw, cond_true, cond_false, decide_true, Bool.not_true, Bool.not_false, Int.reduceEq, decide_false, n0.1, n0.2, h]
  exact ⟨_, rfl⟩
theorem bad14 : ∃ a, r31 [116, 121, 112, 101, 32, 48, 32, 48, 32, 54, 49] = some (a, false) :=
  bad_text (w := [54, 49]) (by decide) (sp _ (by decide) (by decide))
theorem bad15 : ∃ a, r31 [116, 121, 112, 101, 32, 48, 32, 48, 32, 46, 54] = some (a, false) :=
  bad_text (w := [46, 54]) (by decide) (sp _ (by decide) (by decide))

/-- What stands where a line should is told with its error. -/
def Bad (rest : Txt) (e : Int) : Prop := ∀ (s0 : Txt) (i : Nat) (out : List Act), i < 3000 → r13_L0 (cOne, s0) (rest, ((), ((i : Int), out))) = some (.inr (.inr ((), ((i : Int), e))))

theorem bad_form {w : Txt} (hw : (10 : UInt8) ∉ w) (hl : w.length ≤ 1000) (h : ∃ a, r31 w = some (a, false)) : Bad (w ++ [10]) 4 := by
  obtain ⟨a, h⟩ := h
  intro s0 i out hi
  have hcut := cut_is (w := w) (r := []) hw (by simp; omega)
  have hne : decide (w ++ [10] = ([] : List UInt8)) = false := decide_eq_false (by simp)
  unfold r13_L0
  simp only [hne, Bool.not_false, cond_true, hcut, Option.bind_some, bif_f (decide_eq_false (show ¬ (i : Int) = 3000 by omega)), h, Bool.not_true, cond_false]

theorem bad_check {w : Txt} (hw : (10 : UInt8) ∉ w) (hl : w.length ≤ 1000) {a : Act} (h : r31 w = some (a, true)) {e : Int} (hk : a.2.2.2.2.2.1.length ≤ 1000) (he : actErr cOne a = e) (h0 : decide (e = 0) = false) : Bad (w ++ [10]) e := by
  intro s0 i out hi
  have hcut := cut_is (w := w) (r := []) hw (by simp; omega)
  have hne : decide (w ++ [10] = ([] : List UInt8)) = false := decide_eq_false (by simp)
  have hck : r21 (cOne, a) = some e := by rw [actCheck_is two_one_ok a (by omega), he]
  unfold r13_L0
  simp only [hne, Bool.not_false, cond_true, hcut, Option.bind_some, bif_f (decide_eq_false (show ¬ (i : Int) = 3000 by omega)), h, Bool.not_true, cond_false, hck, h0]

theorem bad_end : Bad [116, 105, 99, 107] 4 := by
  intro s0 i out hi
  have h1 := one_tick (s := [116, 105, 99, 107]) (sp _ (by decide) (by decide))
  have hcut : r30 ([116, 105, 99, 107], [10]) = some ([116, 105, 99, 107], ([], false)) := by
    have hi : r54 (([116, 105, 99, 107] : Txt), [10]) = some (-1) := by
      show some (indexByte _ 10) = _
      rw [indexByte_no (by decide)]
    unfold r30 r42
    simp only [hi, Option.bind_some, bif_f (decide_eq_false (show ¬ (0 : Int) ≤ -1 by omega))]
  have hne : decide (([116, 105, 99, 107] : Txt) = ([] : List UInt8)) = false := by decide
  unfold r13_L0
  simp only [hne, Bool.not_false, cond_true, hcut, Option.bind_some, bif_f (decide_eq_false (show ¬ (i : Int) = 3000 by omega)), h1, Bool.not_true, cond_false]

theorem bad5 : Bad ([97, 115, 107, 32, 48, 32, 50, 32, 98, 101, 103, 105, 110] ++ [10]) 2 :=
  bad_check (by decide) (by decide) (one_ask1 n0 n2 (sp _ (by decide) (by decide))) (by decide) (by rfl) (by rfl)
theorem bad7 : Bad ([97, 115, 107, 32, 48, 32, 48, 32, 103, 101, 116, 32, 49, 32, 48, 32, 57] ++ [10]) 2 :=
  bad_check (by decide) (by decide) (one_ask2 n0 n0 n1 n0 n9 (sp _ (by decide) (by decide))) (by decide) (by rfl) (by rfl)
theorem bad9 : Bad ([100, 101, 108, 105, 118, 101, 114, 32, 50, 32, 48, 32, 48, 32, 48] ++ [10]) 2 :=
  bad_check (by decide) (by decide) (one_path (.inl rfl) n2 n0 n0 n0 (sp _ (by decide) (by decide))) (by decide) (by rfl) (by rfl)
theorem bad10 : Bad ([100, 114, 111, 112, 32, 48, 32, 48, 32, 48, 32, 45, 49] ++ [10]) 2 :=
  bad_check (by decide) (by decide) (one_path (.inr (.inl rfl)) n0 n0 n0 nm (sp _ (by decide) (by decide))) (by decide) (by rfl) (by rfl)
theorem bad12 : Bad ([99, 114, 97, 115, 104, 32, 48, 32, 48, 32, 48, 32, 48] ++ [10]) 2 :=
  bad_check (by decide) (by decide) (one_crash n0 (.cons n0 (.cons n0 (.cons n0 .nil))) (by decide) (sp _ (by decide) (by decide))) (by decide) (by rfl) (by rfl)

theorem read_bad {rest : Txt} {e : Int} (hb : Bad rest e) (hr : rest.length ≤ 1000) {l : List Act} (hx : ∀ x ∈ l, ActOk cOne x) (hl : l.length ≤ 2000) : r13 (cOne, showT l ++ rest) = some ([], ((l.length : Int), e)) := by
  have h := read_on two_one_ok (s0 := showT l ++ rest) (rest := rest) l 0 [] hx (by omega) (by simp) (by omega)
  have h' : loopR (r13_L0 (cOne, showT l ++ rest)) (showT l ++ rest, ((), ((0 : Int), []))) = some (.inr ((), ((l.length : Int), e))) := by
    refine Eq.trans h ?_
    rw [loopR_go, Nat.zero_add, hb _ _ _ (by omega), goL_inr]
  unfold r13
  simp only [check_ok two_one_ok, Option.bind_some, decide_true, Bool.not_true, cond_false, h', Sum.elim_inr]

theorem linesBad {l : List Raw} {b : Int} (hl : ∀ x ∈ l, RawOk x) (hl' : l.length ≤ 9223372036854775807) (hb : i64 b) : r6 (l, b) = some true := by
  have hc := two_one_ok
  obtain ⟨xa, e1, a1, a2⟩ := acts_is hc hl hl' (most := 12) (by omega) (by omega) (force := true)
  have good : ∀ x, ActOk cOne x → r21 (cOne, x) = some 0 ∧ ShowOk x := fun x h => ⟨act_good hc h, act_show hc h⟩
  obtain ⟨s1, t1⟩ := show_is (check_ok hc) (l := xa) (by omega) fun x hx => good x (a2 x hx)
  obtain ⟨v, p1, p2, p3⟩ := picked_is hb (show (0 : Int) < 17 by omega)
  have rd : ∀ {rest : Txt} {e : Int}, Bad rest e → rest.length ≤ 1000 → r13 (cOne, showT xa ++ rest) = some ([], ((xa.length : Int), e)) := fun h hr => read_bad h hr a2 (by omega)
  have r0 : r13 (cOne, showT xa ++ []) = some (xa, (0, 0)) := by rw [List.append_nil]; exact read_is hc a2 (by omega)
  have ok : ∀ {w : Txt}, w.length ≤ 1000 → decide ((showT xa).length + w.length ≤ 9223372036854775807) = true := fun h => decide_eq_true (by omega)
  unfold r6
  rw [two_one]
  have p1' : r15 (b, ((17 : Nat) : Int)) = some v := p1
  simp only [Option.bind_some, e1, s1, List.length_cons, List.length_nil, Nat.reduceAdd, p1', bif_t (inB_true (n := v) (l := 17) p2 p3)]
  have hv : v = 0 ∨ v = 1 ∨ v = 2 ∨ v = 3 ∨ v = 4 ∨ v = 5 ∨ v = 6 ∨ v = 7 ∨ v = 8 ∨ v = 9 ∨ v = 10 ∨ v = 11 ∨ v = 12 ∨ v = 13 ∨ v = 14 ∨ v = 15 ∨ v = 16 := by omega
  rcases hv with rfl | rfl | rfl | rfl | rfl | rfl | rfl | rfl | rfl | rfl | rfl | rfl | rfl | rfl | rfl | rfl | rfl
  · simp only [idxN, Int.reduceToNat, Int.toNat_zero, Int.toNat_one, List.getElem?_cons_zero, List.getElem?_cons_succ, Option.bind_some, bif_t (ok (w := []) (by decide)), r0, decide_true, cond_true]
  · have h1 : Bad [84, 105, 99, 107, 10] 4 := bad_form (by decide) (by decide) bad1
    have h2 : decide (([84, 105, 99, 107, 10] : List UInt8) = []) = false := by decide
    simp only [idxN, Int.reduceToNat, Int.toNat_zero, Int.toNat_one, List.getElem?_cons_zero, List.getElem?_cons_succ, Option.bind_some, bif_t (ok (w := [84, 105, 99, 107, 10]) (by decide)), rd h1 (by decide), h2, decide_true, cond_true, cond_false, Int.reduceEq, decide_false]
    rfl
  · have h1 : Bad [116, 105, 99, 107, 32, 49, 10] 4 := bad_form (by decide) (by decide) bad2
    have h2 : decide (([116, 105, 99, 107, 32, 49, 10] : List UInt8) = []) = false := by decide
    simp only [idxN, Int.reduceToNat, Int.toNat_zero, Int.toNat_one, List.getElem?_cons_zero, List.getElem?_cons_succ, Option.bind_some, bif_t (ok (w := [116, 105, 99, 107, 32, 49, 10]) (by decide)), rd h1 (by decide), h2, decide_true, cond_true, cond_false, Int.reduceEq, decide_false]
    rfl
  · have h1 : Bad [97, 115, 107, 32, 48, 32, 48, 10] 4 := bad_form (by decide) (by decide) bad3
    have h2 : decide (([97, 115, 107, 32, 48, 32, 48, 10] : List UInt8) = []) = false := by decide
    simp only [idxN, Int.reduceToNat, Int.toNat_zero, Int.toNat_one, List.getElem?_cons_zero, List.getElem?_cons_succ, Option.bind_some, bif_t (ok (w := [97, 115, 107, 32, 48, 32, 48, 10]) (by decide)), rd h1 (by decide), h2, decide_true, cond_true, cond_false, Int.reduceEq, decide_false]
    rfl
  · have h1 : Bad [97, 115, 107, 32, 48, 32, 48, 32, 98, 101, 103, 105, 110, 32, 49, 10] 4 := bad_form (by decide) (by decide) bad4
    have h2 : decide (([97, 115, 107, 32, 48, 32, 48, 32, 98, 101, 103, 105, 110, 32, 49, 10] : List UInt8) = []) = false := by decide
    simp only [idxN, Int.reduceToNat, Int.toNat_zero, Int.toNat_one, List.getElem?_cons_zero, List.getElem?_cons_succ, Option.bind_some, bif_t (ok (w := [97, 115, 107, 32, 48, 32, 48, 32, 98, 101, 103, 105, 110, 32, 49, 10]) (by decide)), rd h1 (by decide), h2, decide_true, cond_true, cond_false, Int.reduceEq, decide_false]
    rfl
  · have h1 : Bad [97, 115, 107, 32, 48, 32, 50, 32, 98, 101, 103, 105, 110, 10] 2 := bad5
    have h2 : decide (([97, 115, 107, 32, 48, 32, 50, 32, 98, 101, 103, 105, 110, 10] : List UInt8) = []) = false := by decide
    simp only [idxN, Int.reduceToNat, Int.toNat_zero, Int.toNat_one, List.getElem?_cons_zero, List.getElem?_cons_succ, Option.bind_some, bif_t (ok (w := [97, 115, 107, 32, 48, 32, 50, 32, 98, 101, 103, 105, 110, 10]) (by decide)), rd h1 (by decide), h2, decide_true, cond_true, cond_false, Int.reduceEq, decide_false]
    rfl
  · have h1 : Bad [97, 115, 107, 32, 48, 32, 48, 32, 103, 101, 116, 32, 49, 32, 48, 10] 4 := bad_form (by decide) (by decide) bad6
    have h2 : decide (([97, 115, 107, 32, 48, 32, 48, 32, 103, 101, 116, 32, 49, 32, 48, 10] : List UInt8) = []) = false := by decide
    simp only [idxN, Int.reduceToNat, Int.toNat_zero, Int.toNat_one, List.getElem?_cons_zero, List.getElem?_cons_succ, Option.bind_some, bif_t (ok (w := [97, 115, 107, 32, 48, 32, 48, 32, 103, 101, 116, 32, 49, 32, 48, 10]) (by decide)), rd h1 (by decide), h2, decide_true, cond_true, cond_false, Int.reduceEq, decide_false]
    rfl
  · have h1 : Bad [97, 115, 107, 32, 48, 32, 48, 32, 103, 101, 116, 32, 49, 32, 48, 32, 57, 10] 2 := bad7
    have h2 : decide (([97, 115, 107, 32, 48, 32, 48, 32, 103, 101, 116, 32, 49, 32, 48, 32, 57, 10] : List UInt8) = []) = false := by decide
    simp only [idxN, Int.reduceToNat, Int.toNat_zero, Int.toNat_one, List.getElem?_cons_zero, List.getElem?_cons_succ, Option.bind_some, bif_t (ok (w := [97, 115, 107, 32, 48, 32, 48, 32, 103, 101, 116, 32, 49, 32, 48, 32, 57, 10]) (by decide)), rd h1 (by decide), h2, decide_true, cond_true, cond_false, Int.reduceEq, decide_false]
    rfl
  · have h1 : Bad [100, 101, 108, 105, 118, 101, 114, 32, 48, 32, 48, 32, 48, 10] 4 := bad_form (by decide) (by decide) bad8
    have h2 : decide (([100, 101, 108, 105, 118, 101, 114, 32, 48, 32, 48, 32, 48, 10] : List UInt8) = []) = false := by decide
    simp only [idxN, Int.reduceToNat, Int.toNat_zero, Int.toNat_one, List.getElem?_cons_zero, List.getElem?_cons_succ, Option.bind_some, bif_t (ok (w := [100, 101, 108, 105, 118, 101, 114, 32, 48, 32, 48, 32, 48, 10]) (by decide)), rd h1 (by decide), h2, decide_true, cond_true, cond_false, Int.reduceEq, decide_false]
    rfl
  · have h1 : Bad [100, 101, 108, 105, 118, 101, 114, 32, 50, 32, 48, 32, 48, 32, 48, 10] 2 := bad9
    have h2 : decide (([100, 101, 108, 105, 118, 101, 114, 32, 50, 32, 48, 32, 48, 32, 48, 10] : List UInt8) = []) = false := by decide
    simp only [idxN, Int.reduceToNat, Int.toNat_zero, Int.toNat_one, List.getElem?_cons_zero, List.getElem?_cons_succ, Option.bind_some, bif_t (ok (w := [100, 101, 108, 105, 118, 101, 114, 32, 50, 32, 48, 32, 48, 32, 48, 10]) (by decide)), rd h1 (by decide), h2, decide_true, cond_true, cond_false, Int.reduceEq, decide_false]
    rfl
  · have h1 : Bad [100, 114, 111, 112, 32, 48, 32, 48, 32, 48, 32, 45, 49, 10] 2 := bad10
    have h2 : decide (([100, 114, 111, 112, 32, 48, 32, 48, 32, 48, 32, 45, 49, 10] : List UInt8) = []) = false := by decide
    simp only [idxN, Int.reduceToNat, Int.toNat_zero, Int.toNat_one, List.getElem?_cons_zero, List.getElem?_cons_succ, Option.bind_some, bif_t (ok (w := [100, 114, 111, 112, 32, 48, 32, 48, 32, 48, 32, 45, 49, 10]) (by decide)), rd h1 (by decide), h2, decide_true, cond_true, cond_false, Int.reduceEq, decide_false]
    rfl
  · have h1 : Bad [99, 114, 97, 115, 104, 10] 4 := bad_form (by decide) (by decide) bad11
    have h2 : decide (([99, 114, 97, 115, 104, 10] : List UInt8) = []) = false := by decide
    simp only [idxN, Int.reduceToNat, Int.toNat_zero, Int.toNat_one, List.getElem?_cons_zero, List.getElem?_cons_succ, Option.bind_some, bif_t (ok (w := [99, 114, 97, 115, 104, 10]) (by decide)), rd h1 (by decide), h2, decide_true, cond_true, cond_false, Int.reduceEq, decide_false]
    rfl
  · have h1 : Bad [99, 114, 97, 115, 104, 32, 48, 32, 48, 32, 48, 32, 48, 10] 2 := bad12
    have h2 : decide (([99, 114, 97, 115, 104, 32, 48, 32, 48, 32, 48, 32, 48, 10] : List UInt8) = []) = false := by decide
    simp only [idxN, Int.reduceToNat, Int.toNat_zero, Int.toNat_one, List.getElem?_cons_zero, List.getElem?_cons_succ, Option.bind_some, bif_t (ok (w := [99, 114, 97, 115, 104, 32, 48, 32, 48, 32, 48, 32, 48, 10]) (by decide)), rd h1 (by decide), h2, decide_true, cond_true, cond_false, Int.reduceEq, decide_false]
    rfl
  · have h1 : Bad [115, 116, 97, 114, 116, 32, 48, 49, 10] 4 := bad_form (by decide) (by decide) bad13
    have h2 : decide (([115, 116, 97, 114, 116, 32, 48, 49, 10] : List UInt8) = []) = false := by decide
    simp only [idxN, Int.reduceToNat, Int.toNat_zero, Int.toNat_one, List.getElem?_cons_zero, List.getElem?_cons_succ, Option.bind_some, bif_t (ok (w := [115, 116, 97, 114, 116, 32, 48, 49, 10]) (by decide)), rd h1 (by decide), h2, decide_true, cond_true, cond_false, Int.reduceEq, decide_false]
    rfl
  · have h1 : Bad [116, 121, 112, 101, 32, 48, 32, 48, 32, 54, 49, 10] 4 := bad_form (by decide) (by decide) bad14
    have h2 : decide (([116, 121, 112, 101, 32, 48, 32, 48, 32, 54, 49, 10] : List UInt8) = []) = false := by decide
    simp only [idxN, Int.reduceToNat, Int.toNat_zero, Int.toNat_one, List.getElem?_cons_zero, List.getElem?_cons_succ, Option.bind_some, bif_t (ok (w := [116, 121, 112, 101, 32, 48, 32, 48, 32, 54, 49, 10]) (by decide)), rd h1 (by decide), h2, decide_true, cond_true, cond_false, Int.reduceEq, decide_false]
    rfl
  · have h1 : Bad [116, 121, 112, 101, 32, 48, 32, 48, 32, 46, 54, 10] 4 := bad_form (by decide) (by decide) bad15
    have h2 : decide (([116, 121, 112, 101, 32, 48, 32, 48, 32, 46, 54, 10] : List UInt8) = []) = false := by decide
    simp only [idxN, Int.reduceToNat, Int.toNat_zero, Int.toNat_one, List.getElem?_cons_zero, List.getElem?_cons_succ, Option.bind_some, bif_t (ok (w := [116, 121, 112, 101, 32, 48, 32, 48, 32, 46, 54, 10]) (by decide)), rd h1 (by decide), h2, decide_true, cond_true, cond_false, Int.reduceEq, decide_false]
    rfl
  · have h1 : Bad [116, 105, 99, 107] 4 := bad_end
    have h2 : decide (([116, 105, 99, 107] : List UInt8) = []) = false := by decide
    simp only [idxN, Int.reduceToNat, Int.toNat_zero, Int.toNat_one, List.getElem?_cons_zero, List.getElem?_cons_succ, Option.bind_some, bif_t (ok (w := [116, 105, 99, 107]) (by decide)), rd h1 (by decide), h2, decide_true, cond_true, cond_false, Int.reduceEq, decide_false]
    rfl

end Go.Hl
