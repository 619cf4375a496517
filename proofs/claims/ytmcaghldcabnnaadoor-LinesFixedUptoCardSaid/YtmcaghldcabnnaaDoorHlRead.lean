/- Acts read from lines. -/
import Derived.Test.YtmcaghldcabnnaaDoorHlLines
namespace Go.Hl
open Go.RowKit Go.Proofs Go.V Go.Lib
theorem join_cons (c : UInt8) : ∀ (w : Txt) (ws : List Txt), joinC c (w :: ws) = w ++ ws.flatMap (fun x => c :: x)
  | w, [] => by simp [joinC]
  | w, v :: ws => by rw [joinC, join_cons c v ws]; simp
def findI : List Txt → Txt → Int → Int
  | [], _, _ => -1
  | x :: xs, w, i => if w = x then i else findI xs w (i + 1)
theorem find_loop {xs : List Txt} {w : Txt} (hl : xs.length ≤ 1000) : ∀ (n i : Nat), i + n = xs.length →
    (Option.bind (loopR (r43_L0 (xs, w)) (i : Int)) fun (q3 : (Unit ⊕ Int)) => Sum.elim (fun (_ : Unit) => some (-1 : Int)) (fun (v5 : Int) => some v5) q3) = some (findI (xs.drop i) w i) := by
  intro n
  induction n with
  | zero =>
    intro i hi
    rw [loopR_go]
    unfold r43_L0
    rw [bif_f (decide_eq_false (by simp only; omega)), goL_inr, List.drop_of_length_le (by omega)]
    rfl
  | succ n ih =>
    intro i hi
    obtain ⟨x, e1, e2⟩ := idxN_is (xs := xs) (n := i) (by omega)
    have e0 : idxI xs (i : Int) = some x := by rw [idxI_nn]; exact e2
    have hw : Go.IntKind.wrap .i64 ((i : Int) + 1) = ((i + 1 : Nat) : Int) := by rw [wrap_i64 (by unfold i64; omega)]; omega
    rw [drop_cons e2, loopR_go]
    by_cases c : w = x
    · have hs : r43_L0 (xs, w) (i : Int) = some (.inr (.inr (i : Int))) := by
        unfold r43_L0
        simp only [bif_t (decide_eq_true (show (i : Int) < (xs.length : Int) by omega)), e0, Option.bind_some, bif_t (decide_eq_true c)]
      rw [hs, goL_inr]
      simp [findI, c]
    · have hs : r43_L0 (xs, w) (i : Int) = some (.inl ((i + 1 : Nat) : Int)) := by
        unfold r43_L0
        simp only [bif_t (decide_eq_true (show (i : Int) < (xs.length : Int) by omega)), e0, Option.bind_some, bif_f (decide_eq_false c), hw]
      rw [hs, goL_inl, ih (i + 1) (by omega)]
      simp only [findI, if_neg c]
      rw [show ((i + 1 : Nat) : Int) = (i : Int) + 1 by omega]
theorem find_is {xs : List Txt} (w : Txt) (hl : xs.length ≤ 1000) : r43 (xs, w) = some (findI xs w 0) := by
  have h := find_loop (w := w) hl xs.length 0 (by omega)
  exact h
theorem find_word {k : Int} (h0 : 1 ≤ k) (h1 : k ≤ 8) : r43 (List.drop 1 tab0, wordOf k) = some (k - 1) := by
  rw [find_is _ (by decide)]
  have : k = 1 ∨ k = 2 ∨ k = 3 ∨ k = 4 ∨ k = 5 ∨ k = 6 ∨ k = 7 ∨ k = 8 := by omega
  rcases this with rfl | rfl | rfl | rfl | rfl | rfl | rfl | rfl <;> decide
theorem find_call {k : Int} (h0 : 1 ≤ k) (h1 : k ≤ 5) : r43 (List.drop 1 tab1, callOf k) = some (k - 1) := by
  rw [find_is _ (by decide)]
  have : k = 1 ∨ k = 2 ∨ k = 3 ∨ k = 4 ∨ k = 5 := by omega
  rcases this with rfl | rfl | rfl | rfl | rfl <;> decide
/-- A word that is a number's own. -/
def NumW (w : Txt) (n : Int) : Prop := r49 w = some (n, true) ∧ r24 n = some w
theorem num_of {n : Int} (h0 : 0 ≤ n) (h1 : n ≤ 1000000000) : NumW (itoa n) n ∧ (32 : UInt8) ∉ itoa n ∧ (10 : UInt8) ∉ itoa n := by
  obtain ⟨u, rfl⟩ : ∃ u : Nat, n = (u : Int) := ⟨n.toNat, by omega⟩
  have hi : i64 (u : Int) := by unfold i64; omega
  refine ⟨⟨?_, (itoa_is hi).1⟩, ?_, ?_⟩
  · show atoiR _ = _
    unfold atoiR
    have := (itoa_is hi).2
    rw [decide_eq_true (by omega), itoa_nat, atoi_dec (by omega)]; rfl
  · rw [itoa_nat]; exact dec_no (by decide)
  · rw [itoa_nat]; exact dec_no (by decide)
section steps
variable (w : Txt) (r : List Txt)
theorem c_len : decide ((((w :: r).length : Nat) : Int) = 0) = false := decide_eq_false (by simp only [List.length_cons]; omega)
theorem c_pos : decide ((0 : Int) < (((w :: r).length : Nat) : Int)) = true := decide_eq_true (by simp only [List.length_cons]; omega)
theorem c_in : inB (0 : Int) (w :: r).length = true := inB_true (by omega) (by simp only [List.length_cons]; omega)
theorem c_idx : idxN (w :: r) 0 = some w := rfl
theorem c_ok : okB (some (1 : Int)) none none (w :: r).length = true := by simp [okB]; omega
theorem c_mid : midL (w :: r) 1 ((w :: r).length - 1) = r := by simp [midL]
theorem e_len : decide (((([] : List Txt).length : Nat) : Int) = 0) = true := rfl
theorem e_pos : decide ((0 : Int) < ((([] : List Txt).length : Nat) : Int)) = false := rfl
end steps
theorem one_path {k : Int} (hk : k = 2 ∨ k = 3 ∨ k = 4) {s w1 w2 w3 w4 : Txt} {n1 n2 n3 n4 : Int} (h1 : NumW w1 n1) (h2 : NumW w2 n2) (h3 : NumW w3 n3) (h4 : NumW w4 n4)
    (hs : r33 (s, [32]) = some [wordOf k, w1, w2, w3, w4]) : r31 s = some ((k, (n1, (n2, (n3, (n4, ([], ((0, (0, (0, (0, 0)))), []))))))), true) := by
  have hf := find_word (k := k) (by omega) (by omega)
  have hw : Go.IntKind.wrap .i64 (k - 1 + 1) = k := by rw [wrap_i64 (by unfold i64; omega)]; omega
  unfold r31
  simp only [hs, Option.bind_some, c_len, c_in, c_idx, c_ok, c_mid, hf, hw, cond_true, cond_false, h1.1, h1.2, decide_true, Bool.not_true, Bool.not_false]
  rcases hk with rfl | rfl | rfl <;>
    simp only [Int.reduceEq, decide_true, decide_false, cond_true, cond_false, Option.bind_some, Bool.not_true, Bool.not_false, c_len, c_in, c_idx, c_ok, c_mid, e_len, h2.1, h2.2, h3.1, h3.2, h4.1, h4.2]
theorem one_tick {s : Txt} (hs : r33 (s, [32]) = some [wordOf 5]) : r31 s = some ((5, (0, (0, (0, (0, ([], ((0, (0, (0, (0, 0)))), []))))))), true) := by
  have hf := find_word (k := 5) (by omega) (by omega)
  have hw : Go.IntKind.wrap .i64 (5 - 1 + 1) = 5 := by decide
  unfold r31
  simp only [hs, Option.bind_some, c_len, c_in, c_idx, c_ok, c_mid, e_len, hf, hw, cond_true, cond_false, decide_true, Bool.not_true, Bool.not_false, Int.reduceEq, decide_false]
theorem one_start {s w1 : Txt} {n1 : Int} (h1 : NumW w1 n1) (hs : r33 (s, [32]) = some [wordOf 7, w1]) : r31 s = some ((7, (n1, (0, (0, (0, ([], ((0, (0, (0, (0, 0)))), []))))))), true) := by
  have hf := find_word (k := 7) (by omega) (by omega)
  have hw : Go.IntKind.wrap .i64 (7 - 1 + 1) = 7 := by decide
  unfold r31
  simp only [hs, Option.bind_some, c_len, c_in, c_idx, c_ok, c_mid, e_len, hf, hw, cond_true, cond_false, decide_true, Bool.not_true, Bool.not_false, Int.reduceEq, decide_false, h1.1, h1.2]
theorem one_ask1 {s w1 w2 : Txt} {n1 n2 : Int} (h1 : NumW w1 n1) (h2 : NumW w2 n2) (hs : r33 (s, [32]) = some [wordOf 1, w1, w2, callOf 1]) :
    r31 s = some ((1, (n1, (0, (n2, (0, ([], ((1, (0, (0, (0, 0)))), []))))))), true) := by
  have hf := find_word (k := 1) (by omega) (by omega)
  have hg := find_call (k := 1) (by omega) (by omega)
  have hw : Go.IntKind.wrap .i64 (1 - 1 + 1) = 1 := by decide
  unfold r31
  simp only [hs, Option.bind_some, c_len, c_in, c_idx, c_ok, c_mid, e_len, hf, hg, hw, cond_true, cond_false, decide_true, Bool.not_true, Bool.not_false, Int.reduceEq, Int.reduceLT, decide_false, h1.1, h1.2, h2.1, h2.2]
theorem one_ask2 {s w1 w2 w3 w4 w5 : Txt} {n1 n2 n3 n4 n5 : Int} (h1 : NumW w1 n1) (h2 : NumW w2 n2) (h3 : NumW w3 n3) (h4 : NumW w4 n4) (h5 : NumW w5 n5) (hs : r33 (s, [32]) = some [wordOf 1, w1, w2, callOf 2, w3, w4, w5]) :
    r31 s = some ((1, (n1, (0, (n2, (0, ([], ((2, (n3, (n4, (n5, 0)))), []))))))), true) := by
  have hf := find_word (k := 1) (by omega) (by omega)
  have hg := find_call (k := 2) (by omega) (by omega)
  have hw : Go.IntKind.wrap .i64 (1 - 1 + 1) = 1 := by decide
  have hw' : Go.IntKind.wrap .i64 (2 - 1 + 1) = 2 := by decide
  unfold r31
  simp only [hs, Option.bind_some, c_len, c_in, c_idx, c_ok, c_mid, e_len, hf, hg, hw, hw', cond_true, cond_false, decide_true, Bool.not_true, Bool.not_false, Int.reduceEq, Int.reduceLT, decide_false, h1.1, h1.2, h2.1, h2.2, h3.1, h3.2, h4.1, h4.2, h5.1, h5.2]
theorem one_ask3 {s w1 w2 w3 w4 w5 : Txt} {n1 n2 n3 n4 n5 : Int} (h1 : NumW w1 n1) (h2 : NumW w2 n2) (h3 : NumW w3 n3) (h4 : NumW w4 n4) (h5 : NumW w5 n5) (hs : r33 (s, [32]) = some [wordOf 1, w1, w2, callOf 3, w3, w4, w5]) :
    r31 s = some ((1, (n1, (0, (n2, (0, ([], ((3, (n3, (0, (n4, n5)))), []))))))), true) := by
  have hf := find_word (k := 1) (by omega) (by omega)
  have hg := find_call (k := 3) (by omega) (by omega)
  have hw : Go.IntKind.wrap .i64 (1 - 1 + 1) = 1 := by decide
  have hw' : Go.IntKind.wrap .i64 (3 - 1 + 1) = 3 := by decide
  unfold r31
  simp only [hs, Option.bind_some, c_len, c_in, c_idx, c_ok, c_mid, e_len, hf, hg, hw, hw', cond_true, cond_false, decide_true, Bool.not_true, Bool.not_false, Int.reduceEq, Int.reduceLT, decide_false, h1.1, h1.2, h2.1, h2.2, h3.1, h3.2, h4.1, h4.2, h5.1, h5.2]
theorem one_ask4 {k : Int} (hk : k = 4 ∨ k = 5) {s w1 w2 w3 : Txt} {n1 n2 n3 : Int} (h1 : NumW w1 n1) (h2 : NumW w2 n2) (h3 : NumW w3 n3) (hs : r33 (s, [32]) = some [wordOf 1, w1, w2, callOf k, w3]) :
    r31 s = some ((1, (n1, (0, (n2, (0, ([], ((k, (n3, (0, (0, 0)))), []))))))), true) := by
  have hf := find_word (k := 1) (by omega) (by omega)
  have hg := find_call (k := k) (by omega) (by omega)
  have hw : Go.IntKind.wrap .i64 (1 - 1 + 1) = 1 := by decide
  rcases hk with rfl | rfl
  · have hw' : Go.IntKind.wrap .i64 (4 - 1 + 1) = 4 := by decide
    unfold r31
    simp only [hs, Option.bind_some, c_len, c_in, c_idx, c_ok, c_mid, e_len, hf, hg, hw, hw', cond_true, cond_false, decide_true, Bool.not_true, Bool.not_false, Int.reduceEq, Int.reduceLT, decide_false, h1.1, h1.2, h2.1, h2.2, h3.1, h3.2]
  · have hw' : Go.IntKind.wrap .i64 (5 - 1 + 1) = 5 := by decide
    unfold r31
    simp only [hs, Option.bind_some, c_len, c_in, c_idx, c_ok, c_mid, e_len, hf, hg, hw, hw', cond_true, cond_false, decide_true, Bool.not_true, Bool.not_false, Int.reduceEq, Int.reduceLT, decide_false, h1.1, h1.2, h2.1, h2.2, h3.1, h3.2]
/-- Words that are numbers' own. -/
inductive NumsW : List Txt → List Int → Prop
  | nil : NumsW [] []
  | cons {w : Txt} {n : Int} {ws : List Txt} {ns : List Int} (h : NumW w n) (t : NumsW ws ns) : NumsW (w :: ws) (n :: ns)
theorem crash_loop {ws : List Txt} {ns : List Int} (h : NumsW ws ns) : ∀ {k s t l p : Int} {keep : List Int} {c}, keep.length + ns.length ≤ 1000 →
    loopR r31_L0 ((), ((), ((ws, false), (k, (s, (t, (l, (p, (keep, c))))))))) = some ((), ((), (([], false), (k, (s, (t, (l, (p, (keep ++ ns, c))))))))) := by
  induction h with
  | nil =>
    intro k s t l p keep c _
    rw [loopR_go]
    unfold r31_L0
    simp only [e_pos, cond_false, Option.bind_some, goL_inr, List.append_nil]
  | cons h ht ih =>
    intro k s t l p keep c hl
    rename_i w n ws ns
    have hr : roomOk false keep.length 1 8 = true := roomOk_true (by omega)
    have hs : r31_L0 ((), ((), ((w :: ws, false), (k, (s, (t, (l, (p, (keep, c))))))))) = some (.inl ((), ((), ((ws, false), (k, (s, (t, (l, (p, (keep ++ [n], c)))))))))) := by
      unfold r31_L0
      simp only [c_pos, cond_true, cond_false, Option.bind_some, c_len, c_in, c_idx, c_ok, c_mid, h.1, h.2, decide_true, Bool.not_true, Bool.not_false, hr, app_eq]
    rw [loopR_go, hs, goL_inl, ih (by rw [List.length_append]; simp only [List.length_cons, List.length_nil] at hl ⊢; omega)]
    simp
theorem one_crash {s w1 : Txt} {n1 : Int} {ws : List Txt} {ns : List Int} (h1 : NumW w1 n1) (h : NumsW ws ns) (hl : ns.length ≤ 1000) (hs : r33 (s, [32]) = some (wordOf 6 :: w1 :: ws)) :
    r31 s = some ((6, (n1, (0, (0, (0, (ns, ((0, (0, (0, (0, 0)))), []))))))), true) := by
  have hf := find_word (k := 6) (by omega) (by omega)
  have hw : Go.IntKind.wrap .i64 (6 - 1 + 1) = 6 := by decide
  unfold r31
  simp only [hs, Option.bind_some, c_len, c_in, c_idx, c_ok, c_mid, hf, hw, cond_true, cond_false, decide_true, Bool.not_true, Bool.not_false, Int.reduceEq, decide_false, h1.1, h1.2]
  rw [crash_loop h (by simpa using hl)]
  simp only [Option.bind_some, cond_true, Bool.not_false, e_len, List.nil_append]
theorem hexd_back : ∀ n : Nat, n < 16 → r55 (hexT, ((hexd n).toNat : Int)) = some (n : Int) := by
  have h : ∀ n : Nat, n < 16 → indexByte hexT (((hexd n).toNat : Int).toNat.toUInt8) = (n : Int) := by decide +kernel
  intro n hn
  show some (indexByte hexT _) = _
  rw [h n hn]
theorem byte_back : ∀ n : Nat, n < 256 → Go.IntKind.wrap .u8 (Go.bits .or .i64 (Go.IntKind.wrap .i64 (((n / 16 : Nat) : Int) * 2 ^ 4)) ((n % 16 : Nat) : Int)) = (n : Int) := by decide +kernel
theorem txt_loop {D : T_5} : ∀ (m : Txt) (i : Nat) (out : Txt), D.2.2.1.drop i = hexOf m → i ≤ D.2.2.1.length → out.length + m.length ≤ 1000 → D.2.2.1.length ≤ 10000 → ∀ T : List Txt × Bool,
    loopR (r31_L1 D) ((), ((), ((), ((i : Int), (T, out.map fun b => (b.toNat : Int)))))) = some (.inl ((), ((), (T, (out ++ m).map fun b => (b.toNat : Int))))) := by
  intro m
  induction m with
  | nil =>
    intro i out hd hi hl hs T
    have he : i = D.2.2.1.length := by
      have h := congrArg List.length hd
      simp only [List.length_drop, hexOf, List.flatMap_nil, List.length_nil] at h
      omega
    rw [loopR_go]
    unfold r31_L1
    rw [bif_f (decide_eq_false (by simp only; omega)), goL_inr, List.append_nil]
  | cons b m ih =>
    intro i out hd hi hl hs T
    have hd' : D.2.2.1.drop i = hexd (b.toNat / 16) :: hexd (b.toNat % 16) :: hexOf m := by rw [hd]; simp [hexOf]
    have g0 : D.2.2.1[i]? = some (hexd (b.toNat / 16)) := by have h := congrArg (fun l => l[0]?) hd'; simpa using h
    have g1 : D.2.2.1[i + 1]? = some (hexd (b.toNat % 16)) := by have h := congrArg (fun l => l[1]?) hd'; simpa using h
    have g2 : D.2.2.1.drop (i + 2) = hexOf m := by rw [← List.drop_drop, hd']; rfl
    have hlt : i + 1 < D.2.2.1.length := (List.getElem?_eq_some_iff.mp g1).1
    have hw : Go.IntKind.wrap .i64 ((i : Int) + 1) = ((i + 1 : Nat) : Int) := by rw [wrap_i64 (by unfold i64; omega)]; omega
    have hw2 : Go.IntKind.wrap .i64 ((i : Int) + 2) = ((i + 2 : Nat) : Int) := by rw [wrap_i64 (by unfold i64; omega)]; omega
    have q1 := hexd_back (b.toNat / 16) (by have := b.toNat_lt; omega)
    have q2 := hexd_back (b.toNat % 16) (by omega)
    have q3 := byte_back b.toNat b.toNat_lt
    have hr : roomOk false (out.map fun b => (b.toNat : Int)).length 1 1 = true := roomOk_true (by rw [List.length_map]; omega)
    unfold hexT at q1 q2
    have hstep : r31_L1 D ((), ((), ((), ((i : Int), (T, out.map fun b => (b.toNat : Int)))))) = some (.inl ((), ((), ((), (((i + 2 : Nat) : Int), (T, (out ++ [b]).map fun b => (b.toNat : Int))))))) := by
      unfold r31_L1
      simp only [bif_t (decide_eq_true (show (i : Int) < (D.2.2.1.length : Int) by omega)), hw, idxI_nn, g0, g1, Option.bind_some, q1, q2,
        decide_eq_false (show ¬ ((b.toNat / 16 : Nat) : Int) < 0 by omega), decide_eq_false (show ¬ ((b.toNat % 16 : Nat) : Int) < 0 by omega), Bool.not_false, cond_true, cond_false, hr, hw2, q3, app_eq]
      simp
    rw [loopR_go, hstep, goL_inl, ih (i + 2) _ g2 (by omega) (by simp only [List.length_append, List.length_cons, List.length_nil] at hl ⊢; omega) hs T]
    simp
theorem one_type {s w1 w2 l : Txt} {n1 n2 : Int} (h1 : NumW w1 n1) (h2 : NumW w2 n2) (hl : l.length ≤ 1000) (hs : r33 (s, [32]) = some [wordOf 8, w1, w2, 46 :: hexOf l]) :
    r31 s = some ((8, (n1, (0, (n2, (0, ([], ((0, (0, (0, (0, 0)))), l))))))), true) := by
  have hf := find_word (k := 8) (by omega) (by omega)
  have hw : Go.IntKind.wrap .i64 (8 - 1 + 1) = 8 := by decide
  have hx := hexOf_len l
  have hm : decide (Int.tmod (((46 :: hexOf l).length : Nat) : Int) 2 = 1) = true := decide_eq_true (by
    rw [Int.tmod_eq_emod_of_nonneg (by omega), List.length_cons, hx]; omega)
  have h46 : decide ((↑(UInt8.toNat 46) : Int) = 46) = true := by decide
  have hloop := fun (D : T_5) (hD : D.2.2.1 = 46 :: hexOf l) (T : List Txt × Bool) => txt_loop (D := D) l 1 [] (by rw [hD]; rfl) (by rw [hD]; simp) (by simpa using hl) (by rw [hD, List.length_cons, hx]; omega) T
  have e0 : idxI (46 :: hexOf l) (0 : Int) = some 46 := rfl
  unfold r31
  simp only [hs, Option.bind_some, c_len, c_in, c_idx, c_ok, c_mid, e_len, hf, hw, cond_true, cond_false, decide_true, Bool.not_true, Bool.not_false, Int.reduceEq, decide_false, h1.1, h1.2, h2.1, h2.2, hm, e0, h46]
  have h' := hloop ((), ((), (46 :: hexOf l, ([], false)))) rfl ([], false)
  simp only [List.map_nil, List.nil_append] at h'
  have h'' : loopR (r31_L1 ((), ((), (46 :: hexOf l, ([], false))))) ((), ((), ((), ((1 : Int), (([], false), ([] : List Int)))))) = _ := h'
  rw [h'']
  simp only [Option.bind_some, Sum.elim_inl, bytes_back, cond_true, Bool.not_false, e_len]
end Go.Hl
