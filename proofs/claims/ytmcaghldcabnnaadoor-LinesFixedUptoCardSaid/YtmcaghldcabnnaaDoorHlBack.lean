/- Acts read as they were shown. -/
import Derived.Test.YtmcaghldcabnnaaDoorHlRead
namespace Go.Hl
open Go.RowKit Go.Proofs Go.V Go.Lib
def tailW (a : Act) : List Txt := bif decide (a.1 = 1) then callOf a.2.2.2.2.2.2.1.1 :: (askedNums a.2.2.2.2.2.2.1).map itoa else bif decide (a.1 = 8) then [46 :: hexOf a.2.2.2.2.2.2.2] else []
def wordsOf (a : Act) : List Txt := wordOf a.1 :: ((valuesOf a).map itoa ++ tailW a)
theorem line_join (a : Act) : lineOf a = joinC 32 (wordsOf a) := by
  unfold wordsOf
  rw [join_cons, List.flatMap_append, List.flatMap_map]
  unfold lineOf
  have ht : tailOf a = (tailW a).flatMap (fun x => 32 :: x) := by
    unfold tailOf tailW
    cases decide (a.1 = 1) with
    | true => simp [List.flatMap_map, nums]
    | false => cases decide (a.1 = 8) <;> simp
  rw [ht, List.append_assoc]
  rfl
theorem hexd_no : ∀ n : Nat, n < 16 → hexd n ≠ 32 ∧ hexd n ≠ 10 := by decide +kernel
theorem hexOf_no (l : Txt) : (32 : UInt8) ∉ hexOf l ∧ (10 : UInt8) ∉ hexOf l := by
  unfold hexOf
  constructor <;> (intro h; simp only [List.mem_flatMap, List.mem_cons, List.not_mem_nil, or_false] at h; obtain ⟨b, -, h | h⟩ := h)
  · exact (hexd_no _ (by have := b.toNat_lt; omega)).1 h.symm
  · exact (hexd_no _ (by omega)).1 h.symm
  · exact (hexd_no _ (by have := b.toNat_lt; omega)).2 h.symm
  · exact (hexd_no _ (by omega)).2 h.symm
def Small (n : Int) : Prop := 0 ≤ n ∧ n ≤ 1000000000
theorem act_small {c : Cfg} (hc : CfgOk c) {a : Act} (h : ActOk c a) : (∀ n ∈ valuesOf a, Small n) ∧ ∀ n ∈ askedNums a.2.2.2.2.2.2.1, Small n := by
  have s0 := hc.s0; have s1 := hc.s1; have l1 := hc.l1
  have g1 : Small a.2.1 := by have := h.s0; have := h.s1; unfold Small; omega
  have g2 : Small a.2.2.1 := by have := h.t0; have := h.t1; unfold Small; omega
  have g3 : Small a.2.2.2.1 := by have := h.l0; have := h.l1; unfold Small; omega
  have g4 : Small a.2.2.2.2.1 := by have := h.p0; have := h.p1; unfold Small; omega
  have g5 : ∀ n ∈ a.2.2.2.2.2.1, Small n := fun n hn => by have := h.ke n hn; unfold Small; omega
  have hcall : CallOk a.2.2.2.2.2.2.1 ∨ a.2.2.2.2.2.2.1 = (0, 0, 0, 0, 0) := by
    by_cases k : a.1 = 1
    · exact .inl (h.ask k)
    · exact .inr (h.call k)
  have g6 : Small a.2.2.2.2.2.2.1.2.1 := by rcases hcall with q | q; (have := q.n0; have := q.n1; unfold Small; omega); (rw [q]; unfold Small; simp only; omega)
  have g7 : Small a.2.2.2.2.2.2.1.2.2.1 := by rcases hcall with q | q; (have := q.l0; have := q.l1; unfold Small; omega); (rw [q]; unfold Small; simp only; omega)
  have g8 : Small a.2.2.2.2.2.2.1.2.2.2.1 := by rcases hcall with q | q; (have := q.y0; have := q.y1; unfold Small; omega); (rw [q]; unfold Small; simp only; omega)
  have g9 : Small a.2.2.2.2.2.2.1.2.2.2.2 := by rcases hcall with q | q; (have := q.v0; have := q.v1; unfold Small; omega); (rw [q]; unfold Small; simp only; omega)
  constructor
  · unfold valuesOf
    cases (decide (a.1 = 2) || decide (a.1 = 3)) || decide (a.1 = 4) with
    | true => simp only [cond_true, List.forall_mem_cons, List.not_mem_nil, false_imp_iff, implies_true, and_true]; exact ⟨g1, g2, g3, g4⟩
    | false =>
      cases decide (a.1 = 5) with
      | true => simp
      | false =>
        cases decide (a.1 = 6) with
        | true => simp only [cond_true, cond_false, List.forall_mem_cons]; exact ⟨g1, g5⟩
        | false =>
          cases decide (a.1 = 7) with
          | true => simp only [cond_true, cond_false, List.forall_mem_cons, List.not_mem_nil, false_imp_iff, implies_true, and_true]; exact g1
          | false => simp only [cond_false, List.forall_mem_cons, List.not_mem_nil, false_imp_iff, implies_true, and_true]; exact ⟨g1, g3⟩
  · unfold askedNums
    cases decide (a.2.2.2.2.2.2.1.1 = 2) with
    | true => simp only [cond_true, List.forall_mem_cons, List.not_mem_nil, false_imp_iff, implies_true, and_true]; exact ⟨g6, g7, g8⟩
    | false =>
      cases decide (a.2.2.2.2.2.2.1.1 = 3) with
      | true => simp only [cond_true, cond_false, List.forall_mem_cons, List.not_mem_nil, false_imp_iff, implies_true, and_true]; exact ⟨g6, g8, g9⟩
      | false =>
        cases decide (a.2.2.2.2.2.2.1.1 = 4) || decide (a.2.2.2.2.2.2.1.1 = 5) with
        | true => simp only [cond_true, cond_false, List.forall_mem_cons, List.not_mem_nil, false_imp_iff, implies_true, and_true]; exact g6
        | false => simp
theorem word_no {k : Int} (h0 : 1 ≤ k) (h1 : k ≤ 8) : (32 : UInt8) ∉ wordOf k ∧ (10 : UInt8) ∉ wordOf k := by
  have : k = 1 ∨ k = 2 ∨ k = 3 ∨ k = 4 ∨ k = 5 ∨ k = 6 ∨ k = 7 ∨ k = 8 := by omega
  rcases this with rfl | rfl | rfl | rfl | rfl | rfl | rfl | rfl <;> decide
theorem call_no {k : Int} (h0 : 1 ≤ k) (h1 : k ≤ 5) : (32 : UInt8) ∉ callOf k ∧ (10 : UInt8) ∉ callOf k := by
  have : k = 1 ∨ k = 2 ∨ k = 3 ∨ k = 4 ∨ k = 5 := by omega
  rcases this with rfl | rfl | rfl | rfl | rfl <;> decide
theorem words_no {c : Cfg} (hc : CfgOk c) {a : Act} (h : ActOk c a) : ∀ w ∈ wordsOf a, (32 : UInt8) ∉ w ∧ (10 : UInt8) ∉ w := by
  obtain ⟨m1, m2⟩ := act_small hc h
  intro w hw
  unfold wordsOf at hw
  rcases List.mem_cons.1 hw with rfl | hw
  · exact word_no h.k0 h.k1
  rcases List.mem_append.1 hw with hw | hw
  · obtain ⟨n, hn, rfl⟩ := List.mem_map.1 hw
    exact (num_of (m1 n hn).1 (m1 n hn).2).2
  · unfold tailW at hw
    by_cases c1 : a.1 = 1
    · rw [decide_eq_true c1, cond_true] at hw
      rcases List.mem_cons.1 hw with rfl | hw
      · exact call_no (h.ask c1).k0 (h.ask c1).k1
      · obtain ⟨n, hn, rfl⟩ := List.mem_map.1 hw
        exact (num_of (m2 n hn).1 (m2 n hn).2).2
    · rw [decide_eq_false c1, cond_false] at hw
      cases c8 : decide (a.1 = 8) with
      | true =>
        rw [c8, cond_true, List.mem_singleton] at hw
        subst hw
        have := hexOf_no a.2.2.2.2.2.2.2
        exact ⟨fun e => by rcases List.mem_cons.1 e with e | e; (exact absurd e (by decide)); exact this.1 e, fun e => by rcases List.mem_cons.1 e with e | e; (exact absurd e (by decide)); exact this.2 e⟩
      | false => rw [c8] at hw; cases hw
theorem join_no {c d : UInt8} (hcd : d ≠ c) : ∀ {ws : List Txt}, (∀ w ∈ ws, d ∉ w) → d ∉ joinC c ws
  | [], _ => by simp [joinC]
  | w :: ws, h => by
    rw [join_cons]
    intro e
    rcases List.mem_append.1 e with e | e
    · exact h w List.mem_cons_self e
    · obtain ⟨x, hx, e⟩ := List.mem_flatMap.1 e
      rcases List.mem_cons.1 e with e | e
      · exact hcd e
      · exact h x (List.mem_cons_of_mem _ hx) e
theorem line_no {c : Cfg} (hc : CfgOk c) {a : Act} (h : ActOk c a) : (10 : UInt8) ∉ lineOf a := by
  rw [line_join]
  exact join_no (by decide) fun w hw => (words_no hc h w hw).2
theorem line_split {c : Cfg} (hc : CfgOk c) {a : Act} (h : ActOk c a) : r33 (lineOf a, [32]) = some (wordsOf a) := by
  rw [Sp.split_is 32 (by have := line_len (act_show hc h); omega), line_join, splitC_join (by simp [wordsOf]) fun w hw => (words_no hc h w hw).1]
theorem numsW_of {ns : List Int} (h : ∀ n ∈ ns, Small n) : NumsW (ns.map itoa) ns := by
  induction ns with
  | nil => exact .nil
  | cons n ns ih => exact .cons (num_of (h n List.mem_cons_self).1 (h n List.mem_cons_self).2).1 (ih fun m hm => h m (List.mem_cons_of_mem _ hm))
/-- A line is read as the act that it shows. -/
theorem line_one {c : Cfg} (hc : CfgOk c) {a : Act} (h : ActOk c a) : r31 (lineOf a) = some (a, true) := by
  have hs := line_split hc h
  obtain ⟨m1, m2⟩ := act_small hc h
  have N : ∀ {n : Int}, Small n → NumW (itoa n) n := fun h => (num_of h.1 h.2).1
  have k0 := h.k0; have k1 := h.k1; have hp := h.path; have hst := h.site; have hlab := h.lab; have hkeep := h.keep; have hcall := h.call; have hline := h.line; have hask := h.ask; have hkl := h.kl; have hc1 := hc.l1; have hln := h.ln
  generalize lineOf a = s at hs ⊢
  obtain ⟨k, n1, n2, n3, n4, ks, x, l⟩ := a
  simp only at k0 k1 hp hst hlab hkeep hcall hline hask hkl hln
  have hk : k = 1 ∨ k = 2 ∨ k = 3 ∨ k = 4 ∨ k = 5 ∨ k = 6 ∨ k = 7 ∨ k = 8 := by omega
  rcases hk with rfl | rfl | rfl | rfl | rfl | rfl | rfl | rfl
  · obtain ⟨rfl, rfl⟩ := hp (by decide) (by decide) (by decide)
    obtain rfl := hkeep (by decide)
    obtain rfl := hline (by decide)
    have q := hask rfl
    obtain ⟨ck, c1, c2, c3, c4⟩ := x
    obtain ⟨q0, q1, -, -, qn, -, -, ql, -, -, qy, -, -, qv⟩ := q
    simp only at q0 q1 qn ql qy qv
    have M1 : Small n1 ∧ Small n3 := by simpa [valuesOf] using m1
    have hck : ck = 1 ∨ ck = 2 ∨ ck = 3 ∨ ck = 4 ∨ ck = 5 := by omega
    rcases hck with rfl | rfl | rfl | rfl | rfl
    · obtain rfl := qn rfl; obtain rfl := ql (by decide); obtain rfl := qy (by decide) (by decide); obtain rfl := qv (by decide)
      exact one_ask1 (N M1.1) (N M1.2) hs
    · obtain rfl := qv (by decide)
      have M2 : Small c1 ∧ Small c2 ∧ Small c3 := by simpa [askedNums] using m2
      exact one_ask2 (N M1.1) (N M1.2) (N M2.1) (N M2.2.1) (N M2.2.2) hs
    · obtain rfl := ql (by decide)
      have M2 : Small c1 ∧ Small c3 ∧ Small c4 := by simpa [askedNums] using m2
      exact one_ask3 (N M1.1) (N M1.2) (N M2.1) (N M2.2.1) (N M2.2.2) hs
    · obtain rfl := ql (by decide); obtain rfl := qy (by decide) (by decide); obtain rfl := qv (by decide)
      have M2 : Small c1 := by simpa [askedNums] using m2
      exact one_ask4 (.inl rfl) (N M1.1) (N M1.2) (N M2) hs
    · obtain rfl := ql (by decide); obtain rfl := qy (by decide) (by decide); obtain rfl := qv (by decide)
      have M2 : Small c1 := by simpa [askedNums] using m2
      exact one_ask4 (.inr rfl) (N M1.1) (N M1.2) (N M2) hs
  · obtain rfl := hkeep (by decide); obtain rfl := hline (by decide); obtain rfl := hcall (by decide)
    have M1 : Small n1 ∧ Small n2 ∧ Small n3 ∧ Small n4 := by simpa [valuesOf] using m1
    exact one_path (.inl rfl) (N M1.1) (N M1.2.1) (N M1.2.2.1) (N M1.2.2.2) hs
  · obtain rfl := hkeep (by decide); obtain rfl := hline (by decide); obtain rfl := hcall (by decide)
    have M1 : Small n1 ∧ Small n2 ∧ Small n3 ∧ Small n4 := by simpa [valuesOf] using m1
    exact one_path (.inr (.inl rfl)) (N M1.1) (N M1.2.1) (N M1.2.2.1) (N M1.2.2.2) hs
  · obtain rfl := hkeep (by decide); obtain rfl := hline (by decide); obtain rfl := hcall (by decide)
    have M1 : Small n1 ∧ Small n2 ∧ Small n3 ∧ Small n4 := by simpa [valuesOf] using m1
    exact one_path (.inr (.inr rfl)) (N M1.1) (N M1.2.1) (N M1.2.2.1) (N M1.2.2.2) hs
  · obtain ⟨rfl, rfl⟩ := hp (by decide) (by decide) (by decide)
    obtain rfl := hkeep (by decide); obtain rfl := hline (by decide); obtain rfl := hcall (by decide); obtain rfl := hst rfl; obtain rfl := hlab (by decide)
    exact one_tick hs
  · obtain ⟨rfl, rfl⟩ := hp (by decide) (by decide) (by decide)
    obtain rfl := hline (by decide); obtain rfl := hcall (by decide); obtain rfl := hlab (by decide)
    have M1 : Small n1 ∧ ∀ n ∈ ks, Small n := by simpa [valuesOf] using m1
    have hs' : r33 (s, [32]) = some (wordOf 6 :: itoa n1 :: ks.map itoa) := by rw [hs]; simp [wordsOf, valuesOf, tailW]
    exact one_crash (N M1.1) (numsW_of M1.2) (by omega) hs'
  · obtain ⟨rfl, rfl⟩ := hp (by decide) (by decide) (by decide)
    obtain rfl := hkeep (by decide); obtain rfl := hline (by decide); obtain rfl := hcall (by decide); obtain rfl := hlab (by decide)
    have M1 : Small n1 := by simpa [valuesOf] using m1
    exact one_start (N M1) hs
  · obtain ⟨rfl, rfl⟩ := hp (by decide) (by decide) (by decide)
    obtain rfl := hkeep (by decide); obtain rfl := hcall (by decide)
    have M1 : Small n1 ∧ Small n3 := by simpa [valuesOf] using m1
    exact one_type (N M1.1) (N M1.2) (by omega) hs
/-! ### many lines -/
theorem cut_is {w r : Txt} (h : (10 : UInt8) ∉ w) (hl : w.length + r.length ≤ 1000000000) : r30 (w ++ 10 :: r, [10]) = some (w, (r, true)) := by
  have hi : r54 (w ++ 10 :: r, [10]) = some (w.length : Int) := by
    show some (indexByte (w ++ 10 :: r) 10) = _
    rw [indexByte_app r h]
  have hw : Go.IntKind.wrap .i64 ((w.length : Int) + ((([10] : Txt).length : Nat) : Int)) = ((w.length + 1 : Nat) : Int) := by
    rw [wrap_i64 (by unfold i64; simp; omega)]; simp
  have k1 : okB none (some (w.length : Int)) none (w ++ 10 :: r).length = true := by simp [okB]; omega
  have k2 : okB (some ((w.length + 1 : Nat) : Int)) none none (w ++ 10 :: r).length = true := by simp [okB]; omega
  have t1 : List.take w.length (w ++ 10 :: r) = w := by simp
  have t2 : List.drop (w.length + 1) (w ++ 10 :: r) = r := by rw [← List.drop_drop]; simp
  unfold r30 r42
  simp only [hi, Option.bind_some, bif_t (decide_eq_true (show (0 : Int) ≤ (w.length : Int) by omega)), hw, bif_t k1, bif_t k2, Int.toNat_natCast, t1, t2]
/-- Good lines are taken in. -/
theorem read_on {c : Cfg} (hc : CfgOk c) {s0 rest : Txt} : ∀ (l : List Act) (i : Nat) (out : List Act), (∀ x ∈ l, ActOk c x) → i + l.length ≤ 2000 → out.length ≤ i → rest.length ≤ 1000000 →
    loopR (r13_L0 (c, s0)) (showT l ++ rest, ((), ((i : Int), out))) = loopR (r13_L0 (c, s0)) (rest, ((), (((i + l.length : Nat) : Int), out ++ l))) := by
  intro l
  induction l with
  | nil => intro i out _ _ _ _; simp [showT]
  | cons x l ih =>
    intro i out hx hi ho hr
    have hxx := hx x List.mem_cons_self
    have hl := (show_is (check_ok hc) (l := l) (by simp only [List.length_cons] at hi; omega) fun y hy => ⟨act_good hc (hx y (List.mem_cons_of_mem _ hy)), act_show hc (hx y (List.mem_cons_of_mem _ hy))⟩).2
    have hln := line_len (act_show hc hxx)
    simp only [List.length_cons] at hi
    have he : showT (x :: l) ++ rest = lineOf x ++ 10 :: (showT l ++ rest) := by simp [showT]
    have hne : decide (lineOf x ++ 10 :: (showT l ++ rest) = ([] : List UInt8)) = false := decide_eq_false (by simp)
    have hcut := cut_is (w := lineOf x) (r := showT l ++ rest) (line_no hc hxx) (by rw [List.length_append]; omega)
    have hw : Go.IntKind.wrap .i64 ((i : Int) + 1) = ((i + 1 : Nat) : Int) := by rw [wrap_i64 (by unfold i64; omega)]; omega
    have hroom : roomOk false out.length 1 120 = true := roomOk_true (by omega)
    have hs : r13_L0 (c, s0) (lineOf x ++ 10 :: (showT l ++ rest), ((), ((i : Int), out))) = some (.inl (showT l ++ rest, ((), (((i + 1 : Nat) : Int), out ++ [x])))) := by
      unfold r13_L0
      simp only [hne, Bool.not_false, cond_true, hcut, Option.bind_some, bif_f (decide_eq_false (show ¬ (i : Int) = 3000 by omega)), line_one hc hxx, Bool.not_true, cond_false, act_good hc hxx, decide_true, hroom, hw, app_eq]
    rw [he, loopR_go, hs, goL_inl, ih (i + 1) _ (fun y hy => hx y (List.mem_cons_of_mem _ hy)) (by omega) (by rw [List.length_append, List.length_singleton]; omega) hr]
    rw [show i + (x :: l).length = i + 1 + l.length by simp only [List.length_cons]; omega]
    simp
end Go.Hl
