/- Acts as lines: what is shown. -/
import Derived.Test.YtmcaghldcabnnaaDoorHlCheck
import Derived.Test.YtmcaghldcabnnaaDoorHlSplit
import Derived.Lib.ItoaLen
namespace Go.Hl
open Go.RowKit Go.Proofs Go.V Go.Lib
abbrev CallT := Int × (Int × (Int × (Int × Int)))
/-- Numbers as they stand in a line: each behind a blank. -/
def nums (l : List Int) : Txt := l.flatMap fun n => 32 :: itoa n
def hexT : Txt := [48, 49, 50, 51, 52, 53, 54, 55, 56, 57, 97, 98, 99, 100, 101, 102]
def hexd (n : Nat) : UInt8 := (hexT[n]?).getD 0
def hexOf (s : Txt) : Txt := s.flatMap fun b => [hexd (b.toNat / 16), hexd (b.toNat % 16)]
def valuesOf (a : Act) : List Int := bif (decide (a.1 = 2) || decide (a.1 = 3)) || decide (a.1 = 4) then [a.2.1, a.2.2.1, a.2.2.2.1, a.2.2.2.2.1] else bif decide (a.1 = 5) then [] else bif decide (a.1 = 6) then a.2.1 :: a.2.2.2.2.2.1 else bif decide (a.1 = 7) then [a.2.1] else [a.2.1, a.2.2.2.1]
def askedNums (x : CallT) : List Int := bif decide (x.1 = 2) then [x.2.1, x.2.2.1, x.2.2.2.1] else bif decide (x.1 = 3) then [x.2.1, x.2.2.2.1, x.2.2.2.2] else bif decide (x.1 = 4) || decide (x.1 = 5) then [x.2.1] else []
def wordOf (k : Int) : Txt := (idxI tab0 k).getD []
def callOf (k : Int) : Txt := (idxI tab1 k).getD []
def tailOf (a : Act) : Txt := bif decide (a.1 = 1) then 32 :: (callOf a.2.2.2.2.2.2.1.1 ++ nums (askedNums a.2.2.2.2.2.2.1)) else bif decide (a.1 = 8) then 32 :: 46 :: hexOf a.2.2.2.2.2.2.2 else []
def lineOf (a : Act) : Txt := wordOf a.1 ++ nums (valuesOf a) ++ tailOf a
/-- An act that can be shown. -/
structure ShowOk (a : Act) : Prop where
  k0 : 1 ≤ a.1
  k1 : a.1 ≤ 8
  s : i64 a.2.1
  t : i64 a.2.2.1
  l : i64 a.2.2.2.1
  p : i64 a.2.2.2.2.1
  kl : a.2.2.2.2.2.1.length ≤ 100
  ke : ∀ n ∈ a.2.2.2.2.2.1, i64 n
  ln : a.2.2.2.2.2.2.2.length ≤ 100
  c : a.1 = 1 → 1 ≤ a.2.2.2.2.2.2.1.1 ∧ a.2.2.2.2.2.2.1.1 ≤ 5
  c1 : i64 a.2.2.2.2.2.2.1.2.1
  c2 : i64 a.2.2.2.2.2.2.1.2.2.1
  c3 : i64 a.2.2.2.2.2.2.1.2.2.2.1
  c4 : i64 a.2.2.2.2.2.2.1.2.2.2.2
theorem itoa_is {n : Int} (h : i64 n) : r24 n = some (itoa n) ∧ (itoa n).length ≤ 21 := by
  unfold i64 at h
  have h1 : -9223372036854775808 ≤ n := by omega
  have h2 : n ≤ 9223372036854775807 := by omega
  refine ⟨?_, itoa_length_le n h1 h2⟩
  show itoaR n = _
  unfold itoaR
  rw [decide_eq_true h1, decide_eq_true h2]; rfl
theorem wstr {bs s : Txt} (h : bs.length + s.length ≤ 1000000000) : r22 (bs, s) = some ((s.length : Int), (true, bs ++ s)) := by
  show (wrS (bs, s)).map _ = _
  unfold wrS
  rw [roomOk_true (by simp only; omega)]; rfl
theorem wbyte {bs : Txt} (h : bs.length ≤ 1000000000) : r27 (bs, 10) = some (true, bs ++ [10]) := by
  show (wrB (bs, 10)).map _ = _
  unfold wrB
  rw [roomOk_true (by simp only; omega)]; rfl
theorem nums_cons (n : Int) (l : List Int) : nums (n :: l) = (32 :: itoa n) ++ nums l := by simp [nums]
theorem nums_len {l : List Int} (h : ∀ n ∈ l, i64 n) : (nums l).length ≤ 22 * l.length := by
  induction l with
  | nil => simp [nums]
  | cons n l ih =>
    have h1 := ih fun x hx => h x (List.mem_cons_of_mem _ hx)
    have h2 := (itoa_is (h n List.mem_cons_self)).2
    rw [nums_cons, List.length_append, List.length_cons, List.length_cons]
    omega
theorem values_is {a : Act} (h : a.2.2.2.2.2.1.length ≤ 100) : r23 a = some (valuesOf a) := by
  unfold r23 valuesOf
  have hr : roomOk false 1 a.2.2.2.2.2.1.length 8 = true := roomOk_true (by omega)
  rw [hr]
  by_cases c2 : a.1 = 2
  · simp [c2]
  by_cases c3 : a.1 = 3
  · simp [c3]
  by_cases c4 : a.1 = 4
  · simp [c4]
  by_cases c5 : a.1 = 5
  · simp [c5]
  by_cases c6 : a.1 = 6
  · simp [c6, app_eq]
  by_cases c7 : a.1 = 7
  · simp [c7]
  simp [c2, c3, c4, c5, c6, c7]
theorem valuesOf_ok {a : Act} (h : ShowOk a) : (∀ n ∈ valuesOf a, i64 n) ∧ (valuesOf a).length ≤ 101 := by
  unfold valuesOf
  cases (decide (a.1 = 2) || decide (a.1 = 3)) || decide (a.1 = 4) with
  | true => exact ⟨by simp only [cond_true, List.forall_mem_cons, List.not_mem_nil, false_imp_iff, implies_true, and_true]; exact ⟨h.s, h.t, h.l, h.p⟩, by simp⟩
  | false =>
    cases decide (a.1 = 5) with
    | true => exact ⟨by simp, by simp⟩
    | false =>
      cases decide (a.1 = 6) with
      | true => exact ⟨by simp only [cond_true, cond_false, List.forall_mem_cons]; exact ⟨h.s, h.ke⟩, by have := h.kl; simp only [cond_true, cond_false, List.length_cons]; omega⟩
      | false =>
        cases decide (a.1 = 7) with
        | true => exact ⟨by simp only [cond_true, cond_false, List.forall_mem_cons, List.not_mem_nil, false_imp_iff, implies_true, and_true]; exact h.s, by simp⟩
        | false => exact ⟨by simp only [cond_false, List.forall_mem_cons, List.not_mem_nil, false_imp_iff, implies_true, and_true]; exact ⟨h.s, h.l⟩, by simp⟩
theorem askedNums_ok {a : Act} (h : ShowOk a) : (∀ n ∈ askedNums a.2.2.2.2.2.2.1, i64 n) ∧ (askedNums a.2.2.2.2.2.2.1).length ≤ 3 := by
  unfold askedNums
  cases decide (a.2.2.2.2.2.2.1.1 = 2) with
  | true => exact ⟨by simp only [cond_true, List.forall_mem_cons, List.not_mem_nil, false_imp_iff, implies_true, and_true]; exact ⟨h.c1, h.c2, h.c3⟩, by simp⟩
  | false =>
    cases decide (a.2.2.2.2.2.2.1.1 = 3) with
    | true => exact ⟨by simp only [cond_true, cond_false, List.forall_mem_cons, List.not_mem_nil, false_imp_iff, implies_true, and_true]; exact ⟨h.c1, h.c3, h.c4⟩, by simp⟩
    | false =>
      cases decide (a.2.2.2.2.2.2.1.1 = 4) || decide (a.2.2.2.2.2.2.1.1 = 5) with
      | true => exact ⟨by simp only [cond_true, cond_false, List.forall_mem_cons, List.not_mem_nil, false_imp_iff, implies_true, and_true]; exact h.c1, by simp⟩
      | false => exact ⟨by simp, by simp⟩
theorem drop_cons {β : Type} {xs : List β} {i : Nat} {x : β} (h : xs[i]? = some x) : xs.drop i = x :: xs.drop (i + 1) := by
  obtain ⟨h1, h2⟩ := List.getElem?_eq_some_iff.mp h
  rw [List.drop_eq_getElem_cons h1, h2]
theorem asked_loop {xs : List Int} (hx : ∀ n ∈ xs, i64 n) (hl : xs.length ≤ 1000) : ∀ (n i : Nat) (bs : Txt), i + n = xs.length → bs.length ≤ 100000 - 22 * n →
    n ≤ 1000 → loopR (r25_L0 ((), xs)) (bs, (i : Int)) = some (bs ++ nums (xs.drop i)) := by
  intro n
  induction n with
  | zero =>
    intro i bs hi hb _
    rw [loopR_go]
    unfold r25_L0
    rw [bif_f (decide_eq_false (by simp only; omega)), goL_inr, List.drop_of_length_le (by omega)]
    simp [nums]
  | succ n ih =>
    intro i bs hi hb hn
    obtain ⟨x, e1, e2⟩ := idxN_is (xs := xs) (n := i) (by omega)
    obtain ⟨q1, q2⟩ := itoa_is (hx x (List.mem_of_getElem? e2))
    have hw : Go.IntKind.wrap .i64 ((i : Int) + 1) = ((i + 1 : Nat) : Int) := by rw [wrap_i64 (by unfold i64; omega)]; omega
    have hstep : r25_L0 ((), xs) (bs, (i : Int)) = some (.inl (bs ++ ([32] ++ itoa x), ((i + 1 : Nat) : Int))) := by
      unfold r25_L0
      have d1 : decide (([32] : Txt).length + (itoa x).length ≤ 9223372036854775807) = true := decide_eq_true (by simp only [List.length_singleton]; omega)
      have d2 : decide (bs.length + (([32] : Txt) ++ itoa x).length ≤ 9223372036854775807) = true := decide_eq_true (by rw [List.length_append, List.length_singleton]; omega)
      simp only [bif_t (decide_eq_true (show (i : Int) < (xs.length : Int) by omega)), bif_t (inB_true (n := (i : Int)) (l := xs.length) (by omega) (by omega)), Int.toNat_natCast, e1, q1, Option.bind_some, bif_t d1, bif_t d2, hw]
    rw [loopR_go, hstep, goL_inl, ih (i + 1) _ (by omega) (by simp only [List.length_append, List.length_singleton]; omega) (by omega), drop_cons e2, nums_cons]
    simp
theorem call_word {k : Int} (h0 : 1 ≤ k) (h1 : k ≤ 5) : idxI tab1 k = some (callOf k) ∧ (callOf k).length ≤ 8 := by
  have : k = 1 ∨ k = 2 ∨ k = 3 ∨ k = 4 ∨ k = 5 := by omega
  rcases this with rfl | rfl | rfl | rfl | rfl <;> exact ⟨rfl, by decide⟩
theorem act_word {k : Int} (h0 : 1 ≤ k) (h1 : k ≤ 8) : idxI tab0 k = some (wordOf k) ∧ (wordOf k).length ≤ 8 := by
  have : k = 1 ∨ k = 2 ∨ k = 3 ∨ k = 4 ∨ k = 5 ∨ k = 6 ∨ k = 7 ∨ k = 8 := by omega
  rcases this with rfl | rfl | rfl | rfl | rfl | rfl | rfl | rfl <;> exact ⟨rfl, by decide⟩
theorem asked_is {a : Act} (h : ShowOk a) (hk : a.1 = 1) : r25 a.2.2.2.2.2.2.1 = some (32 :: (callOf a.2.2.2.2.2.2.1.1 ++ nums (askedNums a.2.2.2.2.2.2.1))) := by
  obtain ⟨w1, w2⟩ := call_word (h.c hk).1 (h.c hk).2
  have hn := askedNums_ok h
  unfold r25
  have d1 : decide (([32] : Txt).length + (callOf a.2.2.2.2.2.2.1.1).length ≤ 9223372036854775807) = true := decide_eq_true (by simp only [List.length_singleton]; omega)
  simp only [w1, Option.bind_some, bif_t d1]
  have hd : (bif decide (a.2.2.2.2.2.2.1.1 = (2 : Int)) then
          some ((), [a.2.2.2.2.2.2.1.2.1, a.2.2.2.2.2.2.1.2.2.1, a.2.2.2.2.2.2.1.2.2.2.1])
        else
          bif decide (a.2.2.2.2.2.2.1.1 = (3 : Int)) then
            some ((), [a.2.2.2.2.2.2.1.2.1, a.2.2.2.2.2.2.1.2.2.2.1, a.2.2.2.2.2.2.1.2.2.2.2])
          else
            Option.bind (
              bif decide (a.2.2.2.2.2.2.1.1 = (4 : Int)) then
                some (decide (a.2.2.2.2.2.2.1.1 = (4 : Int)))
              else
                some (decide (a.2.2.2.2.2.2.1.1 = (5 : Int)))) fun (d4 : Bool) =>
              bif d4 then
                some ((), [a.2.2.2.2.2.2.1.2.1])
              else
                some ((), [])) = some ((), askedNums a.2.2.2.2.2.2.1) := by
    unfold askedNums
    cases decide (a.2.2.2.2.2.2.1.1 = 2) with
    | true => rfl
    | false => cases decide (a.2.2.2.2.2.2.1.1 = 3) with
      | true => rfl
      | false => cases decide (a.2.2.2.2.2.2.1.1 = 4) with
        | true => rfl
        | false => cases decide (a.2.2.2.2.2.2.1.1 = 5) <;> rfl
  rw [hd, Option.bind_some]
  have hl := asked_loop hn.1 (by omega) (askedNums a.2.2.2.2.2.2.1).length 0 ([32] ++ callOf a.2.2.2.2.2.2.1.1) (by omega) (by rw [List.length_append, List.length_singleton]; omega) (by omega)
  have hl' : loopR (r25_L0 ((), askedNums a.2.2.2.2.2.2.1)) ([32] ++ callOf a.2.2.2.2.2.2.1.1, (0 : Int)) = _ := hl
  rw [hl', Option.bind_some]
  simp
theorem hex_at : ∀ n : Nat, n < 256 → idxI hexT (Int.fdiv (n : Int) (2 ^ 4)) = some (hexd (n / 16)) ∧ idxI hexT (Go.bits .and .u8 (n : Int) (15 : Int)) = some (hexd (n % 16)) := by decide +kernel
theorem hex_loop {s : Txt} (hs : s.length ≤ 1000) : ∀ (n i : Nat) (out : Txt), i + n = s.length → out.length ≤ 10000 - 2 * n →
    loopR (r26_L0 s) ((), ((i : Int), out.map fun b => (b.toNat : Int))) = some ((), (out ++ hexOf (s.drop i)).map fun b => (b.toNat : Int)) := by
  intro n
  induction n with
  | zero =>
    intro i out hi hb
    rw [loopR_go]
    unfold r26_L0
    rw [bif_f (decide_eq_false (by simp only; omega)), goL_inr, List.drop_of_length_le (by omega)]
    simp [hexOf]
  | succ n ih =>
    intro i out hi hb
    obtain ⟨x, e1, e2⟩ := idxN_is (xs := s) (n := i) (by omega)
    obtain ⟨q1, q2⟩ := hex_at x.toNat x.toNat_lt
    have hw : Go.IntKind.wrap .i64 ((i : Int) + 1) = ((i + 1 : Nat) : Int) := by rw [wrap_i64 (by unfold i64; omega)]; omega
    have e0 : idxI s (i : Int) = some x := by rw [idxI_nn]; exact e2
    have hstep : r26_L0 s ((), ((i : Int), out.map fun b => (b.toNat : Int))) = some (.inl ((), (((i + 1 : Nat) : Int), (out ++ [hexd (x.toNat / 16), hexd (x.toNat % 16)]).map fun b => (b.toNat : Int)))) := by
      unfold r26_L0
      unfold hexT at q1 q2
      simp only [bif_t (decide_eq_true (show (i : Int) < (s.length : Int) by omega)), e0, Option.bind_some, q1, q2, hw]
      rw [roomOk_true (by rw [List.length_map]; omega), app_eq]
      simp
    rw [loopR_go, hstep, goL_inl, ih (i + 1) _ (by omega) (by simp only [List.length_append, List.length_cons, List.length_nil]; omega), drop_cons e2]
    simp [hexOf]
theorem bytes_back (l : Txt) : (l.map fun b => (b.toNat : Int)).map byte8 = l := by
  rw [List.map_map]
  conv => rhs; rw [← List.map_id l]
  apply List.map_congr_left
  intro b _
  simp [byte8]
theorem hex_is {s : Txt} (hs : s.length ≤ 1000) : r26 s = some (46 :: hexOf s) := by
  have h := hex_loop hs s.length 0 [46] (by omega) (by simp; omega)
  have h' : loopR (r26_L0 s) ((), ((0 : Int), [(46 : Int)])) = some ((), (([46] : Txt) ++ hexOf s).map fun b => (b.toNat : Int)) := h
  unfold r26
  rw [h', Option.bind_some]
  simp only [bytes_back]
  rfl
theorem hexOf_len (s : Txt) : (hexOf s).length = 2 * s.length := by
  induction s with
  | nil => rfl
  | cons b s ih => simp [hexOf] at ih ⊢; omega
theorem tail_len {a : Act} (h : ShowOk a) : (tailOf a).length ≤ 300 := by
  unfold tailOf
  by_cases c1 : a.1 = 1
  · have := (call_word (h.c c1).1 (h.c c1).2).2
    have hn := askedNums_ok h
    have := nums_len hn.1
    rw [decide_eq_true c1]
    simp only [cond_true, List.length_cons, List.length_append]
    omega
  · rw [decide_eq_false c1]
    cases decide (a.1 = 8) with
    | true => have := h.ln; have := hexOf_len a.2.2.2.2.2.2.2; simp only [cond_true, cond_false, List.length_cons]; omega
    | false => simp
theorem line_len {a : Act} (h : ShowOk a) : (lineOf a).length ≤ 2600 := by
  have h1 := (act_word h.k0 h.k1).2
  have h2 := valuesOf_ok h
  have h3 := nums_len h2.1
  have h4 := tail_len h
  unfold lineOf
  rw [List.length_append, List.length_append]
  omega
theorem show_nums {xs : List Int} (hx : ∀ n ∈ xs, i64 n) (hl : xs.length ≤ 1000) : ∀ (n i : Nat) (bs : Txt), i + n = xs.length → bs.length ≤ 100000000 - 22 * n → n ≤ 1000 →
    loopR (r11_L0 xs) ((), ((i : Int), bs)) = some ((), bs ++ nums (xs.drop i)) := by
  intro n
  induction n with
  | zero =>
    intro i bs hi hb _
    rw [loopR_go]
    unfold r11_L0
    rw [bif_f (decide_eq_false (by simp only; omega)), goL_inr, List.drop_of_length_le (by omega)]
    simp [nums]
  | succ n ih =>
    intro i bs hi hb hn
    obtain ⟨x, e1, e2⟩ := idxN_is (xs := xs) (n := i) (by omega)
    obtain ⟨q1, q2⟩ := itoa_is (hx x (List.mem_of_getElem? e2))
    have hw : Go.IntKind.wrap .i64 ((i : Int) + 1) = ((i + 1 : Nat) : Int) := by rw [wrap_i64 (by unfold i64; omega)]; omega
    have hstep : r11_L0 xs ((), ((i : Int), bs)) = some (.inl ((), (((i + 1 : Nat) : Int), bs ++ ([32] ++ itoa x)))) := by
      unfold r11_L0
      have d1 : decide (([32] : Txt).length + (itoa x).length ≤ 9223372036854775807) = true := decide_eq_true (by simp only [List.length_singleton]; omega)
      have d2 := wstr (bs := bs) (s := [32] ++ itoa x) (by rw [List.length_append, List.length_singleton]; omega)
      simp only [bif_t (decide_eq_true (show (i : Int) < (xs.length : Int) by omega)), bif_t (inB_true (n := (i : Int)) (l := xs.length) (by omega) (by omega)), Int.toNat_natCast, e1, q1, Option.bind_some, bif_t d1, d2, hw]
    rw [loopR_go, hstep, goL_inl, ih (i + 1) _ (by omega) (by simp only [List.length_append, List.length_singleton]; omega) (by omega), drop_cons e2, nums_cons]
    simp
theorem show_step {c : Cfg} {l : List Act} {i : Nat} {x : Act} {bs : Txt} (hx : l[i]? = some x) (hi : l.length ≤ 3000) (hc : r21 (c, x) = some 0) (h : ShowOk x) (hb : bs.length ≤ 50000000) :
    r11_L1 (c, l) ((), ((i : Int), bs)) = some (.inl ((), (((i + 1 : Nat) : Int), bs ++ (lineOf x ++ [10])))) := by
  have hlt : i < l.length := (List.getElem?_eq_some_iff.mp hx).1
  have e0 : idxI l (i : Int) = some x := by rw [idxI_nn]; exact hx
  obtain ⟨w1, w2⟩ := act_word h.k0 h.k1
  obtain ⟨v1, v2⟩ := valuesOf_ok h
  have v3 := nums_len v1
  have v4 := tail_len h
  have hw : Go.IntKind.wrap .i64 ((i : Int) + 1) = ((i + 1 : Nat) : Int) := by rw [wrap_i64 (by unfold i64; omega)]; omega
  have s1 := wstr (bs := bs) (s := wordOf x.1) (by omega)
  have s2 := show_nums v1 (by omega) (valuesOf x).length 0 (bs ++ wordOf x.1) (by omega) (by rw [List.length_append]; omega) (by omega)
  have s2' : loopR (r11_L0 (valuesOf x)) ((), ((0 : Int), bs ++ wordOf x.1)) = some ((), bs ++ wordOf x.1 ++ nums (valuesOf x)) := s2
  have s3 := wbyte (bs := bs ++ wordOf x.1 ++ nums (valuesOf x) ++ tailOf x) (by simp only [List.length_append]; omega)
  unfold r11_L1
  simp only [bif_t (decide_eq_true (show (i : Int) < (l.length : Int) by omega)), e0, Option.bind_some, hc, decide_true, Bool.not_true, cond_false, w1, s1, values_is h.kl, s2', hw]
  by_cases c1 : x.1 = 1
  · have t : tailOf x = 32 :: (callOf x.2.2.2.2.2.2.1.1 ++ nums (askedNums x.2.2.2.2.2.2.1)) := by unfold tailOf; rw [decide_eq_true c1]; rfl
    have s4 := wstr (bs := bs ++ wordOf x.1 ++ nums (valuesOf x)) (s := tailOf x) (by simp only [List.length_append]; omega)
    rw [decide_eq_true c1]
    simp only [cond_true, asked_is h c1, ← t, Option.bind_some, s4, s3]
    simp [lineOf]
  · by_cases c8 : x.1 = 8
    · have t : tailOf x = [32] ++ (46 :: hexOf x.2.2.2.2.2.2.2) := by unfold tailOf; rw [decide_eq_false c1, decide_eq_true c8]; rfl
      have s4 := wstr (bs := bs ++ wordOf x.1 ++ nums (valuesOf x)) (s := tailOf x) (by simp only [List.length_append]; omega)
      have hln := h.ln
      have d1 : decide (([32] : Txt).length + (46 :: hexOf x.2.2.2.2.2.2.2).length ≤ 9223372036854775807) = true := decide_eq_true (by
        have := hexOf_len x.2.2.2.2.2.2.2
        simp only [List.length_nil, List.length_cons]; omega)
      rw [decide_eq_false c1, decide_eq_true c8]
      simp only [cond_true, cond_false, hex_is (s := x.2.2.2.2.2.2.2) (by omega), bif_t d1, ← t, Option.bind_some, s4, s3]
      simp [lineOf]
    · have t : tailOf x = [] := by unfold tailOf; rw [decide_eq_false c1, decide_eq_false c8]; rfl
      rw [t, List.append_nil] at s3
      rw [decide_eq_false c1, decide_eq_false c8]
      simp only [cond_false, Option.bind_some, s3]
      simp [lineOf, t]
def showT (l : List Act) : Txt := l.flatMap fun x => lineOf x ++ [10]
theorem show_loop {c : Cfg} {l : List Act} (hl : l.length ≤ 3000) (hc : ∀ x ∈ l, r21 (c, x) = some 0 ∧ ShowOk x) : ∀ (n i : Nat) (bs : Txt), i + n = l.length → bs.length ≤ 2601 * i →
    loopR (r11_L1 (c, l)) ((), ((i : Int), bs)) = some (.inl ((), bs ++ showT (l.drop i))) := by
  intro n
  induction n with
  | zero =>
    intro i bs hi hb
    rw [loopR_go]
    unfold r11_L1
    rw [bif_f (decide_eq_false (by simp only; omega)), goL_inr, List.drop_of_length_le (by omega)]
    simp [showT]
  | succ n ih =>
    intro i bs hi hb
    obtain ⟨x, e1, e2⟩ := idxN_is (xs := l) (n := i) (by omega)
    obtain ⟨h1, h2⟩ := hc x (List.mem_of_getElem? e2)
    have h3 := line_len h2
    rw [loopR_go, show_step e2 hl h1 h2 (by omega), goL_inl, ih (i + 1) _ (by omega) (by simp only [List.length_append, List.length_singleton]; omega), drop_cons e2]
    simp [showT]
theorem show_is {c : Cfg} (hcf : r20 c = some 0) {l : List Act} (hl : l.length ≤ 3000) (hc : ∀ x ∈ l, r21 (c, x) = some 0 ∧ ShowOk x) :
    r11 (c, l) = some (showT l, (0, 0)) ∧ (showT l).length ≤ 2601 * l.length := by
  have h := show_loop hl hc l.length 0 [] (by omega) (by simp)
  have h' : loopR (r11_L1 (c, l)) ((), ((0 : Int), ([] : List UInt8))) = some (.inl ((), showT l)) := h
  constructor
  · unfold r11
    simp only [hcf, Option.bind_some, decide_true, Bool.not_true, cond_false, bif_f (decide_eq_false (show ¬ (3000 : Int) < (l.length : Int) by omega)), h', Sum.elim_inl]
    rfl
  · clear h h'
    induction l with
    | nil => simp [showT]
    | cons x l ih =>
      have h1 := line_len (hc x List.mem_cons_self).2
      have h2 := ih (by simp at hl; omega) fun y hy => hc y (List.mem_cons_of_mem _ hy)
      simp only [showT, List.flatMap_cons, List.length_append, List.length_nil, List.length_cons] at h2 hl ⊢
      omega
/-- A made act can be shown. -/
theorem act_show {c : Cfg} (hc : CfgOk c) {a : Act} (h : ActOk c a) : ShowOk a := by
  have s0 := hc.s0; have s1 := hc.s1; have l1 := hc.l1
  have := h.s0; have := h.s1; have := h.t0; have := h.t1; have := h.l0; have := h.l1; have := h.p0; have := h.p1; have := h.kl; have := h.ln
  have hcall : CallOk a.2.2.2.2.2.2.1 ∨ a.2.2.2.2.2.2.1 = (0, 0, 0, 0, 0) := by
    by_cases k : a.1 = 1
    · exact .inl (h.ask k)
    · exact .inr (h.call k)
  refine ⟨h.k0, h.k1, by unfold i64; omega, by unfold i64; omega, by unfold i64; omega, by unfold i64; omega, by omega, fun n hn => by have := h.ke n hn; unfold i64; omega, by omega, fun k => ⟨(h.ask k).k0, (h.ask k).k1⟩, ?_, ?_, ?_, ?_⟩ <;>
    rcases hcall with q | q <;> first
      | (have := q.n0; have := q.n1; have := q.l0; have := q.l1; have := q.y0; have := q.y1; have := q.v0; have := q.v1; unfold i64; omega)
      | (rw [q]; unfold i64; simp only; omega)
end Go.Hl
