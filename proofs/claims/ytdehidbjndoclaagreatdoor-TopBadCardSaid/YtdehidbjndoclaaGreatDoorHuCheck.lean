/- Acts that may be. -/
import Derived.Test.YtdehidbjndoclaaGreatDoorHuActs
namespace Go.Hu
open Go.RowKit Go.Proofs Go.V
def keepOk (n : Int) : Bool := !(decide (n < 0) || decide (6000 < n))
/-- Numbers of an act out of their range. -/
def numsBad (c : Cfg) (a : Act) : Bool :=
  (((((((decide (a.2.1 < 0) || decide (c.1 ≤ a.2.1)) || decide (a.2.2.1 < 0)) || decide (c.1 ≤ a.2.2.1)) || decide (a.2.2.2.1 < 0)) || decide ((c.2.1.length : Int) ≤ a.2.2.2.1)) || decide (a.2.2.2.2.1 < 0)) || decide (1048576 < a.2.2.2.2.1)) ||
    decide ((c.2.1.length : Int) < a.2.2.2.2.2.1.length) || decide (60 < (a.2.2.2.2.2.2.2.length : Int))
theorem keep_all (c : Cfg) (a : Act) (hl : a.2.2.2.2.2.1.length ≤ 9223372036854775807) :
    (Option.bind (loopR (r21_L0 (c, a)) (0 : Int)) fun (q : (Unit ⊕ Int)) => Sum.elim (fun (_ : Unit) => some (-1 : Int)) (fun (v : Int) => some v) q).map (fun n => !(decide ((0 : Int) ≤ n))) = some (a.2.2.2.2.2.1.all keepOk) := by
  obtain ⟨r, h1, h2⟩ := loop_rule (body := r21_L0 (c, a)) (fun i => 0 ≤ i ∧ i ≤ a.2.2.2.2.2.1.length ∧ (a.2.2.2.2.2.1.take i.toNat).all keepOk = true) (fun i => a.2.2.2.2.2.1.length - i.toNat)
    (fun r => (r = .inl () ∧ a.2.2.2.2.2.1.all keepOk = true) ∨ ∃ i, r = .inr i ∧ 0 ≤ i ∧ a.2.2.2.2.2.1.all keepOk = false) (fun i hi => by
      obtain ⟨i0, i1, i2⟩ := hi
      unfold r21_L0
      simp only [bif_some, or_bif, Option.bind_some]
      by_cases c : i < a.2.2.2.2.2.1.length
      · obtain ⟨x, e1, e2⟩ := idxI_is i0 c
        have hw : Go.IntKind.wrap .i64 (i + 1) = i + 1 := wrap_i64 (by unfold i64; omega)
        rw [decide_eq_true c]
        simp only [cond_true, e1, Option.bind_some, hw]
        cases k : (decide (x < 0) || decide (6000 < x)) with
        | true =>
          refine .inr ⟨_, rfl, .inr ⟨i, rfl, i0, ?_⟩⟩
          rw [List.all_eq_false]
          exact ⟨x, List.mem_of_getElem? e2, by unfold keepOk; rw [k]; simp⟩
        | false =>
          refine .inl ⟨i + 1, rfl, ⟨by omega, by omega, ?_⟩, by omega⟩
          rw [show (i + 1).toNat = i.toNat + 1 by omega, List.take_add_one, e2, List.all_append, i2]
          simp [keepOk, k]
      · rw [decide_eq_false c]
        rw [List.take_of_length_le (by omega)] at i2
        exact .inr ⟨_, rfl, .inl ⟨rfl, i2⟩⟩) 0 (by simp)
  rw [h1]
  rcases h2 with ⟨rfl, h3⟩ | ⟨i, rfl, h3, h4⟩
  · rw [h3]; rfl
  · rw [h4]
    show some (!(decide ((0 : Int) ≤ i))) = _
    rw [decide_eq_true h3]; rfl
theorem numbers_is (c : Cfg) (a : Act) (hl : a.2.2.2.2.2.1.length ≤ 9223372036854775807) : r21 (c, a) = some (!numsBad c a && a.2.2.2.2.2.1.all keepOk) := by
  have hk := keep_all c a hl
  unfold r21
  simp only [bif_some, or_bif, Option.bind_some]
  change (Option.bind (some (numsBad c a)) fun d => bif d then some false else _) = _
  cases numsBad c a with
  | true => rfl
  | false =>
    simp only [cond_false, Bool.not_false, Bool.true_and]
    rw [← hk]
    cases Option.bind (loopR (r21_L0 (c, a)) (0 : Int)) fun (q : (Unit ⊕ Int)) => Sum.elim (fun (_ : Unit) => some (-1 : Int)) (fun (v : Int) => some v) q <;> rfl
def pathB (k : Int) : Bool := (decide (k = 2) || decide (k = 3)) || decide (k = 4)
def noCall (x : Int × (Int × (Int × (Int × Int)))) : Bool := decide (x.1 = (0 : Int)) && (decide (x.2.1 = (0 : Int)) && (decide (x.2.2.1 = (0 : Int)) && (decide (x.2.2.2.1 = (0 : Int)) && (decide (x.2.2.2.2 = (0 : Int)) && true))))
/-- An act has what its kind has. -/
def bareB (a : Act) : Bool :=
  ((((((pathB a.1 || !decide (a.1 = 5)) || decide (a.2.1 = 0)) && (((pathB a.1 || decide (a.1 = 1)) || decide (a.1 = 8)) || decide (a.2.2.2.1 = 0))) && (pathB a.1 || (decide (a.2.2.1 = 0) && decide (a.2.2.2.2.1 = 0)))) && (decide (a.1 = 6) || decide ((a.2.2.2.2.2.1.length : Int) = 0))) &&
    (decide (a.1 = 1) || noCall a.2.2.2.2.2.2.1)) && (decide (a.1 = 8) || decide (a.2.2.2.2.2.2.2 = ([] : List UInt8)))
theorem bare_is (a : Act) : r22 a = some (bareB a) := by
  unfold r22
  simp only [bif_some, or_bif, and_bif, Option.bind_some]
  unfold bareB noCall pathB
  simp
/-- What the numbers of a call may be. -/
def callBad (x : Int × (Int × (Int × (Int × Int)))) : Bool :=
  ((((((decide (x.2.1 < 0) || decide (1048576 < x.2.1)) || decide (x.2.2.1 < 0)) || decide (6 ≤ x.2.2.1)) || decide (x.2.2.2.1 < 0)) || decide (8 < x.2.2.2.1)) || decide (x.2.2.2.2 < 0)) || decide (1073741824 < x.2.2.2.2)
/-- What a call of its kind would have. -/
def callFill (x : Int × (Int × (Int × (Int × Int)))) : Int × (Int × (Int × (Int × Int))) :=
  (x.1, (bif decide (x.1 = 1) then 0 else x.2.1), (bif decide (x.1 = 2) then x.2.2.1 else 0), (bif decide (x.1 = 2) then x.2.2.2.1 else bif decide (x.1 = 3) then x.2.2.2.1 else 0), (bif decide (x.1 = 2) then 0 else bif decide (x.1 = 3) then x.2.2.2.2 else 0))
def callSame (x : Int × (Int × (Int × (Int × Int)))) : Bool :=
  decide (x.1 = (callFill x).1) && (decide (x.2.1 = (callFill x).2.1) && (decide (x.2.2.1 = (callFill x).2.2.1) && (decide (x.2.2.2.1 = (callFill x).2.2.2.1) && (decide (x.2.2.2.2 = (callFill x).2.2.2.2) && true))))
theorem bif_not4 (b : Bool) : (bif !b then (4 : Int) else 0) = bif b then 0 else 4 := by cases b <;> rfl
theorem call_is (x : Int × (Int × (Int × (Int × Int)))) : r23 x = some (bif decide (x.1 < 1) || decide (5 < x.1) then 3 else bif callBad x then 2 else bif callSame x then 0 else 4) := by
  unfold r23
  simp only [bif_some, or_bif, Option.bind_some]
  congr 1
  cases decide (x.1 < 1) || decide (5 < x.1) with
  | true => rfl
  | false =>
    simp only [cond_false]
    change (bif callBad x then 2 else _) = _
    cases callBad x with
    | true => rfl
    | false =>
      simp only [cond_false]
      obtain ⟨k, n, l, y, v⟩ := x
      rw [bif_not4]
      unfold callSame callFill
      simp only
      by_cases c1 : k = 1
      · subst c1; rfl
      by_cases c2 : k = 2
      · subst c2; rfl
      by_cases c3 : k = 3
      · subst c3; rfl
      simp only [decide_eq_false c1, decide_eq_false c2, decide_eq_false c3, cond_false, Bool.not_false, cond_true]
/-- What becomes of an act. -/
def actErr (c : Cfg) (a : Act) : Int :=
  bif decide (a.1 < 1) || decide (8 < a.1) then 3 else bif !(!numsBad c a && a.2.2.2.2.2.1.all keepOk) then 2 else bif !bareB a then 4 else bif decide (a.1 = 1) then bif decide (a.2.2.2.2.2.2.1.1 < 1) || decide (5 < a.2.2.2.2.2.2.1.1) then 3 else bif callBad a.2.2.2.2.2.2.1 then 2 else bif callSame a.2.2.2.2.2.2.1 then 0 else 4 else 0
theorem actCheck_is {c : Cfg} (hc : CfgOk c) (a : Act) (hl : a.2.2.2.2.2.1.length ≤ 9223372036854775807) : r13 (c, a) = some (actErr c a) := by
  unfold r13
  simp only [check_ok hc, numbers_is c a hl, bare_is, call_is, Option.bind_some, bif_some, or_bif]
  rfl
theorem callOk_same {x : Int × (Int × (Int × (Int × Int)))} (h : CallOk x) : (decide (x.1 < 1) || decide (5 < x.1)) = false ∧ callBad x = false ∧ callSame x = true := by
  obtain ⟨k0, k1, n0, n1, n, l0, l1, l, y0, y1, y, v0, v1, v⟩ := h
  refine ⟨by simp; omega, by unfold callBad; simp; omega, ?_⟩
  unfold callSame callFill
  simp only [Bool.and_true, Bool.and_eq_true, decide_eq_true_eq, true_and]
  refine ⟨?_, ?_, ?_, ?_⟩
  · cases e : decide (x.1 = 1) with
    | true => exact n (of_decide_eq_true e)
    | false => rfl
  · cases e : decide (x.1 = 2) with
    | true => rfl
    | false => exact l (of_decide_eq_false e)
  · cases e : decide (x.1 = 2) with
    | true => rfl
    | false =>
      cases e3 : decide (x.1 = 3) with
      | true => rfl
      | false => exact y (of_decide_eq_false e) (of_decide_eq_false e3)
  · cases e3 : decide (x.1 = 3) with
    | true =>
      have : x.1 = 3 := of_decide_eq_true e3
      rw [this]; rfl
    | false =>
      have := v (of_decide_eq_false e3)
      cases e : decide (x.1 = 2) <;> exact this
/-- A made act is a good one. -/
theorem act_good {c : Cfg} (hc : CfgOk c) {a : Act} (h : ActOk c a) : r13 (c, a) = some 0 := by
  have hl := h.kl
  have hc1 := hc.l1
  rw [actCheck_is hc a (by omega)]
  have e1 : (decide (a.1 < 1) || decide (8 < a.1)) = false := by have := h.k0; have := h.k1; simp; omega
  have e2 : numsBad c a = false := by
    have := h.s0; have := h.s1; have := h.t0; have := h.t1; have := h.l0; have := h.l1; have := h.p0; have := h.p1; have := h.ln
    unfold numsBad
    simp
    omega
  have e3 : a.2.2.2.2.2.1.all keepOk = true := by
    rw [List.all_eq_true]
    intro n hn
    have := h.ke n hn
    unfold keepOk
    simp
    omega
  have e4 : bareB a = true := by
    have p1 := h.path; have p2 := h.site; have p3 := h.lab; have p4 := h.keep; have p5 := h.call; have p6 := h.line
    unfold bareB pathB
    simp only [Bool.and_eq_true, Bool.or_eq_true, Bool.not_eq_true', decide_eq_true_eq, decide_eq_false_iff_not]
    have k0 := h.k0
    have k1 := h.k1
    refine ⟨⟨⟨⟨⟨?_, ?_⟩, ?_⟩, ?_⟩, ?_⟩, ?_⟩
    · by_cases k : a.1 = 5
      · exact .inr (p2 k)
      · exact .inl (.inr k)
    · by_cases k : a.1 = 5 ∨ a.1 = 6 ∨ a.1 = 7
      · exact .inr (p3 k)
      · omega
    · by_cases k : (a.1 = 2 ∨ a.1 = 3) ∨ a.1 = 4
      · exact .inl k
      · exact .inr (p1 (by omega) (by omega) (by omega))
    · by_cases k : a.1 = 6
      · exact .inl k
      · exact .inr (by rw [p4 k]; rfl)
    · by_cases k : a.1 = 1
      · exact .inl k
      · exact .inr (by rw [p5 k]; rfl)
    · by_cases k : a.1 = 8
      · exact .inl k
      · exact .inr (p6 k)
  unfold actErr
  rw [e1, e2, e3, e4]
  simp only [cond_false, Bool.not_false, Bool.and_self, Bool.not_true]
  by_cases k : a.1 = 1
  · obtain ⟨c1, c2, c3⟩ := callOk_same (h.ask k)
    rw [decide_eq_true k, c1, c2, c3]; rfl
  · rw [decide_eq_false k]; rfl
end Go.Hu
