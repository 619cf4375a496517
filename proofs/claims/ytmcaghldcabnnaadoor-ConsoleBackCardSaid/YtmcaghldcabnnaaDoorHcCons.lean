/- What operators type: what console.Read comes to; its two laws. -/
import Derived.Test.YtmcaghldcabnnaaDoorHcSplit
import Derived.Test.YtmcaghldcabnnaaDoorHaLaw
namespace Go.Hc
open Go.V Go.Lib

theorem nx_len (x : Txt) (l : List Txt) : decide ((((x :: l).length : Nat) : Int) = 0) = false := decide_eq_false (by rw [List.length_cons]; omega)
theorem nx_nil : decide ((((([] : List Txt)).length : Nat) : Int) = 0) = true := rfl
theorem nx_in (x : Txt) (l : List Txt) : inB 0 (x :: l).length = true := inB_true (by omega) (by rw [List.length_cons]; omega)
theorem nx_idx (x : Txt) (l : List Txt) : idxN (x :: l) 0 = some x := rfl
theorem nx_ok (x : Txt) (l : List Txt) : okB (some 1) none none (x :: l).length = true := by simp [okB]; omega
theorem nx_mid (x : Txt) (l : List Txt) : midL (x :: l) 1 ((x :: l).length - 1) = l := by simp [midL]
theorem nx_more (x : Txt) (l : List Txt) : decide ((0 : Int) < (((x :: l).length : Nat) : Int)) = true := decide_eq_true (by rw [List.length_cons]; omega)
theorem nx_none : decide ((0 : Int) < (((([] : List Txt)).length : Nat) : Int)) = false := rfl

theorem atoi_at {s : Txt} (h : s.length ≤ 100) : r49 s = some (atoiV s) := by
  unfold r49 atoiR
  rw [bif_t (decide_eq_true (by omega))]
theorem itoa_at {n : Int} (h : i64 n) : r24 n = some (itoa n) := by
  unfold i64 at h
  unfold r24 itoaR
  rw [bif_t (by simp only [Bool.and_eq_true, decide_eq_true_eq]; exact h)]

theorem atoi_num {u : Nat} (h : u ≤ 1048577) : r49 (decDigits u) = some ((u : Int), true) := by
  rw [atoi_at (by have := decDigits_len u 9 (by omega); omega), atoi_dec (by omega)]
theorem itoa_num {u : Nat} (h : u ≤ 1048577) : r24 (u : Int) = some (decDigits u) := by
  rw [itoa_at (by unfold i64; omega), itoa_nat]

theorem nx_tail (l : List Txt) : midL l 1 (l.length - 1) = l.tail := by cases l <;> simp [midL]

theorem atoi_i64 (s : Txt) : i64 (atoiV s).1 := by
  unfold atoiV i64
  cases h : atoiAll s with
  | ok v =>
    simp only
    unfold atoiAll at h
    cases s with
    | nil => cases h
    | cons c r =>
      simp only at h
      generalize parseMag (if c.toNat = 43 ∨ c.toNat = 45 then r else c :: r) = e at h
      cases e with
      | ok u =>
        simp only at h
        split at h
        · cases h
        · split at h
          · cases h
          · cases h
            split <;> omega
      | _ => cases h
  | range =>
    simp only
    unfold atoiSat
    split <;> simp
  | _ => exact ⟨by simp, by simp⟩

/-- Is a word no number up to some number, as it is written? -/
def numBad (most : Int) (s : Txt) : Bool := !(and (numOk s) (and (decide (0 ≤ (atoiV s).1)) (decide ((atoiV s).1 ≤ most))))

theorem num_is {α : Type} {s : Txt} (hs : s.length ≤ 100) (most : Int) (A : α) (B : Int × Bool → α) :
    (Option.bind (r49 s) fun (y : Int × Bool) => Option.bind (Option.bind (bif !(!(y.2)) then Option.bind (r24 y.1) fun (z : Txt) => some (!(decide (z = s))) else some true) fun (g : Bool) =>
      Option.bind (bif !(g) then some (decide (y.1 < (0 : Int))) else some true) fun (g' : Bool) => bif !(g') then some (decide (most < y.1)) else some true) fun (d : Bool) => bif d then some A else some (B y)) =
    some (bif numBad most s then A else B (atoiV s)) := by
  rw [atoi_at hs, Option.bind_some, itoa_at (atoi_i64 s)]
  unfold numBad numOk
  have e1 : decide ((atoiV s).1 < 0) = !decide (0 ≤ (atoiV s).1) := by by_cases h : 0 ≤ (atoiV s).1 <;> simp [h] <;> omega
  have e2 : decide (most < (atoiV s).1) = !decide ((atoiV s).1 ≤ most) := by by_cases h : (atoiV s).1 ≤ most <;> simp [h] <;> omega
  rw [e1, e2]
  simp only [Option.bind_some]
  cases (atoiV s).2 <;> cases decide (itoa (atoiV s).1 = s) <;> cases decide (0 ≤ (atoiV s).1) <;> cases decide ((atoiV s).1 ≤ most) <;> rfl

abbrev Cmd := (Int × (Int × ((Int × Int) × Bool)))
def noCmd : Cmd := (0, (0, ((0, 0), false)))

/-- What words come to. -/
def readK (w : Txt) (ws : List Txt) : Cmd × Int :=
    if w = [108, 105, 115, 116] then (match ws with | [] => ((1, (0, ((0, 0), false))), 0) | _ :: _ => (noCmd, 4))
    else if w = [97, 117, 100, 105, 116] then (match ws with | [] => ((4, (0, ((0, 0), false))), 0) | _ :: _ => (noCmd, 4))
    else if w = [115, 116, 97, 116, 117, 115] then match ws with
      | [a, b, c] => if (numBad 5 a || numBad 3 b || numBad 1048576 c) = true then (noCmd, 4) else ((2, ((atoiV a).1, (((atoiV b).1, (atoiV c).1), false))), 0)
      | _ => (noCmd, 4)
    else if w = [102, 111, 114, 99, 101] then match ws with
      | [a, b, c, d] => if (numBad 5 a || numBad 3 b || numBad 1048576 c || !(decide (d = [99, 111, 109, 109, 105, 116]) || decide (d = [97, 98, 111, 114, 116]))) = true then (noCmd, 4) else ((3, ((atoiV a).1, (((atoiV b).1, (atoiV c).1), decide (d = [99, 111, 109, 109, 105, 116])))), 0)
      | _ => (noCmd, 4)
    else (noCmd, 4)
def readW : List Txt → Cmd × Int
  | [] => (noCmd, 4)
  | w :: ws => readK w ws

theorem word_len {c : UInt8} : ∀ {l w : Txt}, w ∈ splitC c l → w.length ≤ l.length
  | [], w, h => by simp [splitC] at h; subst h; simp
  | b :: l, w, h => by
    have ih := fun w => word_len (c := c) (l := l) (w := w)
    unfold splitC at h
    split at h
    · rcases List.mem_cons.1 h with rfl | h
      · simp
      · have := ih w h; simp; omega
    · cases e : splitC c l with
      | nil => exact absurd e (splitC_ne c l)
      | cons v vs =>
        rw [e] at h ih
        rcases List.mem_cons.1 h with rfl | h
        · have := ih v List.mem_cons_self; simp; omega
        · have := ih w (List.mem_cons_of_mem _ h); simp; omega

theorem read_long {s : Txt} (h : 60 < s.length) : r17 s = some (noCmd, 1) := by
  unfold r17
  rw [bif_t (decide_eq_true (by omega))]
  rfl

set_option maxHeartbeats 4000000 in
theorem read_is {s : Txt} (h : s.length ≤ 60) : r17 s = some (readW (splitC 32 s)) := by
  unfold r17
  rw [bif_f (decide_eq_false (by omega)), split_is 32 (by omega)]
  have hl : ∀ w ∈ splitC 32 s, w.length ≤ 100 := fun w hw => by have := word_len hw; omega
  generalize splitC 32 s = ws at hl
  cases ws with
  | nil => rfl
  | cons w ws =>
    simp only [Option.bind_some, nx_len, nx_in, nx_idx, nx_ok, nx_mid, cond_true, cond_false]
    show _ = some (readK w ws)
    unfold readK
    have hl := fun u hu => hl u (List.mem_cons_of_mem w hu)
    by_cases h1 : w = [108, 105, 115, 116]
    · subst h1
      have k_list : decide (([108, 105, 115, 116] : Txt) = [108, 105, 115, 116]) = true := rfl
      have k_audit : decide (([108, 105, 115, 116] : Txt) = [97, 117, 100, 105, 116]) = false := rfl
      have k_status : decide (([108, 105, 115, 116] : Txt) = [115, 116, 97, 116, 117, 115]) = false := rfl
      have k_force : decide (([108, 105, 115, 116] : Txt) = [102, 111, 114, 99, 101]) = false := rfl
      have k_2 : decide ((1 : Int) = 2) = false := rfl
      have k_3 : decide ((1 : Int) = 3) = false := rfl
      rw [if_pos rfl]
      match ws with
      | [] => simp only [k_audit, k_status, k_force, k_2, k_3, nx_nil, nx_none, cond_true, cond_false, Option.bind_some, Sum.elim_inl, Bool.not_true, Bool.not_false, decide_true]
      | a :: ws => simp only [k_audit, k_status, k_force, k_2, k_3, nx_len, nx_in, nx_idx, nx_ok, nx_mid, nx_more, cond_true, cond_false, Option.bind_some, Sum.elim_inl, Bool.not_false, decide_true]; rfl
    by_cases h2 : w = [97, 117, 100, 105, 116]
    · subst h2
      have k_list : decide (([97, 117, 100, 105, 116] : Txt) = [108, 105, 115, 116]) = false := rfl
      have k_audit : decide (([97, 117, 100, 105, 116] : Txt) = [97, 117, 100, 105, 116]) = true := rfl
      have k_status : decide (([97, 117, 100, 105, 116] : Txt) = [115, 116, 97, 116, 117, 115]) = false := rfl
      have k_force : decide (([97, 117, 100, 105, 116] : Txt) = [102, 111, 114, 99, 101]) = false := rfl
      have k_2 : decide ((4 : Int) = 2) = false := rfl
      have k_3 : decide ((4 : Int) = 3) = false := rfl
      rw [if_neg h1]
      rw [if_pos rfl]
      match ws with
      | [] => simp only [k_list, k_status, k_force, k_2, k_3, nx_nil, nx_none, cond_true, cond_false, Option.bind_some, Sum.elim_inl, Bool.not_true, Bool.not_false, decide_true]
      | a :: ws => simp only [k_list, k_status, k_force, k_2, k_3, nx_len, nx_in, nx_idx, nx_ok, nx_mid, nx_more, cond_true, cond_false, Option.bind_some, Sum.elim_inl, Bool.not_false, decide_true]; rfl
    by_cases h3 : w = [115, 116, 97, 116, 117, 115]
    · subst h3
      have k_list : decide (([115, 116, 97, 116, 117, 115] : Txt) = [108, 105, 115, 116]) = false := rfl
      have k_audit : decide (([115, 116, 97, 116, 117, 115] : Txt) = [97, 117, 100, 105, 116]) = false := rfl
      have k_status : decide (([115, 116, 97, 116, 117, 115] : Txt) = [115, 116, 97, 116, 117, 115]) = true := rfl
      have k_force : decide (([115, 116, 97, 116, 117, 115] : Txt) = [102, 111, 114, 99, 101]) = false := rfl
      have k_2 : decide ((2 : Int) = 2) = true := rfl
      have k_3 : decide ((2 : Int) = 3) = false := rfl
      have n0 : ([] : Txt).length ≤ 100 := by decide
      have n5 : numBad 5 [] = true := rfl
      have n3 : numBad 3 [] = true := rfl
      have n1048576 : numBad 1048576 [] = true := rfl
      rw [if_neg h1]
      rw [if_neg h2]
      rw [if_pos rfl]
      match ws with
      | [] =>
        (simp only [k_list, k_audit, k_force, k_3, num_is n0, n5, n3, n1048576, nx_nil, nx_none, cond_true, cond_false, Option.bind_some, Sum.elim_inl, Bool.not_true, decide_true]; try rfl)
      | [a] =>
        have ha := hl a (by simp)
        cases qa : numBad 5 a <;> (simp only [k_list, k_audit, k_force, k_3, num_is n0, n3, n1048576, num_is ha, qa, nx_len, nx_nil, nx_in, nx_idx, nx_ok, nx_mid, nx_none, cond_true, cond_false, Option.bind_some, Sum.elim_inl, Bool.not_true, decide_true]; try rfl)
      | [a, b] =>
        have ha := hl a (by simp)
        have hb := hl b (by simp)
        cases qa : numBad 5 a <;> cases qb : numBad 3 b <;> (simp only [k_list, k_audit, k_force, k_3, num_is n0, n1048576, num_is ha, qa, num_is hb, qb, nx_len, nx_nil, nx_in, nx_idx, nx_ok, nx_mid, nx_none, cond_true, cond_false, Option.bind_some, Sum.elim_inl, Bool.not_true, decide_true]; try rfl)
      | [a, b, c] =>
        have ha := hl a (by simp)
        have hb := hl b (by simp)
        have hc := hl c (by simp)
        cases qa : numBad 5 a <;> cases qb : numBad 3 b <;> cases qc : numBad 1048576 c <;> (simp only [k_list, k_audit, k_force, k_3, num_is ha, qa, num_is hb, qb, num_is hc, qc, nx_len, nx_nil, nx_in, nx_idx, nx_ok, nx_mid, nx_none, cond_true, cond_false, Option.bind_some, Sum.elim_inl, Bool.not_true, Bool.not_false, decide_true]; try rfl)
      | a :: b :: c :: e :: ws =>
        have ha := hl a (by simp)
        have hb := hl b (by simp)
        have hc := hl c (by simp)
        cases qa : numBad 5 a <;> cases qb : numBad 3 b <;> cases qc : numBad 1048576 c <;> (simp only [k_list, k_audit, k_force, k_3, num_is ha, qa, num_is hb, qb, num_is hc, qc, nx_len, nx_in, nx_idx, nx_ok, nx_mid, nx_more, cond_true, cond_false, Option.bind_some, Sum.elim_inl, Bool.not_true, Bool.not_false, decide_true]; try rfl)
    by_cases h4 : w = [102, 111, 114, 99, 101]
    · subst h4
      have k_list : decide (([102, 111, 114, 99, 101] : Txt) = [108, 105, 115, 116]) = false := rfl
      have k_audit : decide (([102, 111, 114, 99, 101] : Txt) = [97, 117, 100, 105, 116]) = false := rfl
      have k_status : decide (([102, 111, 114, 99, 101] : Txt) = [115, 116, 97, 116, 117, 115]) = false := rfl
      have k_force : decide (([102, 111, 114, 99, 101] : Txt) = [102, 111, 114, 99, 101]) = true := rfl
      have k_2 : decide ((3 : Int) = 2) = false := rfl
      have k_3 : decide ((3 : Int) = 3) = true := rfl
      have n0 : ([] : Txt).length ≤ 100 := by decide
      have n5 : numBad 5 [] = true := rfl
      have n3 : numBad 3 [] = true := rfl
      have n1048576 : numBad 1048576 [] = true := rfl
      rw [if_neg h1]
      rw [if_neg h2]
      rw [if_neg h3]
      rw [if_pos rfl]
      match ws with
      | [] =>
        (simp only [k_list, k_audit, k_status, k_2, num_is n0, n5, n3, n1048576, nx_nil, nx_none, cond_true, cond_false, Option.bind_some, Sum.elim_inl, Bool.not_true, Bool.not_false, decide_true]; try rfl)
      | [a] =>
        have ha := hl a (by simp)
        cases qa : numBad 5 a <;> (simp only [k_list, k_audit, k_status, k_2, num_is n0, n3, n1048576, num_is ha, qa, nx_len, nx_nil, nx_in, nx_idx, nx_ok, nx_mid, nx_none, cond_true, cond_false, Option.bind_some, Sum.elim_inl, Bool.not_true, Bool.not_false, decide_true]; try rfl)
      | [a, b] =>
        have ha := hl a (by simp)
        have hb := hl b (by simp)
        cases qa : numBad 5 a <;> cases qb : numBad 3 b <;> (simp only [k_list, k_audit, k_status, k_2, num_is n0, n1048576, num_is ha, qa, num_is hb, qb, nx_len, nx_nil, nx_in, nx_idx, nx_ok, nx_mid, nx_none, cond_true, cond_false, Option.bind_some, Sum.elim_inl, Bool.not_true, Bool.not_false, decide_true]; try rfl)
      | [a, b, c] =>
        have ha := hl a (by simp)
        have hb := hl b (by simp)
        have hc := hl c (by simp)
        cases qa : numBad 5 a <;> cases qb : numBad 3 b <;> cases qc : numBad 1048576 c <;> (simp only [k_list, k_audit, k_status, k_2, num_is ha, qa, num_is hb, qb, num_is hc, qc, nx_len, nx_nil, nx_in, nx_idx, nx_ok, nx_mid, nx_none, cond_true, cond_false, Option.bind_some, Sum.elim_inl, Bool.not_true, Bool.not_false, decide_true]; try rfl)
      | [a, b, c, d] =>
        have ha := hl a (by simp)
        have hb := hl b (by simp)
        have hc := hl c (by simp)
        cases qa : numBad 5 a <;> cases qb : numBad 3 b <;> cases qc : numBad 1048576 c <;> cases qd : decide (d = [99, 111, 109, 109, 105, 116]) <;> cases qe : decide (d = [97, 98, 111, 114, 116]) <;> (simp only [k_list, k_audit, k_status, k_2, num_is ha, qa, num_is hb, qb, num_is hc, qc, qd, qe, nx_len, nx_in, nx_idx, nx_ok, nx_mid, nx_none, cond_true, cond_false, Option.bind_some, Sum.elim_inl, Bool.not_true, Bool.not_false, decide_true]; try rfl)
      | a :: b :: c :: d :: e :: ws =>
        have ha := hl a (by simp)
        have hb := hl b (by simp)
        have hc := hl c (by simp)
        cases qa : numBad 5 a <;> cases qb : numBad 3 b <;> cases qc : numBad 1048576 c <;> cases qd : decide (d = [99, 111, 109, 109, 105, 116]) <;> cases qe : decide (d = [97, 98, 111, 114, 116]) <;> (simp only [k_list, k_audit, k_status, k_2, num_is ha, qa, num_is hb, qb, num_is hc, qc, qd, qe, nx_len, nx_in, nx_idx, nx_ok, nx_mid, nx_more, cond_true, cond_false, Option.bind_some, Sum.elim_inl, Bool.not_true, Bool.not_false, decide_true]; try rfl)
    rw [if_neg h1, if_neg h2, if_neg h3, if_neg h4]
    simp only [decide_eq_false h1, decide_eq_false h2, decide_eq_false h3, decide_eq_false h4, cond_false, Option.bind_some, Sum.elim_inr]
    rfl

/-! ### the laws -/
theorem picked_is {n m : Int} (h : i64 n) (hm : 0 < m) : ∃ v, r15 (n, m) = some v ∧ 0 ≤ v ∧ v < m := by
  unfold r15
  simp only
  have hz : decide (m = 0) = false := decide_eq_false (by omega)
  unfold i64 at h
  by_cases c : n < 0
  · rw [decide_eq_true c, wrap_i64 (n := n + 1) (by unfold i64; omega), wrap_i64 (by unfold i64; omega)]
    refine ⟨_, by simp only [cond_true, Option.bind_some, hz, cond_false]; rfl, ?_, ?_⟩
    · rw [Int.tmod_eq_emod_of_nonneg (by omega)]; exact Int.emod_nonneg _ (by omega)
    · rw [Int.tmod_eq_emod_of_nonneg (by omega)]; exact Int.emod_lt_of_pos _ hm
  · rw [decide_eq_false c]
    refine ⟨_, by simp only [cond_false, Option.bind_some, hz]; rfl, ?_, ?_⟩
    · rw [Int.tmod_eq_emod_of_nonneg (by omega)]; exact Int.emod_nonneg _ (by omega)
    · rw [Int.tmod_eq_emod_of_nonneg (by omega)]; exact Int.emod_lt_of_pos _ hm

theorem numBad_dec {most : Int} {u : Nat} (h : u ≤ 1048577) : numBad most (decDigits u) = decide (most < u) := by
  unfold numBad
  rw [numOk_dec (by omega), atoi_dec (by omega)]
  by_cases c : most < u
  · rw [decide_eq_true c]
    simp; omega
  · rw [decide_eq_false c]
    simp; omega

def odds : List Txt := [([] : List UInt8), ([76, 105, 115, 116] : List UInt8), ([108, 105, 115, 116, 32, 49] : List UInt8), ([115, 116, 97, 116, 117, 115] : List UInt8), ([115, 116, 97, 116, 117, 115, 32, 48, 32, 48] : List UInt8), ([115, 116, 97, 116, 117, 115, 32, 48, 32, 48, 32, 45, 49] : List UInt8), ([115, 116, 97, 116, 117, 115, 32, 48, 32, 48, 32, 48, 49] : List UInt8), ([115, 116, 97, 116, 117, 115, 32, 54, 32, 48, 32, 49] : List UInt8), ([115, 116, 97, 116, 117, 115, 32, 48, 32, 52, 32, 49] : List UInt8), ([115, 116, 97, 116, 117, 115, 32, 48, 32, 48, 32, 49, 48, 52, 56, 53, 55, 55] : List UInt8), ([102, 111, 114, 99, 101, 32, 48, 32, 48, 32, 49] : List UInt8), ([102, 111, 114, 99, 101, 32, 48, 32, 48, 32, 49, 32, 109, 97, 121, 98, 101] : List UInt8), ([102, 111, 114, 99, 101, 32, 48, 32, 48, 32, 49, 32, 32, 99, 111, 109, 109, 105, 116] : List UInt8), ([97, 117, 100, 105, 116, 10] : List UInt8)]

theorem bad_neg : numBad 1048576 [45, 49] = true := by
  unfold numBad
  rw [show atoiV [45, 49] = (-1, true) from rfl]
  simp
theorem bad_lead : numBad 1048576 [48, 49] = true := by
  unfold numBad numOk
  rw [show atoiV [48, 49] = (1, true) from rfl, show itoa (1 : Int) = [49] by rw [show (1 : Int) = ((1 : Nat) : Int) from rfl, itoa_nat, decDigits_one (by decide)]; rfl]
  rfl
theorem bad_big (most : Int) (s : Txt) (v : Int) (h : atoiV s = (v, true)) (hv : most < v) : numBad most s = true := by
  unfold numBad
  rw [h]
  simp; omega

theorem odd_is : ∀ x ∈ odds, x.length ≤ 60 ∧ readW (splitC 32 x) = (noCmd, 4) := by
  have b1 := bad_big 5 [54] 6 rfl (by decide)
  have b2 := bad_big 3 [52] 4 rfl (by decide)
  have b3 := bad_big 1048576 [49, 48, 52, 56, 53, 55, 55] 1048577 rfl (by decide)
  intro x hx
  simp only [odds, List.mem_cons, List.not_mem_nil, or_false] at hx
  rcases hx with rfl | rfl | rfl | rfl | rfl | rfl | rfl | rfl | rfl | rfl | rfl | rfl | rfl | rfl
  · exact ⟨by decide, rfl⟩
  · exact ⟨by decide, rfl⟩
  · exact ⟨by decide, rfl⟩
  · exact ⟨by decide, rfl⟩
  · exact ⟨by decide, rfl⟩
  · exact ⟨by decide, by show (if (numBad 5 [48] || numBad 3 [48] || numBad 1048576 [45, 49]) = true then _ else _) = _; rw [bad_neg, Bool.or_true, if_pos rfl]⟩
  · exact ⟨by decide, by show (if (numBad 5 [48] || numBad 3 [48] || numBad 1048576 [48, 49]) = true then _ else _) = _; rw [bad_lead, Bool.or_true, if_pos rfl]⟩
  · exact ⟨by decide, by show (if (numBad 5 [54] || numBad 3 [48] || numBad 1048576 [49]) = true then _ else _) = _; rw [b1, Bool.true_or, Bool.true_or, if_pos rfl]⟩
  · exact ⟨by decide, by show (if (numBad 5 [48] || numBad 3 [52] || numBad 1048576 [49]) = true then _ else _) = _; rw [b2, Bool.or_true, Bool.true_or, if_pos rfl]⟩
  · exact ⟨by decide, by show (if (numBad 5 [48] || numBad 3 [48] || numBad 1048576 [49, 48, 52, 56, 53, 55, 55]) = true then _ else _) = _; rw [b3, Bool.or_true, if_pos rfl]⟩
  · exact ⟨by decide, rfl⟩
  · exact ⟨by decide, by show (if (numBad 5 [48] || numBad 3 [48] || numBad 1048576 [49] || true) = true then _ else _) = _; rw [Bool.or_true, if_pos rfl]⟩
  · exact ⟨by decide, rfl⟩
  · exact ⟨by decide, rfl⟩

theorem consoleBad {a b : Int} (ha : i64 a) (hb : i64 b) : r8 (a, b) = some true := by
  unfold r8
  obtain ⟨v, hv, v0, v1⟩ := picked_is ha (show (0 : Int) < 14 by omega)
  obtain ⟨w, hw, w0, w1⟩ := picked_is hb (show (0 : Int) < 9 by omega)
  change Option.bind (r15 (a, (odds.length : Int))) _ = _
  have hl : (odds.length : Int) = 14 := rfl
  rw [hl, hv]
  change (bif inB v odds.length then Option.bind (idxN odds v.toNat) _ else none) = _
  rw [bif_t (inB_true v0 (by rw [hl]; exact v1))]
  obtain ⟨x, hx, hx2⟩ := idxN_is (xs := odds) (n := v.toNat) (by omega)
  obtain ⟨o1, o2⟩ := odd_is x (List.mem_of_getElem? hx2)
  rw [hx, Option.bind_some, read_is o1, o2, Option.bind_some, hw, Option.bind_some]
  have e : Go.IntKind.wrap .i64 (61 + w) = 61 + w := wrap_i64 (by unfold i64; omega)
  simp only [e]
  have hg : (decide (0 ≤ 61 + w) && (decide (61 + w ≤ 61 + w) && (decide ((1 : Int) * (61 + w) ≤ 281474976710656) && decide (61 + w ≤ 9223372036854775807)))) = true := by
    simp only [Bool.and_eq_true, decide_eq_true_eq]; omega
  rw [bif_t hg, read_long (by simp; omega)]
  rfl

theorem read_join {s : Txt} {ws : List Txt} (e : s = joinC 32 ws) (hne : ws ≠ []) (hno : ∀ w ∈ ws, (32 : UInt8) ∉ w) (hl : s.length ≤ 60) : r17 s = some (readW ws) := by
  rw [read_is hl, e, splitC_join hne hno]

theorem dec_num {v m : Int} (h0 : 0 ≤ v) (h1 : v < m) (hm : m ≤ 1048577) : ∃ u : Nat, v = u ∧ u ≤ 1048577 ∧ R16 v = some (decDigits u) ∧ (decDigits u).length ≤ 7 ∧ (32 : UInt8) ∉ decDigits u ∧ (atoiV (decDigits u)).1 = v ∧ ∀ most, v ≤ most → numBad most (decDigits u) = false := by
  obtain ⟨u, rfl⟩ := Int.eq_ofNat_of_zero_le h0
  refine ⟨u, rfl, by omega, dec_is (by omega), decDigits_len u 6 (by omega), dec_no (by decide), by rw [atoi_dec (by omega)], fun most h => ?_⟩
  rw [numBad_dec (by omega)]
  exact decide_eq_false (by omega)

theorem kind4 {v : Int} (h0 : 0 ≤ v) (h1 : v < 4) : v = 0 ∨ v = 1 ∨ v = 2 ∨ v = 3 := by omega

theorem lenb {l m : Txt} {a b : Nat} (h1 : l.length ≤ a) (h2 : m.length ≤ b) (h : a + b ≤ 100) : decide (l.length + m.length ≤ 9223372036854775807) = true ∧ (l ++ m).length ≤ a + b := ⟨decide_eq_true (by omega), by rw [List.length_append]; omega⟩

theorem consoleBack {l s n k : Int} {yes : Bool} (hl : i64 l) (hs : i64 s) (hn : i64 n) (hk : i64 k) : r7 (l, (s, (n, (yes, k)))) = some true := by
  unfold r7
  obtain ⟨v1, e1, a1, b1⟩ := picked_is hl (show (0 : Int) < 6 by omega)
  obtain ⟨v2, e2, a2, b2⟩ := picked_is hs (show (0 : Int) < 4 by omega)
  obtain ⟨v3, e3, a3, b3⟩ := picked_is hn (show (0 : Int) < 1048577 by omega)
  obtain ⟨v4, e4, a4, b4⟩ := picked_is hk (show (0 : Int) < 4 by omega)
  obtain ⟨u1, -, -, d1, l1, o1, t1, g1⟩ := dec_num a1 b1 (by omega)
  obtain ⟨u2, -, -, d2, l2, o2, t2, g2⟩ := dec_num a2 b2 (by omega)
  obtain ⟨u3, -, -, d3, l3, o3, t3, g3⟩ := dec_num a3 b3 (by omega)
  generalize decDigits u1 = x1 at *
  generalize decDigits u2 = x2 at *
  generalize decDigits u3 = x3 at *
  have p0 : ([32] : Txt).length ≤ 1 := by decide
  have q1 := lenb l1 p0 (by omega)
  have q2 := lenb q1.2 l2 (by omega)
  have q3 := lenb q2.2 p0 (by omega)
  have q4 := lenb q3.2 l3 (by omega)
  have q5 := lenb (show ([102, 111, 114, 99, 101, 32] : Txt).length ≤ 6 by decide) q4.2 (by omega)
  have q6 := lenb q5.2 (show ([32, 97, 98, 111, 114, 116] : Txt).length ≤ 6 by decide) (by omega)
  have q7 := lenb q5.2 (show ([32, 99, 111, 109, 109, 105, 116] : Txt).length ≤ 7 by decide) (by omega)
  have q8 := lenb (show ([115, 116, 97, 116, 117, 115, 32] : Txt).length ≤ 7 by decide) q4.2 (by omega)
  have hw1 : ∀ w ∈ [[102, 111, 114, 99, 101], x1, x2, x3, [97, 98, 111, 114, 116]], (32 : UInt8) ∉ w := by
    simp only [List.forall_mem_cons, List.not_mem_nil, false_imp_iff, implies_true, and_true]; exact ⟨by decide, o1, o2, o3, by decide⟩
  have hw2 : ∀ w ∈ [[102, 111, 114, 99, 101], x1, x2, x3, [99, 111, 109, 109, 105, 116]], (32 : UInt8) ∉ w := by
    simp only [List.forall_mem_cons, List.not_mem_nil, false_imp_iff, implies_true, and_true]; exact ⟨by decide, o1, o2, o3, by decide⟩
  have hw3 : ∀ w ∈ [[115, 116, 97, 116, 117, 115], x1, x2, x3], (32 : UInt8) ∉ w := by
    simp only [List.forall_mem_cons, List.not_mem_nil, false_imp_iff, implies_true, and_true]; exact ⟨by decide, o1, o2, o3⟩
  have more : ∀ {ws : List Txt}, (∀ w ∈ ws, (32 : UInt8) ∉ w) → ∀ w ∈ ws ++ [[]], (32 : UInt8) ∉ w := by
    intro ws h w hw
    rcases List.mem_append.1 hw with hw | hw
    · exact h w hw
    · simp at hw; subst hw; simp
  have b1' := g1 5 (by omega)
  have b2' := g2 3 (by omega)
  have b3' := g3 1048576 (by omega)
  simp only [e1, e2, e3, e4, d1, d2, d3, Option.bind_some, bif_t q1.1, bif_t q2.1, bif_t q3.1, bif_t q4.1, bif_t q5.1, bif_t q6.1, bif_t q7.1, bif_t q8.1]
  rcases kind4 a4 b4 with rfl | rfl | rfl | rfl
  · cases yes with
    | true =>
      have r1 := read_join (s := (([102, 111, 114, 99, 101, 32] : Txt) ++ ((((x1 ++ [32]) ++ x2) ++ [32]) ++ x3)) ++ [32, 99, 111, 109, 109, 105, 116]) (by simp [joinC]) (by simp) hw2 (by omega)
      have q9 := lenb q7.2 p0 (by omega)
      have r2 := read_join (s := ((([102, 111, 114, 99, 101, 32] : Txt) ++ ((((x1 ++ [32]) ++ x2) ++ [32]) ++ x3)) ++ [32, 99, 111, 109, 109, 105, 116]) ++ [32]) (by simp [joinC]) (by simp) (more hw2) (by omega)
      simp only [cond_true, Option.bind_some, decide_eq_false (show ¬ (0 : Int) = 1 by omega), decide_eq_false (show ¬ (0 : Int) = 2 by omega), decide_eq_false (show ¬ (0 : Int) = 3 by omega), cond_false, r1, r2, bif_t q9.1]
      simp [readW, readK, b1', b2', b3', t1, t2, t3, noCmd]
    | false =>
      have r1 := read_join (s := (([102, 111, 114, 99, 101, 32] : Txt) ++ ((((x1 ++ [32]) ++ x2) ++ [32]) ++ x3)) ++ [32, 97, 98, 111, 114, 116]) (by simp [joinC]) (by simp) hw1 (by omega)
      have q9 := lenb q6.2 p0 (by omega)
      have r2 := read_join (s := ((([102, 111, 114, 99, 101, 32] : Txt) ++ ((((x1 ++ [32]) ++ x2) ++ [32]) ++ x3)) ++ [32, 97, 98, 111, 114, 116]) ++ [32]) (by simp [joinC]) (by simp) (more hw1) (by omega)
      simp only [cond_false, Option.bind_some, decide_eq_false (show ¬ (0 : Int) = 1 by omega), decide_eq_false (show ¬ (0 : Int) = 2 by omega), decide_eq_false (show ¬ (0 : Int) = 3 by omega), r1, r2, bif_t q9.1]
      simp [readW, readK, b1', b2', b3', t1, t2, t3, noCmd]
  · have r1 := read_join (s := ([115, 116, 97, 116, 117, 115, 32] : Txt) ++ ((((x1 ++ [32]) ++ x2) ++ [32]) ++ x3)) (by simp [joinC]) (by simp) hw3 (by omega)
    have q9 := lenb q8.2 p0 (by omega)
    have r2 := read_join (s := (([115, 116, 97, 116, 117, 115, 32] : Txt) ++ ((((x1 ++ [32]) ++ x2) ++ [32]) ++ x3)) ++ [32]) (by simp [joinC]) (by simp) (more hw3) (by omega)
    simp only [bif_some, Option.bind_some, decide_true, cond_true, r1, r2, bif_t q9.1]
    simp [readW, readK, b1', b2', b3', t1, t2, t3, noCmd]
  · have r1 : r17 ([108, 105, 115, 116] : Txt) = some ((1, (0, ((0, 0), false))), 0) := (read_is (by decide)).trans rfl
    have r2 : r17 (([108, 105, 115, 116] : Txt) ++ [32]) = some (noCmd, 4) := (read_is (by decide)).trans rfl
    have p1 : decide (([108, 105, 115, 116] : Txt).length + ([32] : Txt).length ≤ 9223372036854775807) = true := by decide
    simp only [bif_some, Option.bind_some, decide_eq_false (show ¬ (2 : Int) = 1 by omega), decide_true, cond_true, cond_false, r1, r2, bif_t p1]
    rfl
  · have r1 : r17 ([97, 117, 100, 105, 116] : Txt) = some ((4, (0, ((0, 0), false))), 0) := (read_is (by decide)).trans rfl
    have r2 : r17 (([97, 117, 100, 105, 116] : Txt) ++ [32]) = some (noCmd, 4) := (read_is (by decide)).trans rfl
    have p1 : decide (([97, 117, 100, 105, 116] : Txt).length + ([32] : Txt).length ≤ 9223372036854775807) = true := by decide
    simp only [bif_some, Option.bind_some, decide_eq_false (show ¬ (3 : Int) = 1 by omega), decide_eq_false (show ¬ (3 : Int) = 2 by omega), decide_true, cond_true, cond_false, r1, r2, bif_t p1]
    rfl

end Go.Hc
