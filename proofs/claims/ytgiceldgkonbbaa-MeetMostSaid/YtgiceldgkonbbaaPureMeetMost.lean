/- Both labels dominate their meet, and what both dominate the meet dominates, at any three numbers. No condition. -/
import Derived.Test.YtgiceldgkonbbaaPMeetMostx2
namespace Go.Proofs.Ytgiceldgkonbbaa.Pure
open Go.RowKit Go.Proofs.Ytgiceldgkonbbaa.PMeetMost Go.Proofs.YtgiceldgkonbbaaW.PrintWords Go.Proofs.YtgiceldgkonbbaaW.PrintLast

/-- A raw number makes a label of a level below 3 and categories below 4. -/
theorem picked_small (a : Int) (m : Nat) (hm : 0 < m) (hb : m < 100) (h : (Lit.int .i64 a).wf = true) :
    ∃ n : Nat, n < m ∧ reredoskeep_picked.f a m = some (n : Int) := by
  have hw : -9223372036854775808 ≤ a ∧ a ≤ 9223372036854775807 := by
    have := h
    simp [Lit.wf, IntKind.min, IntKind.max, IntKind.signed, IntKind.bits] at this
    omega
  have hz : ¬ ((m : Int) = 0) := by omega
  unfold reredoskeep_picked.f
  by_cases c : a < 0
  · rw [if_pos c, if_neg hz]
    have e : wrap64 (-(wrap64 (a + 1))) = -(a + 1) := by unfold wrap64; omega
    rw [e, Int.tmod_eq_emod_of_nonneg (by omega)]
    have h0 : 0 ≤ -(a + 1) % (m : Int) := Int.emod_nonneg _ hz
    have h1 : -(a + 1) % (m : Int) < m := Int.emod_lt_of_pos _ (by omega)
    exact ⟨(-(a + 1) % (m : Int)).toNat, by omega, by rw [Int.toNat_of_nonneg h0]⟩
  · rw [if_neg c, if_neg hz, Int.tmod_eq_emod_of_nonneg (by omega)]
    have h0 : 0 ≤ a % (m : Int) := Int.emod_nonneg _ hz
    have h1 : a % (m : Int) < m := Int.emod_lt_of_pos _ (by omega)
    exact ⟨(a % (m : Int)).toNat, by omega, by rw [Int.toNat_of_nonneg h0]⟩

theorem third_small (a : Int) (hw : -9223372036854775808 ≤ a ∧ a ≤ 9223372036854775807) : -9223372036854775808 ≤ Int.tdiv a 3 ∧ Int.tdiv a 3 ≤ 9223372036854775807 := by
  by_cases c : 0 ≤ a
  · rw [Int.tdiv_eq_ediv_of_nonneg c]; omega
  · have e : Int.tdiv a 3 = -(Int.tdiv (-a) 3) := by rw [Int.neg_tdiv]; omega
    rw [e, Int.tdiv_eq_ediv_of_nonneg (by omega)]; omega

theorem lab_small (a : Int) (h : (Lit.int .i64 a).wf = true) :
    ∃ (l : Fin 3) (c : Fin 4), reredoskeep_Lab.f a = some ((l.val : Int), (c.val : Int)) := by
  have hw : -9223372036854775808 ≤ a ∧ a ≤ 9223372036854775807 := by
    have := h
    simp [Lit.wf, IntKind.min, IntKind.max, IntKind.signed, IntKind.bits] at this
    omega
  have hd : wrap64 (Int.tdiv a 3) = Int.tdiv a 3 := by
    have : -9223372036854775808 ≤ Int.tdiv a 3 ∧ Int.tdiv a 3 ≤ 9223372036854775807 := third_small a hw
    unfold wrap64; omega
  have hw2 : (Lit.int .i64 (Int.tdiv a 3)).wf = true := by
    have : -9223372036854775808 ≤ Int.tdiv a 3 ∧ Int.tdiv a 3 ≤ 9223372036854775807 := third_small a hw
    simp [Lit.wf, IntKind.min, IntKind.max, IntKind.signed, IntKind.bits]
    omega
  obtain ⟨l, hl, el⟩ := picked_small a 3 (by omega) (by omega) h
  obtain ⟨c, hc, ec⟩ := picked_small (Int.tdiv a 3) 4 (by omega) (by omega) hw2
  refine ⟨⟨l, hl⟩, ⟨c, hc⟩, ?_⟩
  unfold reredoskeep_Lab.f
  rw [hd]
  have el' : reredoskeep_picked.f a 3 = some (l : Int) := el
  have ec' : reredoskeep_picked.f (Int.tdiv a 3) 4 = some (c : Int) := ec
  rw [el', ec']
  rfl

def jl (l1 l2 : Fin 3) : Fin 3 := if l2.val < l1.val then l2 else l1
def jc (c1 c2 : Fin 4) : Fin 4 := Fin.ofNat 4 (c1.val &&& c2.val)
theorem both_val : ∀ (l1 : Fin 3) (c1 : Fin 4) (l2 : Fin 3) (c2 : Fin 4), label_Meet.f l1.val c1.val l2.val c2.val = some (((jl l1 l2).val : Int), ((jc c1 c2).val : Int)) := by
  decide +kernel
def jd (c1 c2 : Fin 4) : Bool := c1.val &&& c2.val == c2.val
theorem above_val : ∀ (l1 : Fin 3) (c1 : Fin 4) (l2 : Fin 3) (c2 : Fin 4), label_Above.f l1.val c1.val l2.val c2.val = some (decide (l2.val ≤ l1.val) && (jd c1 c2)) := by
  decide +kernel
theorem cats : ∀ c1 c2 c3 : Fin 4, jd c1 (jc c1 c2) = true ∧ jd c2 (jc c1 c2) = true ∧ jd (jc c1 c2) c3 = (jd c1 c3 && jd c2 c3) := by
  decide +kernel
theorem levels : ∀ l1 l2 l3 : Fin 3, decide ((jl l1 l2).val ≤ l1.val) = true ∧ decide ((jl l1 l2).val ≤ l2.val) = true ∧ decide (l3.val ≤ (jl l1 l2).val) = (decide (l3.val ≤ l1.val) && decide (l3.val ≤ l2.val)) := by
  decide +kernel
theorem shape (L : Int → Option (Int × Int)) (J : Int → Int → Int → Int → Option (Int × Int)) (A : Int → Int → Int → Int → Option Bool)
    (both : ∀ (l1 : Fin 3) (c1 : Fin 4) (l2 : Fin 3) (c2 : Fin 4), J l1.val c1.val l2.val c2.val = some (((jl l1 l2).val : Int), ((jc c1 c2).val : Int)))
    (abv : ∀ (l1 : Fin 3) (c1 : Fin 4) (l2 : Fin 3) (c2 : Fin 4), A l1.val c1.val l2.val c2.val = some (decide (l2.val ≤ l1.val) && (jd c1 c2)))
    (a0 a1 a2 : Int) (l1 l2 l3 : Fin 3) (c1 c2 c3 : Fin 4)
    (e1 : L a0 = some ((l1.val : Int), (c1.val : Int))) (e2 : L a1 = some ((l2.val : Int), (c2.val : Int))) (e3 : L a2 = some ((l3.val : Int), (c3.val : Int))) :
    ((L a0).bind fun bt109 => ((L a1).bind fun bt112 => ((L a2).bind fun bt115 => ((J bt109.1 bt109.2 bt112.1 bt112.2).bind fun bt118 => ((A bt109.1 bt109.2 bt118.1 bt118.2).bind fun t121 => (if t121 = true then ((A bt112.1 bt112.2 bt118.1 bt118.2).bind fun t122 => (if t122 = true then ((A bt118.1 bt118.2 bt115.1 bt115.2).bind fun t123 => ((A bt109.1 bt109.2 bt115.1 bt115.2).bind fun t124 => (if t124 = true then ((A bt112.1 bt112.2 bt115.1 bt115.2).bind fun t125 => (some (t123 == t125))) else (some (t123 == false))))) else (some false))) else (some false))))))) = some true := by
  simp only [e1, e2, e3, Option.bind_some, both, abv]
  obtain ⟨h1, h2, h3⟩ := cats c1 c2 c3
  obtain ⟨g1, g2, g3⟩ := levels l1 l2 l3
  rw [h1, h2, h3, g1, g2, g3]
  generalize decide (l3.val ≤ l1.val) = p
  generalize decide (l3.val ≤ l2.val) = q
  generalize jd c1 c3 = r
  generalize jd c2 c3 = s
  cases p <;> cases q <;> cases r <;> cases s <;> rfl

theorem MeetMost : reredoskeep_MeetMost.Pure := by
  intro a b c ha hb hc
  obtain ⟨l1, c1, e1⟩ := lab_small a ha
  obtain ⟨l2, c2, e2⟩ := lab_small b hb
  obtain ⟨l3, c3, e3⟩ := lab_small c hc
  exact shape _ _ _ both_val above_val a b c l1 l2 l3 c1 c2 c3 e1 e2 e3

end Go.Proofs.Ytgiceldgkonbbaa.Pure
