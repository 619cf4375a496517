/- Dominance of labels is reflexive, antisymmetric and transitive on the labels made of any three numbers. No condition. -/
import Derived.Test.YtgiceldgkonbbaaPAboveOrderx2
namespace Go.Proofs.Ytgiceldgkonbbaa.Pure
open Go.RowKit Go.Proofs.Ytgiceldgkonbbaa.PAboveOrder Go.Proofs.YtgiceldgkonbbaaW.PrintWords Go.Proofs.YtgiceldgkonbbaaW.PrintLast

/-- A raw number makes a label of a level below 3 and categories below 4. -/
theorem picked_small (a : Int) (m : Nat) (hm : 0 < m) (hb : m < 100) (h : (Lit.int .i64 a).wf = true) :
    ∃ n : Nat, n < m ∧ reredoskeep_picked.f a m = some (n : Int) := by
  have hw : -9223372036854775808 ≤ a ∧ a ≤ 9223372036854775807 := by
    have := h
    simp [Lit.wf, IntKind.min, IntKind.max, IntKind.signed, IntKind.bits] at this
    omega
  have hz : ¬ ((m : Int) = 0) := by omega
  unfold reredoskeep_picked.f
  by_cases c : a < 0
  · rw [if_pos c, if_neg hz]
    have e : wrap64 (-(wrap64 (a + 1))) = -(a + 1) := by unfold wrap64; omega
    rw [e, Int.tmod_eq_emod_of_nonneg (by omega)]
    have h0 : 0 ≤ -(a + 1) % (m : Int) := Int.emod_nonneg _ hz
    have h1 : -(a + 1) % (m : Int) < m := Int.emod_lt_of_pos _ (by omega)
    exact ⟨(-(a + 1) % (m : Int)).toNat, by omega, by rw [Int.toNat_of_nonneg h0]⟩
  · rw [if_neg c, if_neg hz, Int.tmod_eq_emod_of_nonneg (by omega)]
    have h0 : 0 ≤ a % (m : Int) := Int.emod_nonneg _ hz
    have h1 : a % (m : Int) < m := Int.emod_lt_of_pos _ (by omega)
    exact ⟨(a % (m : Int)).toNat, by omega, by rw [Int.toNat_of_nonneg h0]⟩

theorem third_small (a : Int) (hw : -9223372036854775808 ≤ a ∧ a ≤ 9223372036854775807) : -9223372036854775808 ≤ Int.tdiv a 3 ∧ Int.tdiv a 3 ≤ 9223372036854775807 := by
  by_cases c : 0 ≤ a
  · rw [Int.tdiv_eq_ediv_of_nonneg c]; omega
  · have e : Int.tdiv a 3 = -(Int.tdiv (-a) 3) := by rw [Int.neg_tdiv]; omega
    rw [e, Int.tdiv_eq_ediv_of_nonneg (by omega)]; omega

theorem lab_small (a : Int) (h : (Lit.int .i64 a).wf = true) :
    ∃ (l : Fin 3) (c : Fin 4), reredoskeep_Lab.f a = some ((l.val : Int), (c.val : Int)) := by
  have hw : -9223372036854775808 ≤ a ∧ a ≤ 9223372036854775807 := by
    have := h
    simp [Lit.wf, IntKind.min, IntKind.max, IntKind.signed, IntKind.bits] at this
    omega
  have hd : wrap64 (Int.tdiv a 3) = Int.tdiv a 3 := by
    have : -9223372036854775808 ≤ Int.tdiv a 3 ∧ Int.tdiv a 3 ≤ 9223372036854775807 := third_small a hw
    unfold wrap64; omega
  have hw2 : (Lit.int .i64 (Int.tdiv a 3)).wf = true := by
    have : -9223372036854775808 ≤ Int.tdiv a 3 ∧ Int.tdiv a 3 ≤ 9223372036854775807 := third_small a hw
    simp [Lit.wf, IntKind.min, IntKind.max, IntKind.signed, IntKind.bits]
    omega
  obtain ⟨l, hl, el⟩ := picked_small a 3 (by omega) (by omega) h
  obtain ⟨c, hc, ec⟩ := picked_small (Int.tdiv a 3) 4 (by omega) (by omega) hw2
  refine ⟨⟨l, hl⟩, ⟨c, hc⟩, ?_⟩
  unfold reredoskeep_Lab.f
  rw [hd]
  have el' : reredoskeep_picked.f a 3 = some (l : Int) := el
  have ec' : reredoskeep_picked.f (Int.tdiv a 3) 4 = some (c : Int) := ec
  rw [el', ec']
  rfl

set_option maxRecDepth 100000 in
theorem all_pairs : ∀ (l1 : Fin 3) (c1 : Fin 4) (l2 : Fin 3) (c2 : Fin 4) (l3 : Fin 3) (c3 : Fin 4),
    ((label_Above.f l1.val c1.val l1.val c1.val).bind fun t115 => (if t115 = true then ((label_Above.f l1.val c1.val l2.val c2.val).bind fun t116 => (if t116 = true then ((label_Above.f l2.val c2.val l1.val c1.val).bind fun t117 => (if t117 = true then (reredoskeep_AboveOrder.j0 1 (!((l1.val : Int) == l2.val) || (!((c1.val : Int) == c2.val))) l1.val c1.val l2.val c2.val l3.val c3.val) else (reredoskeep_AboveOrder.j0 1 false l1.val c1.val l2.val c2.val l3.val c3.val))) else (reredoskeep_AboveOrder.j0 1 false l1.val c1.val l2.val c2.val l3.val c3.val))) else (reredoskeep_AboveOrder.j0 1 true l1.val c1.val l2.val c2.val l3.val c3.val))) = some true := by
  decide +kernel

theorem AboveOrder : reredoskeep_AboveOrder.Pure := by
  intro a b c ha hb hc
  obtain ⟨l1, c1, e1⟩ := lab_small a ha
  obtain ⟨l2, c2, e2⟩ := lab_small b hb
  obtain ⟨l3, c3, e3⟩ := lab_small c hc
  refine ⟨1, ?_⟩
  unfold reredoskeep_AboveOrder.f
  rw [e1, e2, e3]
  exact all_pairs l1 c1 l2 c2 l3 c3

end Go.Proofs.Ytgiceldgkonbbaa.Pure
