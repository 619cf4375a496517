/- An act has what its kind has. -/
import Derived.Test.YtmcaghldcabnnaaHkCheck
namespace Go.Hk
open Go.RowKit Go.Proofs Go.V

theorem two_one : r4 1 = some (2, [((0 : Int), (0 : Int)), ((1 : Int), (0 : Int))], 3) := by
  simp [r4, r7, IntKind.wrap, IntKind.signed, IntKind.bits]

theorem two_ok : CfgOk (2, [((0 : Int), (0 : Int)), ((1 : Int), (0 : Int))], 3) :=
  ⟨by decide, by decide, by decide, by decide, by simp [LabOk], by decide, by simp, by simp⟩

abbrev odd : List Act := [((5 : Int), ((1 : Int), ((0 : Int), ((0 : Int), ((0 : Int), ([], (((0 : Int), ((0 : Int), ((0 : Int), ((0 : Int), (0 : Int))))), ([] : List UInt8)))))))), ((7 : Int), ((0 : Int), ((0 : Int), ((1 : Int), ((0 : Int), ([], (((0 : Int), ((0 : Int), ((0 : Int), ((0 : Int), (0 : Int))))), ([] : List UInt8)))))))), ((1 : Int), ((0 : Int), ((0 : Int), ((0 : Int), ((1 : Int), ([], (((1 : Int), ((0 : Int), ((0 : Int), ((0 : Int), (0 : Int))))), ([] : List UInt8)))))))), ((2 : Int), ((0 : Int), ((0 : Int), ((0 : Int), ((0 : Int), ([], (((0 : Int), ((0 : Int), ((0 : Int), ((0 : Int), (0 : Int))))), ([120] : List UInt8)))))))), ((8 : Int), ((0 : Int), ((0 : Int), ((0 : Int), ((0 : Int), ([(0 : Int)], (((0 : Int), ((0 : Int), ((0 : Int), ((0 : Int), (0 : Int))))), ([] : List UInt8)))))))), ((1 : Int), ((0 : Int), ((0 : Int), ((0 : Int), ((0 : Int), ([], (((4 : Int), ((0 : Int), ((0 : Int), ((0 : Int), (1 : Int))))), ([] : List UInt8))))))))]

theorem odd_is {n : Int} (h0 : 0 ≤ n) (h6 : n < 6) :
    ∃ x, idxN odd (Int.toNat n) = some x ∧ r6 ((2, [((0 : Int), (0 : Int)), ((1 : Int), (0 : Int))], 3), x) = some 4 := by
  have h : n = 0 ∨ n = 1 ∨ n = 2 ∨ n = 3 ∨ n = 4 ∨ n = 5 := by omega
  rcases h with rfl | rfl | rfl | rfl | rfl | rfl <;> exact ⟨_, rfl, by rw [actCheck_is two_ok _ (by decide)]; rfl⟩

theorem none_is : r6 ((2, [((0 : Int), (0 : Int)), ((1 : Int), (0 : Int))], 3), ((0 : Int), ((0 : Int), ((0 : Int), ((0 : Int), ((0 : Int), ([], (((0 : Int), ((0 : Int), ((0 : Int), ((0 : Int), (0 : Int))))), ([] : List UInt8))))))))) = some 3 := by
  rw [actCheck_is two_ok _ (by decide)]; rfl

theorem actBare {l : List Raw} (hr : ∀ b ∈ l, RawOk b) (hl : l.length ≤ 9223372036854775807) {w : Int} (hw : i64 w) : r3 (l, w) = some true := by
  obtain ⟨k, e1, e2, e3⟩ := acts_is two_ok hr hl (most := 20) (by omega) (by omega) (force := true)
  obtain ⟨r, h1, h2⟩ := loop_rule (body := r3_L0 k (2, [((0 : Int), (0 : Int)), ((1 : Int), (0 : Int))], 3)) (fun i => 0 ≤ i ∧ i ≤ k.length) (fun i => k.length - i.toNat) (fun r => r = .inl ()) (fun i hi => by
    unfold r3_L0
    by_cases c : i < k.length
    · obtain ⟨x, f1, f2⟩ := idxN_is (xs := k) (n := i.toNat) (by omega)
      have hw : Go.IntKind.wrap .i64 (i + 1) = i + 1 := wrap_i64 (by unfold i64; omega)
      rw [decide_eq_true c, inB_true hi.1 c, f1]
      simp only [cond_true, Option.bind_some, act_good two_ok (e3 x (List.mem_of_getElem? f2)), decide_true, Bool.not_true, cond_false, hw]
      exact .inl ⟨_, rfl, ⟨by omega, by omega⟩, by omega⟩
    · rw [decide_eq_false c]
      exact .inr ⟨_, rfl, rfl⟩) 0 (by simp)
  subst h2
  obtain ⟨n, p1, p2, p3⟩ := picked_is hw (show (0 : Int) < 6 by omega)
  obtain ⟨x, q1, q2⟩ := odd_is p2 p3
  unfold r3
  rw [two_one]
  simp only [Option.bind_some, e1, h1, Sum.elim_inl]
  change (Option.bind (r7 (w, 6)) fun y13 => bif inB y13 6 then Option.bind (idxN odd (Int.toNat y13)) fun x14 => _ else none) = _
  rw [p1]
  simp only [Option.bind_some, q1, q2, inB_true p2 (show n < ((6 : Nat) : Int) by omega), cond_true, none_is, decide_true]
end Go.Hk
