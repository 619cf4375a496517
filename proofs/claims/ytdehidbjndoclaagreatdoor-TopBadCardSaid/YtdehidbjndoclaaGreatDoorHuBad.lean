/- A script that may not be is refused, by its place. -/
import Derived.Test.YtdehidbjndoclaaGreatDoorHuCheck
import Derived.Test.YtdehidbjndoclaaGreatDoorHaRun
namespace Go.Hu
open Go.RowKit Go.Proofs Go.V
abbrev bad : Act := (9, (0, (0, (0, (0, ([], ((0, (0, (0, (0, 0)))), [])))))))
theorem bad_is {c : Cfg} (hc : CfgOk c) : r13 (c, bad) = some 3 := by
  rw [actCheck_is hc bad (by simp)]; rfl
theorem run_loop {c : Cfg} (hc : CfgOk c) {A B : List Act} (hA : ∀ x ∈ A, ActOk c x) (hlen : (A ++ bad :: B).length ≤ 3000) :
    loopR (r7_L0 (c, A ++ bad :: B)) ((), ((0 : Int), ([], ([], ((0 : Int), []))))) = some (.inr ((), ((A.length : Int), (3, ([], ([], ((0 : Int), []))))))) := by
  have hA' : A.length ≤ 3000 := by simp at hlen; omega
  obtain ⟨r, h1, h2⟩ := loop_rule (body := r7_L0 (c, A ++ bad :: B)) (fun d => ∃ i : Nat, i ≤ A.length ∧ d = ((), ((i : Int), ([], ([], ((0 : Int), [])))))) (fun d => A.length - d.2.1.toNat)
    (fun r => r = .inr ((), ((A.length : Int), (3, ([], ([], ((0 : Int), []))))))) (fun d hd => by
      obtain ⟨i, i1, rfl⟩ := hd
      unfold r7_L0
      simp only
      by_cases k : i < A.length
      · have hx : (A ++ bad :: B)[i]? = some A[i] := by rw [List.getElem?_append_left k, List.getElem?_eq_getElem k]
        obtain ⟨e1, e2, -⟩ := in_len hx
        have hw : Go.IntKind.wrap .i64 ((i : Int) + 1) = ((i + 1 : Nat) : Int) := by rw [wrap_i64 (by unfold i64; omega)]; omega
        refine .inl ⟨((), (((i + 1 : Nat) : Int), ([], ([], ((0 : Int), []))))), ?_, ⟨i + 1, by omega, rfl⟩, by simp only [Int.toNat_natCast]; omega⟩
        simp only [e1, e2, cond_true, cond_false, Option.bind_some, act_good hc (hA _ (List.getElem_mem k)), decide_true, Bool.not_true, hw]
      · have hi : i = A.length := by omega
        subst hi
        have hx : (A ++ bad :: B)[A.length]? = some bad := by rw [List.getElem?_append_right (Nat.le_refl _)]; simp
        obtain ⟨e1, e2, -⟩ := in_len hx
        refine .inr ⟨_, ?_, rfl⟩
        simp only [e1, e2, cond_true, Option.bind_some, bad_is hc, decide_eq_false (show ¬ (3 : Int) = 0 by omega), Bool.not_false]) _ ⟨0, by omega, rfl⟩
  subst h2
  exact h1
theorem run_bad {c : Cfg} (hc : CfgOk c) {A B : List Act} (hA : ∀ x ∈ A, ActOk c x) (hlen : (A ++ bad :: B).length ≤ 3000) :
    r7 (c, A ++ bad :: B) = some (([], ([], ((0 : Int), []))), ((A.length : Int), 3)) := by
  unfold r7
  simp only [check_ok hc, Option.bind_some, decide_true, Bool.not_true, cond_false, decide_eq_false (show ¬ (3000 : Int) < ((A ++ bad :: B).length : Int) by omega), run_loop hc hA hlen, Sum.elim_inr]
theorem run_long {c : Cfg} (hc : CfgOk c) {l : List Act} (hl : 3000 < l.length) : r7 (c, l) = some (([], ([], ((0 : Int), []))), ((0 : Int), 1)) := by
  unfold r7
  simp only [check_ok hc, Option.bind_some, decide_true, Bool.not_true, cond_false, decide_eq_true (show (3000 : Int) < (l.length : Int) by omega), cond_true]
theorem run_none (l : List Act) : r7 (((0 : Int), ([], (0 : Int))), l) = some (([], ([], ((0 : Int), []))), ((0 : Int), 2)) := by
  have : r12 (((0 : Int), ([], (0 : Int)))) = some 2 := by
    unfold r12
    rfl
  unfold r7
  simp only [this, Option.bind_some]
  rfl
theorem topBad {a : Int × (List Int × (Int × (List Raw × Int)))} (h1 : i64 a.1) (h2 : ∀ n ∈ a.2.1, i64 n) (h3 : a.2.1.length ≤ 9223372036854775807) (h4 : i64 a.2.2.1) (h5 : ∀ b ∈ a.2.2.2.1, RawOk b) (h6 : a.2.2.2.1.length ≤ 9223372036854775807) (h7 : i64 a.2.2.2.2) :
    r3 a = some true := by
  obtain ⟨c, e1, hc⟩ := cfg_is (a := (a.1, a.2.1, a.2.2.1)) h1 h2 h3 h4
  obtain ⟨l, e2, hl, hx⟩ := acts_is hc h5 h6 (most := 30) (by omega) (by omega) (force := true)
  have hw : Go.IntKind.wrap .i64 ((l.length : Int) + 1) = (l.length : Int) + 1 := wrap_i64 (by unfold i64; omega)
  obtain ⟨v, e3, v0, v1⟩ := picked_is h7 (show (0 : Int) < (l.length : Int) + 1 by omega)
  have e4 : r6 (a.2.2.2.2, (l.length : Int) + 1) = some v := by
    unfold r6
    simp only [e3, Option.bind_some]
  have hv : v.toNat ≤ l.length := by omega
  have m1 : midL l 0 v.toNat = l.take v.toNat := by simp [midL]
  have m2 : midL l v.toNat (l.length - v.toNat) = l.drop v.toNat := by
    unfold midL
    rw [List.take_of_length_le (by simp)]
  have lt : (l.take v.toNat).length = v.toNat := by simp; omega
  have ld : (l.drop v.toNat).length = l.length - v.toNat := by simp
  have o1 : okB none (some v) none l.length = true := by simp [okB]; omega
  have o2 : okB (some v) none none l.length = true := by simp [okB]; omega
  have hrun := run_bad hc (A := l.take v.toNat) (B := l.drop v.toNat) (fun x hx' => hx x (List.mem_of_mem_take hx')) (by simp; omega)
  have hb : app (app (l.take v.toNat) [bad]) (l.drop v.toNat) = l.take v.toNat ++ bad :: l.drop v.toNat := by simp [app_eq]
  have hlong := run_long hc (l := List.replicate 3001 ((0, (0, (0, (0, (0, ([], ((0, (0, (0, (0, 0)))), []))))))) : Act)) (by rw [List.length_replicate]; omega)
  unfold r3
  simp only [e1, e2, hw, e4, Option.bind_some, o1, o2, m1, m2, cond_true, lt, ld, roomOk_true (show (2 * (0 + v.toNat) + 192) * 120 ≤ 281474976710656 by omega), roomOk_true (show (2 * (v.toNat + 1) + 192) * 120 ≤ 281474976710656 by omega)]
  have lb : (app (l.take v.toNat) [bad]).length = v.toNat + 1 := by simp [app_eq]; omega
  have hroom : roomOk false (app (l.take v.toNat) [bad]).length (l.length - v.toNat) 120 = true := by rw [lb]; exact roomOk_true (by omega)
  rw [show roomOk false (app (l.take v.toNat) [((9 : Int), ((0 : Int), ((0 : Int), ((0 : Int), ((0 : Int), ([], (((0 : Int), ((0 : Int), ((0 : Int), ((0 : Int), (0 : Int))))), ([] : List UInt8))))))))]).length (l.length - v.toNat) 120 = true from hroom]
  simp only [cond_true, Option.bind_some]
  rw [show app (app (l.take v.toNat) [((9 : Int), ((0 : Int), ((0 : Int), ((0 : Int), ((0 : Int), ([], (((0 : Int), ((0 : Int), ((0 : Int), ((0 : Int), (0 : Int))))), ([] : List UInt8))))))))]) (l.drop v.toNat) = _ from hb, hrun, run_none]
  have hlong' : r7 (c, List.replicate 3001 ((0 : Int), ((0 : Int), ((0 : Int), ((0 : Int), ((0 : Int), ([], (((0 : Int), ((0 : Int), ((0 : Int), ((0 : Int), (0 : Int))))), ([] : List UInt8))))))))) = some (([], ([], ((0 : Int), []))), ((0 : Int), 1)) := hlong
  have hd : (decide (0 ≤ (3001 : Int)) && (decide ((3001 : Int) ≤ (3001 : Int)) && (decide ((120 : Int) * (3001 : Int) ≤ 281474976710656) && decide ((3001 : Int) ≤ 9223372036854775807)))) = true := by decide
  simp only [Option.bind_some, hd, cond_true, hlong', decide_true, lt, decide_eq_true (show ((v.toNat : Nat) : Int) = v by omega), List.length_nil]
  rfl
end Go.Hu
