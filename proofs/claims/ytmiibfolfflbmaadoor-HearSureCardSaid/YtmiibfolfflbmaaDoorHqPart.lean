/- A site's keys: what a forcing and a tick come to. -/
import Derived.Test.YtmiibfolfflbmaaDoorHqEnds
import Derived.Test.YtmiibfolfflbmaaDoorHqCfg
namespace Go.Hq
open Go.RowKit Go.Proofs Go.V

abbrev Conf := Int × (List (Int × Int) × Int)
abbrev Msg := Int × (Int × (Int × ((Int × Int) × (Int × (Int × (Int × (Int × (Int × (Bool × Int)))))))))
abbrev Rec := Int × ((Int × Int) × (Int × (Int × (Int × (Bool × List Int)))))
abbrev Note := (Int × Int) × (Bool × Bool)
abbrev Ans := Sto × (List Msg × (List Rec × List Note))

def noAns : Ans := (noSto, ([], ([], [])))

theorem two_is {a : Int} (ha : i64 a) : ∃ n, r13 a = some (n, ([(0, 0), (1, 0)], 3)) ∧ 1 ≤ n ∧ n ≤ 3 := by
  obtain ⟨q, h1, h2, h3⟩ := picked_is a 3 ha (by omega)
  refine ⟨1 + q, ?_, by omega, by omega⟩
  unfold r13
  simp only [h1, Option.bind_some, one_add h2 (by omega)]

theorem two_ok {n p : Int} (h1 : 1 ≤ n) (h2 : n ≤ 3) (p1 : 1 ≤ p) (p2 : p ≤ 4) : Cf.CfgOk (n, ([(0, 0), (1, 0)], p)) :=
  ⟨h1, h2, by simp, by simp, fun l hl => by
    simp only [List.mem_cons, List.not_mem_nil, or_false] at hl
    rcases hl with e | e <;> rw [e] <;> exact ⟨by decide, by decide, by decide, by decide⟩, by simp, p1, p2⟩

theorem nil_ok : StoreOk noSto := made_nil.ok

theorem txn0 {b : Int} (h0 : 0 ≤ b) (h1 : b < 1000) : txnB (0, 1 + b) = true := by unfold txnB; simp; omega

theorem force_is {n p : Int} (h1 : 1 ≤ n) (h2 : n ≤ 3) (p1 : 1 ≤ p) (p2 : p ≤ 4) {s : Sto} (h : StoreOk s) {notes : List Note} (hn : notes.length < 60) {t : Txn} (ht : txnB t = true) {yes : Bool} (hend : r19 (s, t, yes) = some (endR s t yes, 0)) (hE : Short (endR s t yes)) :
    r33 ((n, ([(0, 0), (1, 0)], p)), (0 : Int), (0 : Int), [s, noSto], notes, t, yes) = some (if s.2.1.countP (wrote t) = 0 then (noAns, 6) else ((endR s t yes, ([], ([(6, t, 0, 0, 0, yes, [])], notes ++ [(t, yes, false)]))), 0)) := by
  have hc := Cf.check_ok (two_ok h1 h2 p1 p2)
  have hlp : loopR (r33_L0 ((n, ([(0, 0), (1, 0)], p)), (0 : Int), (0 : Int), [s, noSto], notes, t, yes)) (0 : Int) = some (.inl ()) := by
    refine all_loop (xs := [s, noSto]) (by simp) (fun i x hx => ?_) ?_
    · obtain ⟨e1, e2, -⟩ := in_len hx
      have hok : StoreOk x := by
        have hm := List.mem_of_getElem? hx
        simp only [List.mem_cons, List.not_mem_nil, or_false] at hm
        rcases hm with e | e <;> rw [e]
        · exact h
        · exact nil_ok
      unfold r33_L0
      simp only [e1, e2, cond_true, Option.bind_some, storeCheck_is hok, decide_true, Bool.not_true, cond_false]
    · unfold r33_L0
      simp only [at_len, cond_false]
  have hci : r74 (endR s t yes).1 = some (endR s t yes).1 := nilR_clone (by have := hE.items; omega)
  have hcl : r75 (endR s t yes).2.1 = some (endR s t yes).2.1 := nilR_clone (by have := hE.locks; omega)
  have hcd : r76 (endR s t yes).2.2.1 = some (endR s t yes).2.2.1 := nilR_clone (by have := hE.doubts; omega)
  have hct : r77 (endR s t yes).2.2.2 = some (endR s t yes).2.2.2 := nilR_clone (by have := hE.over; omega)
  have hcn : r55 notes = some notes := nilR_clone (by omega)
  unfold r33
  simp only [hc, Option.bind_some, decide_true, Bool.not_true, Bool.not_false, cond_true, cond_false, show decide ((0 : Int) < 0) = false from rfl, show decide ((([((0 : Int), (0 : Int)), (1, 0)] : List (Int × Int)).length : Int) ≤ 0) = false from rfl, decide_eq_false (show ¬ n ≤ 0 by omega), show decide (((([s, noSto] : List Sto).length : Nat) : Int) = ((([((0 : Int), (0 : Int)), (1, 0)] : List (Int × Int)).length : Nat) : Int)) = true from rfl, hlp, Sum.elim_inl,
    show idxI [s, noSto] (0 : Int) = some s from rfl, writes_is h ht, hend]
  by_cases hz : s.2.1.countP (wrote t) = 0
  · rw [if_pos hz, decide_eq_true (by omega)]; rfl
  · rw [if_neg hz, decide_eq_false (by omega), decide_eq_false (show ¬ (60 : Int) ≤ (notes.length : Int) by omega)]
    simp only [cond_false, hcn, Option.bind_some, roomOk_true (show (2 * (notes.length + 1) + 192) * 24 ≤ 281474976710656 by omega), cond_true, hci, hcl, hcd, hct, app_eq]

end Go.Hq
