/- A site's keys: what a forcing and a tick come to. -/
import Derived.Test.YtmiibfolfflbmaaHpEnds
import Derived.Test.YtmiibfolfflbmaaHpCfg
namespace Go.Hp
open Go.RowKit Go.Proofs Go.V

abbrev Conf := Int × (List (Int × Int) × Int)
abbrev Msg := Int × (Int × (Int × ((Int × Int) × (Int × (Int × (Int × (Int × (Int × (Bool × Int)))))))))
abbrev Rec := Int × ((Int × Int) × (Int × (Int × (Int × (Bool × List Int)))))
abbrev Note := (Int × Int) × (Bool × Bool)
abbrev Ans := Sto × (List Msg × (List Rec × List Note))

def noAns : Ans := (noSto, ([], ([], [])))

theorem two_is {a : Int} (ha : i64 a) : ∃ n, r5 a = some (n, ([(0, 0), (1, 0)], 3)) ∧ 1 ≤ n ∧ n ≤ 3 := by
  obtain ⟨q, h1, h2, h3⟩ := picked_is a 3 ha (by omega)
  refine ⟨1 + q, ?_, by omega, by omega⟩
  unfold r5
  simp only [h1, Option.bind_some, one_add h2 (by omega)]

theorem two_ok {n p : Int} (h1 : 1 ≤ n) (h2 : n ≤ 3) (p1 : 1 ≤ p) (p2 : p ≤ 4) : Cf.CfgOk (n, ([(0, 0), (1, 0)], p)) :=
  ⟨h1, h2, by simp, by simp, fun l hl => by
    simp only [List.mem_cons, List.not_mem_nil, or_false] at hl
    rcases hl with e | e <;> rw [e] <;> exact ⟨by decide, by decide, by decide, by decide⟩, by simp, p1, p2⟩

theorem nil_ok : StoreOk noSto := made_nil.ok

theorem txn0 {b : Int} (h0 : 0 ≤ b) (h1 : b < 1000) : txnB (0, 1 + b) = true := by unfold txnB; simp; omega

theorem force_is {n p : Int} (h1 : 1 ≤ n) (h2 : n ≤ 3) (p1 : 1 ≤ p) (p2 : p ≤ 4) {s : Sto} (h : StoreOk s) {notes : List Note} (hn : notes.length < 60) {t : Txn} (ht : txnB t = true) {yes : Bool} (hend : r14 (s, t, yes) = some (endR s t yes, 0)) (hE : Short (endR s t yes)) :
    r9 ((n, ([(0, 0), (1, 0)], p)), (0 : Int), (0 : Int), [s, noSto], notes, t, yes) = some (if s.2.1.countP (wrote t) = 0 then (noAns, 6) else ((endR s t yes, ([], ([(6, t, 0, 0, 0, yes, [])], notes ++ [(t, yes, false)]))), 0)) := by
  have hc := Cf.check_ok (two_ok h1 h2 p1 p2)
  have hlp : loopR (r9_L0 ((n, ([(0, 0), (1, 0)], p)), (0 : Int), (0 : Int), [s, noSto], notes, t, yes)) (0 : Int) = some (.inl ()) := by
    refine all_loop (xs := [s, noSto]) (by simp) (fun i x hx => ?_) ?_
    · obtain ⟨e1, e2, -⟩ := in_len hx
      have hok : StoreOk x := by
        have hm := List.mem_of_getElem? hx
        simp only [List.mem_cons, List.not_mem_nil, or_false] at hm
        rcases hm with e | e <;> rw [e]
        · exact h
        · exact nil_ok
      unfold r9_L0
      simp only [e1, e2, cond_true, Option.bind_some, storeCheck_is hok, decide_true, Bool.not_true, cond_false]
    · unfold r9_L0
      simp only [at_len, cond_false]
  have hci : r35 (endR s t yes).1 = some (endR s t yes).1 := nilR_clone (by have := hE.items; omega)
  have hcl : r36 (endR s t yes).2.1 = some (endR s t yes).2.1 := nilR_clone (by have := hE.locks; omega)
  have hcd : r37 (endR s t yes).2.2.1 = some (endR s t yes).2.2.1 := nilR_clone (by have := hE.doubts; omega)
  have hct : r38 (endR s t yes).2.2.2 = some (endR s t yes).2.2.2 := nilR_clone (by have := hE.over; omega)
  have hcn : r18 notes = some notes := nilR_clone (by omega)
  unfold r9
  simp only [hc, Option.bind_some, decide_true, Bool.not_true, Bool.not_false, cond_true, cond_false, show decide ((0 : Int) < 0) = false from rfl, show decide ((([((0 : Int), (0 : Int)), (1, 0)] : List (Int × Int)).length : Int) ≤ 0) = false from rfl, decide_eq_false (show ¬ n ≤ 0 by omega), show decide (((([s, noSto] : List Sto).length : Nat) : Int) = ((([((0 : Int), (0 : Int)), (1, 0)] : List (Int × Int)).length : Nat) : Int)) = true from rfl, hlp, Sum.elim_inl,
    show idxI [s, noSto] (0 : Int) = some s from rfl, writes_is h ht, hend]
  by_cases hz : s.2.1.countP (wrote t) = 0
  · rw [if_pos hz, decide_eq_true (by omega)]; rfl
  · rw [if_neg hz, decide_eq_false (by omega), decide_eq_false (show ¬ (60 : Int) ≤ (notes.length : Int) by omega)]
    simp only [cond_false, hcn, Option.bind_some, roomOk_true (show (2 * (notes.length + 1) + 192) * 24 ≤ 281474976710656 by omega), cond_true, hci, hcl, hcd, hct, app_eq]

theorem forceOnce {l : List Raw} (hl : l.length ≤ 9223372036854775807) (hr : ∀ r ∈ l, rawOk r) {t : Raw} (htr : rawOk t) (yes : Bool) : r3 (l, t, yes) = some true := by
  obtain ⟨s, e1, hM⟩ := store_is hl hr (m := 25) (by omega)
  obtain ⟨n, e2, n1, n2⟩ := two_is (a := 0) (by unfold i64; omega)
  obtain ⟨b, e3, b0, b1⟩ := picked_is t.2.1 4 htr.2.1 (by omega)
  have ht := txn0 b0 (show b < 1000 by omega)
  have hend := made_end_is hM (by omega) ht yes
  have hu := made_end_ok hM (by omega) ht yes
  have hit := made_ends hM (by omega) (0, 1 + b) yes
  have hend2 : r14 (endR s (0, 1 + b) yes, (0, 1 + b), yes) = some (endR (endR s (0, 1 + b) yes) (0, 1 + b) yes, 0) :=
    end_is hu (m := 24 * (25 + 1 : Nat)) (by omega) (by omega) hit ht yes (by have := hM.over; have := overWith_len s.2.2.2 (0, 1 + b); show (overWith _ _).length < _; omega)
  have hno : ∀ y ∈ (endR s (0, 1 + b) yes).2.1, y.1 ≠ (0, 1 + b) := fun y hy e => by
    have := (List.mem_filter.1 hy).2
    unfold isT at this
    rw [decide_eq_true e] at this
    cases this
  have f1 := force_is n1 n2 (p := 3) (by omega) (by omega) hM.ok (notes := []) (by simp) ht hend hu.short
  have f2 := force_is n1 n2 (p := 3) (by omega) (by omega) hu (notes := [((0, 1 + b), yes, false)]) (by simp) ht hend2 (by rw [end_again]; exact hu.short)
  rw [if_pos (wrote_none hno)] at f2
  rw [show ((25 : Nat) : Int) = (25 : Int) from rfl] at e1
  have f1' : r9 ((n, ([(0, 0), (1, 0)], 3)), (0 : Int), (0 : Int), [s, ([], ([], ([], [])))], [], (0, 1 + b), yes) = _ := f1
  unfold r3
  simp only [e1, e2, e3, one_add b0 (show b < 1000 by omega), Option.bind_some, writes_is hM.ok ht, f1', decide_true, Bool.not_true, cond_false]
  by_cases hz : s.2.1.countP (wrote (0, 1 + b)) = 0
  · rw [if_pos hz, decide_eq_true (by omega)]; rfl
  · rw [if_neg hz, decide_eq_false (by omega)]
    have f2' : r9 ((n, ([(0, 0), (1, 0)], 3)), (0 : Int), (0 : Int), [endR s (0, 1 + b) yes, ([], ([], ([], [])))], [] ++ [((0, 1 + b), yes, false)], (0, 1 + b), yes) = some (noAns, 6) := f2
    simp only [cond_false, f2', Option.bind_some, decide_true, cond_true]
    cases yes <;> simp [idxI, idxN]

theorem age_is {s : Sto} (h : StoreOk s) (hy : ∀ d ∈ s.2.2.1, d.2 = 0) : r19 (s, 1) = some (s, s.2.2.1.map (fun d => d.1), 0) := by
  have hd := h.short.doubts
  obtain ⟨q, e1, rfl⟩ := loop_rule (body := r19_L0 s (s, 1)) (fun d => ∃ i : Nat, i ≤ s.2.2.1.length ∧ d = ((), ((), ((i : Int), (s, (s.2.2.1.take i).map (fun d => d.1)))))) (fun d => s.2.2.1.length - d.2.2.1.toNat) (fun q => q = ((), ((), (s, s.2.2.1.map (fun d => d.1))))) (fun d hd => by
    obtain ⟨i, hi, rfl⟩ := hd
    unfold r19_L0
    by_cases g : i < s.2.2.1.length
    · left
      have hx : s.2.2.1[i]? = some s.2.2.1[i] := List.getElem?_eq_getElem g
      obtain ⟨g1, g2, g3, g4⟩ := in_len hx
      have hz := hy _ (List.mem_of_getElem? hx)
      have hs : ∀ z, idxN (s.2.2.1.set i z) i = some z := fun z => by
        show (s.2.2.1.set i z)[i]? = _
        rw [List.getElem?_set, if_pos rfl, if_pos g]
      have hback : s.2.2.1.set i (s.2.2.1[i].1, 0) = s.2.2.1 := by
        have : (s.2.2.1[i].1, (0 : Int)) = s.2.2.1[i] := Prod.ext rfl hz.symm
        rw [this, List.set_getElem_self]
      have hw : Go.IntKind.wrap .i64 ((i : Int) + 1) = ((i + 1 : Nat) : Int) := wrap_i64 (by unfold i64; omega)
      have hw0 : Go.IntKind.wrap .i64 ((0 : Int) + 1) = 1 := by decide
      have hrm : roomOk false ((s.2.2.1.take i).map (fun d => d.1)).length 1 16 = true := roomOk_true (by simp only [List.length_map, List.length_take]; omega)
      refine ⟨((), ((), (((i + 1 : Nat) : Int), (s, (s.2.2.1.take (i + 1)).map (fun d => d.1))))), ?_, ⟨i + 1, g, rfl⟩, by simp only; omega⟩
      rw [List.take_add_one, hx]
      simp only [g1, g3, g4, cond_true, Int.toNat_natCast, Option.bind_some, hz, hw0, hs, show decide ((1 : Int) ≤ 1) = true from rfl, hrm, List.set_set, hback, hw, app_eq, List.map_append]
      rfl
    · right
      have : i = s.2.2.1.length := by omega
      subst this
      refine ⟨_, ?_, rfl⟩
      rw [List.take_length]
      simp only [at_len, cond_false]) ((), ((), ((0 : Int), (s, [])))) ⟨0, by omega, by simp⟩
  unfold r19
  simp only [storeCheck_is h, Option.bind_some, decide_true, Bool.not_true, Bool.not_false, cond_true, cond_false, show decide ((1 : Int) < 1) = false from rfl, show decide ((1048576 : Int) < 1) = false from rfl, own_is h.short, e1]

/-- What is asked of the site where a transaction was begun. -/
def askM (k : Int) (t : Txn) : Msg := (9, k, t.1, t, 0, 0, 0, 0, 0, false, 0)

theorem tick_is {n k : Int} (h1 : 1 ≤ n) (h2 : n ≤ 3) (k0 : 0 ≤ k) (k1 : k < n) {s : Sto} (h : StoreOk s) (hy : ∀ d ∈ s.2.2.1, d.2 = 0) :
    r10 ((n, ([(0, 0), (1, 0)], 1)), (0 : Int), k, [s, noSto]) = some ((s, (((s.2.2.1.map (fun d => d.1)).filter (fun t => decide (t.1 < n))).map (askM k), ([], []))), 0) := by
  have hd := h.short.doubts
  have hc := Cf.check_ok (two_ok h1 h2 (p := 1) (by omega) (by omega))
  have hlp : loopR (r10_L0 ((n, ([(0, 0), (1, 0)], 1)), (0 : Int), k, [s, noSto])) (0 : Int) = some (.inl ()) := by
    refine all_loop (xs := [s, noSto]) (by simp) (fun i x hx => ?_) ?_
    · obtain ⟨e1, e2, -⟩ := in_len hx
      have hok : StoreOk x := by
        have hm := List.mem_of_getElem? hx
        simp only [List.mem_cons, List.not_mem_nil, or_false] at hm
        rcases hm with e | e <;> rw [e]
        · exact h
        · exact nil_ok
      unfold r10_L0
      simp only [e1, e2, cond_true, Option.bind_some, storeCheck_is hok, decide_true, Bool.not_true, cond_false]
    · unfold r10_L0
      simp only [at_len, cond_false]
  have hci : r35 s.1 = some s.1 := nilR_clone (by have := h.short.items; omega)
  have hcl : r36 s.2.1 = some s.2.1 := nilR_clone (by have := h.short.locks; omega)
  have hcd : r37 s.2.2.1 = some s.2.2.1 := nilR_clone (by have := h.short.doubts; omega)
  have hct : r38 s.2.2.2 = some s.2.2.2 := nilR_clone (by have := h.short.over; omega)
  generalize htl : s.2.2.1.map (fun d => d.1) = told
  have hlen : told.length ≤ 1000000 := by rw [← htl, List.length_map]; exact hd
  have hlp1 := fold_loop (body := r10_L1 ((), ((), (s, ((), ((), ((), ((), (told, (0 : Int))))))))) ((n, ([(0, 0), (1, 0)], 1)), (0 : Int), k, [s, noSto])) (xs := told) (emb := fun j (ms : List Msg) => ((), (j, (s.1, (s.2.1, (s.2.2.1, (s.2.2.2, (ms, (([] : List Rec), ([] : List Note)))))))))) (out := fun ms => ((), (s.1, (s.2.1, (s.2.2.1, (s.2.2.2, (ms, (([] : List Rec), ([] : List Note)))))))))
    (fun ms t => if t.1 < n then ms ++ [askM k t] else ms) (fun i ms => i ≤ told.length ∧ ms = ((told.take i).filter (fun t => decide (t.1 < n))).map (askM k)) (by omega) (fun i t ms ht hI => by
      obtain ⟨hi, hI⟩ := hI
      obtain ⟨g1, -, g3, g4⟩ := in_len ht
      have hlt := (List.getElem?_eq_some_iff.mp ht).1
      have hml : ms.length ≤ 1000000 := by
        rw [hI, List.length_map]
        exact Nat.le_trans (List.length_filter_le _ _) (by rw [List.length_take]; omega)
      refine ⟨?_, by omega, ?_⟩
      · unfold r10_L1
        simp only [g1, g3, g4, cond_true, Int.toNat_natCast, Option.bind_some, roomOk_true (show (2 * (ms.length + 1) + 192) * 96 ≤ 281474976710656 by omega), app_eq]
        by_cases c : t.1 < n
        · rw [if_pos c]
          simp only [decide_eq_true c, cond_true, Option.bind_some]; rfl
        · rw [if_neg c]
          simp only [decide_eq_false c, cond_false, Option.bind_some]
      · rw [List.take_add_one, ht, hI]
        by_cases c : t.1 < n <;> simp [c]) (fun ms hI => by
      unfold r10_L1
      simp only [at_len, cond_false]) (s0 := []) ⟨by omega, by simp⟩
  obtain ⟨e1, -, e2⟩ := hlp1
  rw [List.take_length] at e2
  rw [e2] at e1
  have hage := age_is h hy
  rw [htl] at hage
  unfold r10
  simp only [hc, Option.bind_some, decide_true, Bool.not_true, Bool.not_false, cond_true, cond_false, show decide ((0 : Int) < 0) = false from rfl, show decide ((([((0 : Int), (0 : Int)), (1, 0)] : List (Int × Int)).length : Int) ≤ 0) = false from rfl, decide_eq_false (show ¬ k < 0 by omega), decide_eq_false (show ¬ n ≤ k by omega), show decide (((([s, noSto] : List Sto).length : Nat) : Int) = ((([((0 : Int), (0 : Int)), (1, 0)] : List (Int × Int)).length : Nat) : Int)) = true from rfl, hlp, Sum.elim_inl,
    show idxI [s, noSto] (0 : Int) = some s from rfl, hage, e1, hci, hcl, hcd, hct]

theorem tick_none {n k : Int} (h1 : 1 ≤ n) (h2 : n ≤ 3) {s : Sto} : r10 ((n, ([(0, 0), (1, 0)], 1)), (2 : Int), k, [s, noSto]) = some (noAns, 6) := by
  have hc := Cf.check_ok (two_ok h1 h2 (p := 1) (by omega) (by omega))
  unfold r10
  simp only [hc, Option.bind_some, decide_true, Bool.not_true, Bool.not_false, cond_true, cond_false, show decide ((2 : Int) < 0) = false from rfl, show decide ((([((0 : Int), (0 : Int)), (1, 0)] : List (Int × Int)).length : Int) ≤ 2) = true from rfl]
  rfl

theorem partAsks {a : Int} (ha : i64 a) {l : List Raw} (hl : l.length ≤ 9223372036854775807) (hr : ∀ r ∈ l, rawOk r) {me : Int} (hm : i64 me) : r4 (a, l, me) = some true := by
  obtain ⟨s, e1, hM⟩ := store_is hl hr (m := 25) (by omega)
  obtain ⟨n, e2, n1, n2⟩ := two_is ha
  obtain ⟨k, e3, k0, k1⟩ := picked_is me n hm (by omega)
  have hd := hM.ok.short.doubts
  have hdn := hM.doubts
  have ht := tick_is n1 n2 k0 k1 hM.ok hM.young
  have hmap : ∀ ds : List Doubt, (((ds.map (fun d => d.1)).filter (fun t => decide (t.1 < n))).map (askM k)) = (ds.filter (fun d => decide (d.1.1 < n))).map (fun d => askM k d.1) := by
    intro ds
    induction ds with
    | nil => rfl
    | cons d ds ih => by_cases c : d.1.1 < n <;> simp [c, ih]
  generalize hms : ((s.2.2.1.map (fun d => d.1)).filter (fun t => decide (t.1 < n))).map (askM k) = ms at ht
  have hlp : loopR (r4_L0 s (n, ([(0, 0), (1, 0)], 3)) ((s, (ms, ([], []))), 0) k) ((0 : Int), (0 : Int)) = some (.inl (ms.length : Int)) := by
    obtain ⟨q, g1, rfl⟩ := loop_rule (body := r4_L0 s (n, ([(0, 0), (1, 0)], 3)) ((s, (ms, ([], []))), 0) k) (fun d => ∃ i : Nat, i ≤ s.2.2.1.length ∧ d = ((((s.2.2.1.take i).filter (fun d => decide (d.1.1 < n))).length : Int), (i : Int))) (fun d => s.2.2.1.length - d.2.toNat) (fun q => q = .inl (ms.length : Int)) (fun d hd => by
      obtain ⟨i, hi, rfl⟩ := hd
      have hle : ((s.2.2.1.take i).filter (fun d => decide (d.1.1 < n))).length ≤ 25 := Nat.le_trans (List.length_filter_le _ _) (by rw [List.length_take]; omega)
      unfold r4_L0
      by_cases g : i < s.2.2.1.length
      · left
        have hx : s.2.2.1[i]? = some s.2.2.1[i] := List.getElem?_eq_getElem g
        obtain ⟨g1, g2, -⟩ := in_len hx
        have hw : Go.IntKind.wrap .i64 ((i : Int) + 1) = ((i + 1 : Nat) : Int) := wrap_i64 (by unfold i64; omega)
        refine ⟨_, ?_, ⟨i + 1, g, rfl⟩, by simp only; omega⟩
        rw [List.take_add_one, hx, List.filter_append]
        by_cases c : s.2.2.1[i].1.1 < n
        · have hup : (s.2.2.1.filter (fun d => decide (d.1.1 < n)))[((s.2.2.1.take i).filter (fun d => decide (d.1.1 < n))).length]? = some s.2.2.1[i] := by
            have hsp : s.2.2.1 = s.2.2.1.take i ++ s.2.2.1[i] :: s.2.2.1.drop (i + 1) := by rw [← List.drop_eq_getElem_cons g, List.take_append_drop]
            conv => lhs; rw [hsp]
            rw [List.filter_append, List.getElem?_append_right (by rw [← hsp]; exact Nat.le_refl _)]
            rw [← hsp, Nat.sub_self, List.filter_cons, if_pos (decide_eq_true c)]; rfl
          have hmi : ms[((s.2.2.1.take i).filter (fun d => decide (d.1.1 < n))).length]? = some (askM k s.2.2.1[i].1) := by
            rw [← hms, hmap, List.getElem?_map, hup]; rfl
          obtain ⟨m1, m2, -⟩ := in_len hmi
          have hne : decide ((((s.2.2.1.take i).filter (fun d => decide (d.1.1 < n))).length : Int) = (ms.length : Int)) = false := decide_eq_false (by have := of_decide_eq_true m1; omega)
          have hw3 : Go.IntKind.wrap .i64 ((((s.2.2.1.take i).filter (fun d => decide (d.1.1 < n))).length : Int) + 1) = (((s.2.2.1.take i).filter (fun d => decide (d.1.1 < n))).length : Int) + 1 := wrap_i64 (by unfold i64; omega)
          simp only [g1, g2, cond_true, Option.bind_some, decide_eq_true c, hne, Bool.not_false, m2, askM, decide_true, Bool.and_true, Bool.not_true, cond_false, hw, hw3, Sum.elim_inl]
          simp [c]
        · simp only [g1, g2, cond_true, Option.bind_some, decide_eq_false c, cond_false, hw, Sum.elim_inl]
          simp [c]
      · right
        have : i = s.2.2.1.length := by omega
        subst this
        refine ⟨_, ?_, rfl⟩
        rw [List.take_length]
        have : ms.length = (s.2.2.1.filter (fun d => decide (d.1.1 < n))).length := by rw [← hms, hmap, List.length_map]
        simp only [at_len, cond_false, this]) (0, 0) ⟨0, by omega, by simp⟩
    exact g1
  rw [show ((25 : Nat) : Int) = (25 : Int) from rfl] at e1
  have ht' : r10 ((n, ([(0, 0), (1, 0)], 1)), (0 : Int), k, [s, ([], ([], ([], [])))]) = some ((s, (ms, ([], []))), 0) := ht
  have ht2 : r10 ((n, ([(0, 0), (1, 0)], 1)), (2 : Int), k, [s, ([], ([], ([], [])))]) = some (noAns, 6) := tick_none n1 n2
  unfold r4
  simp only [e1, e2, e3, Option.bind_some, ht', hlp, Sum.elim_inl, ht2, decide_true, cond_true, same_is hM.ok.short]

end Go.Hp
