/- What records make of memory: the laws. -/
import Derived.Test.YtmiibfolfflbmaaDoorHrOk
namespace Go.Hr
namespace Cf
open Go.RowKit Go.Proofs Go.V

theorem records_is {c : Cfg} (hc : CfgOk c) {l : List Raw} (hl : ∀ r ∈ l, RawOk r) {m : Nat} (hm : m ≤ 100) : ∃ rs, r15 (c, l, (m : Int)) = some rs ∧ rs.length ≤ m ∧ ∀ r ∈ rs, RecOk c r := by
  obtain ⟨q, h1, rs, rfl, h2, h3⟩ := loop_rule (body := r15_L0 (c, l, (m : Int))) (fun d => ∃ i : Nat, d.2.1 = i ∧ i ≤ m ∧ d.2.2.length = i ∧ ∀ r ∈ d.2.2, RecOk c r) (fun d => m - d.2.1.toNat) (fun q => ∃ rs, q = ((), rs) ∧ rs.length ≤ m ∧ ∀ r ∈ rs, RecOk c r) (fun d hd => by
    obtain ⟨⟨⟩, j, rs⟩ := d
    obtain ⟨i, hi, him, hlen, hok⟩ := hd
    simp only at hi hlen hok
    subst hi
    unfold r15_L0
    by_cases g : i < l.length
    · by_cases g2 : i < m
      · left
        have hx : l[i]? = some l[i] := List.getElem?_eq_getElem g
        obtain ⟨e1, e2, -⟩ := in_len hx
        obtain ⟨r, e3, e4⟩ := rec_is hc (hl _ (List.mem_of_getElem? hx))
        have hw : Go.IntKind.wrap .i64 ((i : Int) + 1) = ((i + 1 : Nat) : Int) := wrap_i64 (by unfold i64; omega)
        refine ⟨((), (((i + 1 : Nat) : Int), rs ++ [r])), ?_, ⟨i + 1, rfl, g2, by simp [hlen], fun x hx => ?_⟩, by simp only; omega⟩
        · simp only [e1, cond_true, Option.bind_some, decide_eq_true (show (i : Int) < (m : Int) by omega), e2, e3, roomOk_true (show (2 * (rs.length + 1) + 192) * 80 ≤ 281474976710656 by omega), app_eq, hw]
        · rcases List.mem_append.1 hx with h | h
          · exact hok x h
          · simp only [List.mem_singleton] at h; rw [h]; exact e4
      · right
        refine ⟨((), rs), ?_, rs, rfl, by omega, hok⟩
        simp only [decide_eq_true (show (i : Int) < (l.length : Int) by omega), decide_eq_false (show ¬ (i : Int) < (m : Int) by omega), cond_true, cond_false, Option.bind_some]
    · right
      refine ⟨((), rs), ?_, rs, rfl, by omega, hok⟩
      simp only [decide_eq_false (show ¬ (i : Int) < (l.length : Int) by omega), cond_false, Option.bind_some]) ((), (0, [])) ⟨0, rfl, by omega, rfl, by simp⟩
  refine ⟨rs, ?_, h2, h3⟩
  unfold r15
  rw [h1]
  rfl


theorem sites_is {c : Cfg} (hc : CfgOk c) {sites : Int} (hs : i64 sites) : ∃ (t : Int × Int) (l : List Int), r21 (c, ((2 : Int), ((0 : Int), ((0 : Int), (sites, ((0 : Int), (0 : Int))))))) = some (3, (t, (0, (0, (0, (false, l)))))) ∧ (∀ x ∈ l, 0 ≤ x ∧ x < c.1) ∧ l.Pairwise (· < ·) ∧ l.length ≤ 3 := by
  have z : i64 (0 : Int) := by unfold i64; omega
  have hb : RawOk ((2 : Int), ((0 : Int), ((0 : Int), (sites, ((0 : Int), (0 : Int)))))) := ⟨by unfold i64; omega, z, z, hs, z, z⟩
  have s0 := hc.s0
  have s1 := hc.s1
  have e1 : r18 ((2 : Int), (6 : Int)) = some 2 := by
    unfold r18
    simp
  obtain ⟨⟨t1, t2⟩, e2, -⟩ := txnMade hc z z
  obtain ⟨l, e7, f7, g7, h7⟩ := sites_loop hc hb (t1 := t1) (t2 := t2)
  refine ⟨(t1, t2), l, ?_, f7, g7, by omega⟩
  have hw : Go.IntKind.wrap .i64 (1 + 2) = 3 := by decide
  unfold r21
  simp only [e1, e2, hw, Option.bind_some]
  simp only [e7, Option.bind_some, show decide ((3 : Int) = 1) = false from rfl, show decide ((3 : Int) = 2) = false from rfl, cond_false, show decide ((3 : Int) = 6) = false from rfl, decide_true, cond_true]

end Cf
end Go.Hr
namespace Go.Hr
open Go.RowKit Go.Proofs Go.V

theorem two_is {a : Int} (ha : i64 a) : ∃ n, r13 a = some (n, ([(0, 0), (1, 0)], 3)) ∧ 1 ≤ n ∧ n ≤ 3 := by
  obtain ⟨q, h1, h2, h3⟩ := picked_is a 3 ha (by omega)
  refine ⟨1 + q, ?_, by omega, by omega⟩
  unfold r13
  simp only [h1, Option.bind_some, one_add h2 (by omega)]

theorem two_ok {n p : Int} (h1 : 1 ≤ n) (h2 : n ≤ 3) (p1 : 1 ≤ p) (p2 : p ≤ 4) : Cf.CfgOk (n, ([(0, 0), (1, 0)], p)) :=
  ⟨h1, h2, by simp, by simp, fun l hl => by
    simp only [List.mem_cons, List.not_mem_nil, or_false] at hl
    rcases hl with e | e <;> rw [e] <;> exact ⟨by decide, by decide, by decide, by decide⟩, by simp, p1, p2⟩

theorem raws_ok {l : List Raw} (hr : ∀ r ∈ l, rawOk r) : ∀ r ∈ l, Cf.RawOk r := fun r h => by
  have q := hr r h
  exact ⟨q.1, q.2.1, q.2.2.1, q.2.2.2.1, q.2.2.2.2.1, q.2.2.2.2.2⟩

theorem rebuild_bad {c : Conf} (hc : Cf.CfgOk c) : r16 (c, c.1, []) = some (noSto, ((0, []), ([], 2))) := by
  have s0 := hc.s0
  unfold r16
  simp only [Cf.check_ok hc, Option.bind_some, decide_true, Bool.not_true, Bool.not_false, cond_true, cond_false, decide_eq_false (show ¬ c.1 < 0 by omega), decide_eq_true (show c.1 ≤ c.1 by omega)]
  rfl

theorem rebuildGood {a : Int} (ha : i64 a) {l : List Raw} (hr : ∀ r ∈ l, rawOk r) {me : Int} (hm : i64 me) : r6 (a, l, me) = some true := by
  obtain ⟨n, e1, n1, n2⟩ := two_is ha
  have hc := two_ok n1 n2 (p := 3) (by omega) (by omega)
  obtain ⟨k, e2, k0, k1⟩ := picked_is me n hm (by omega)
  obtain ⟨rs, e3, hl, hok⟩ := Cf.records_is hc (raws_ok hr) (m := 40) (by omega)
  rw [show ((40 : Nat) : Int) = (40 : Int) from rfl] at e3
  obtain ⟨e4, hM⟩ := rebuild_is hc k0 k1 (rs := rs) (by omega) hok
  have e5 := rebuild_bad hc
  simp only at e5
  unfold r6
  simp only [e1, e2, e3, e4, e5, Option.bind_some, decide_true, cond_true, storeCheck_is hM.store.ok, desk_ok hc hM.desk]

/-- Who is over at first stays over. -/
def Over (x : Txn) (m : Mem) : Prop := (∀ y ∈ m.2.1.2.1, y.1 ≠ x) ∧ ∃ t, m.2.1.2.2.2 = x :: t

theorem over_end {x u : Txn} {s : Sto} (yes : Bool) (h1 : ∀ y ∈ s.2.1, y.1 ≠ x) (h2 : ∃ t, s.2.2.2 = x :: t) : (∀ y ∈ (endR s u yes).2.1, y.1 ≠ x) ∧ ∃ t, (endR s u yes).2.2.2 = x :: t := by
  refine ⟨fun y hy => h1 y (List.mem_filter.1 hy).1, ?_⟩
  obtain ⟨t, ht⟩ := h2
  show ∃ t, overWith s.2.2.2 u = x :: t
  unfold overWith
  split
  · exact ⟨t, ht⟩
  · exact ⟨t ++ [u], by rw [ht]; rfl⟩

theorem over_step {c : Conf} {n : Nat} {x : Txn} {m : Mem} (hM : MemOk c n m) (h : Over x m) (r : Rec) : Over x (stepM m r) := by
  unfold Over at *
  obtain ⟨h1, h2⟩ := h
  unfold stepM
  split
  · split
    · rename_i e
      obtain ⟨-, -, f3, f4, f5⟩ := write_shape e hM.store.ok
      refine ⟨fun y hy => ?_, by rw [f3]; exact h2⟩
      rcases f5 y hy with g | g
      · rw [g]
        rintro rfl
        obtain ⟨t, ht⟩ := h2
        exact f4 (by rw [ht]; exact List.mem_cons_self)
      · exact h1 y g
    · exact ⟨h1, h2⟩
  · split
    · exact over_end _ h1 h2
    · split
      · exact over_end _ h1 h2
      · repeat' split
        all_goals exact ⟨h1, h2⟩

theorem over_all {c : Conf} (hc : c.1 ≤ 4) {x : Txn} : ∀ (rs : List Rec) (n : Nat) (m : Mem), n + rs.length ≤ 500 → MemOk c n m → Over x m → (∀ r ∈ rs, Cf.RecOk c r) → Over x (rs.foldl stepM m)
  | [], n, m, _, _, h, _ => h
  | r :: rs, n, m, hn, hM, h, hr => by
    simp only [List.length_cons] at hn
    rw [List.foldl_cons]
    exact over_all hc rs (n + 1) _ (by omega) (step_ok hc hM (by omega) (hr r List.mem_cons_self)) (over_step hM h r) fun q hq => hr q (List.mem_cons_of_mem _ hq)

theorem rebuildOn {a : Int} (ha : i64 a) {l : List Raw} (hr : ∀ r ∈ l, rawOk r) {u v : Int} (hu : i64 u) (hv : i64 v) : r3 (a, l, u, v) = some true := by
  obtain ⟨n, e1, n1, n2⟩ := two_is ha
  have hc := two_ok n1 n2 (p := 3) (by omega) (by omega)
  obtain ⟨t, e2, t0, t1, t2, t3⟩ := Cf.txnMade hc hu hv
  obtain ⟨rs, e3, hl, hok⟩ := Cf.records_is hc (raws_ok hr) (m := 30) (by omega)
  rw [show ((30 : Nat) : Int) = (30 : Int) from rfl] at e3
  simp only at t1
  have h0 : Cf.RecOk (n, ([(0, 0), (1, 0)], 3)) (2, t, 0, 0, 0, true, []) :=
    ⟨by simp, by simp, t0, t1, t2, by simp only; omega, by simp, by simp, by simp, by simp, by simp, by simp, by simp, List.Pairwise.nil, by simp, ⟨_, rfl, fun _ => rfl, fun _ => rfl, fun _ => rfl, fun h => (by cases h), fun _ => rfl⟩⟩
  have hall : ∀ r ∈ ((2, t, 0, 0, 0, true, []) : Rec) :: rs, Cf.RecOk (n, ([(0, 0), (1, 0)], 3)) r := fun r h => by
    rcases List.mem_cons.1 h with rfl | e
    · exact h0
    · exact hok r e
  obtain ⟨e4, hM⟩ := rebuild_is hc (me := 0) (by omega) (by simp only; omega) (rs := (2, t, 0, 0, 0, true, []) :: rs) (by simp only [List.length_cons]; omega) hall
  have hov : Over t (madeM 0 ((2, t, 0, 0, 0, true, []) :: rs)) := by
    have hm0 := madeM_start (n, ([(0, 0), (1, 0)], 3)) 0
    refine over_all (c := (n, ([(0, 0), (1, 0)], 3))) (by simp only; omega) rs 1 _ (by omega) (step_ok (by simp only; omega) hm0 (by omega) h0) ?_ hok
    refine ⟨fun y hy => ?_, ⟨[], rfl⟩⟩
    exact absurd hy (by show y ∉ ([] : List Lock); simp)
  obtain ⟨o1, w, o2⟩ := hov
  have htx : txnB t = true := by
    unfold txnB
    rw [decide_eq_true t0, decide_eq_true (show t.1 < 4 by omega), decide_eq_true t2, decide_eq_true (show t.2 ≤ 1048576 by omega)]; rfl
  have hwr := writes_is hM.store.ok htx
  rw [wrote_none o1] at hwr
  unfold r3
  simp only [e1, e2, e3, Option.bind_some, roomOk_true (show (2 * (1 + rs.length) + 192) * 80 ≤ 281474976710656 by omega), cond_true, app_eq, List.cons_append, List.nil_append]
  rw [e4]
  simp only [Option.bind_some, hwr, o2, decide_true, cond_true, List.length_cons]
  simp [idxI, idxN]

theorem rebuildStore {key v w : Int} (hk : i64 key) (hv : i64 v) (hw : i64 w) (yes : Bool) : r4 (key, v, w, yes) = some true := by
  obtain ⟨n, e1, n1, n2⟩ := two_is (a := 0) (by unfold i64; omega)
  have hc := two_ok n1 n2 (p := 3) (by omega) (by omega)
  obtain ⟨k, e2, k0, k1⟩ := picked_is key 8 hk (by omega)
  obtain ⟨x, e3, x0, x1⟩ := picked_is v 99 hv (by omega)
  obtain ⟨y, e4, y0, y1⟩ := picked_is w 99 hw (by omega)
  have q1r : Cf.RecOk (n, ([(0, 0), (1, 0)], 3)) (5, (0, 1), 0, 0, 0, false, []) :=
    ⟨by simp, by simp, by simp, by simp only; omega, by simp, by simp, by simp, by simp, by simp, by simp, by simp, by simp, by simp, List.Pairwise.nil, by simp, ⟨_, rfl, fun _ => rfl, fun _ => rfl, fun _ => rfl, fun _ => rfl, fun _ => rfl⟩⟩
  have q2r : Cf.RecOk (n, ([(0, 0), (1, 0)], 3)) (1, (0, 1), k, x, 1, false, []) :=
    ⟨by simp, by simp, by simp, by simp only; omega, by simp, by simp, k0, k1, x0, by simp only; omega, by simp, by simp, by simp, List.Pairwise.nil, by simp, ⟨_, rfl, fun h => (by cases h), fun h => (by cases h), fun h => (by cases h), fun _ => rfl, fun _ => rfl⟩⟩
  have q3r : Cf.RecOk (n, ([(0, 0), (1, 0)], 3)) (2, (0, 1), 0, 0, 0, yes, []) :=
    ⟨by simp, by simp, by simp, by simp only; omega, by simp, by simp, by simp, by simp, by simp, by simp, by simp, by simp, by simp, List.Pairwise.nil, by simp, ⟨_, rfl, fun _ => rfl, fun _ => rfl, fun _ => rfl, fun h => (by cases h), fun _ => rfl⟩⟩
  have q4r : Cf.RecOk (n, ([(0, 0), (1, 0)], 3)) (1, (0, 2), k, y, 1, false, []) :=
    ⟨by simp, by simp, by simp, by simp only; omega, by simp, by simp, k0, k1, y0, by simp only; omega, by simp, by simp, by simp, List.Pairwise.nil, by simp, ⟨_, rfl, fun h => (by cases h), fun h => (by cases h), fun h => (by cases h), fun _ => rfl, fun _ => rfl⟩⟩
  obtain ⟨e5, hM⟩ := rebuild_is hc (me := 0) (by omega) (by simp only; omega) (rs := [(5, (0, 1), 0, 0, 0, false, []), (1, (0, 1), k, x, 1, false, []), (2, (0, 1), 0, 0, 0, yes, []), (1, (0, 2), k, y, 1, false, [])]) (by simp) (fun r hr => by
    simp only [List.mem_cons, List.not_mem_nil, or_false] at hr
    rcases hr with rfl | rfl | rfl | rfl
    · exact q1r
    · exact q2r
    · exact q3r
    · exact q4r)
  have hm : madeM 0 [(5, (0, 1), 0, 0, 0, false, []), (1, (0, 1), k, x, 1, false, []), (2, (0, 1), 0, 0, 0, yes, []), (1, (0, 2), k, y, 1, false, [])] = (0, ((if yes = true then [(k, x, 1)] else []), [((0, 2), k, true, y, 1)], [((0, 2), 0)], [(0, 1)]), (2, []), []) := by
    cases yes <;> simp [show max (1 : Int) 2 = 2 from rfl, madeM, stepM, writeR, endR, noSto, endItems, stepI, overWith, isT, isD, itemOf, doubtsWith, putItem]
  rw [hm] at e5 hM
  have hb : txnB ((0 : Int), (2 : Int)) = true := rfl
  have hok := hM.store.ok
  have he := built_end_is hM.store (by simp) hb false
  have heok := (built_end hM.store (by simp) hb false).ok
  have hend : endR ((if yes = true then [(k, x, 1)] else []), [((0, 2), k, true, y, 1)], [((0, 2), 0)], [(0, 1)]) (0, 2) false = ((if yes = true then [(k, x, 1)] else []), [], [], [(0, 1), (0, 2)]) := by
    cases yes <;> simp [endR, endItems, stepI, overWith, isT, isD]
  simp only at he heok hok
  rw [hend] at he heok
  have hpk := peek_is heok k0 k1
  have hpk2 : peekR ((if yes = true then [(k, x, 1)] else []), [], [], [(0, 1), (0, 2)]) k = if yes = true then (x, 1, 0) else (0, 0, 0) := by
    cases yes <;> simp [peekR, itemOf]
  rw [hpk2] at hpk
  have hwr := writes_is hok hb
  have hcnt : ([((0, 2), k, true, y, 1)] : List Lock).countP (wrote (0, 2)) = 1 := by simp [wrote]
  simp only at hwr
  rw [hcnt] at hwr
  unfold r4
  simp only [e1, e2, e3, e4, e5, he, hpk, hwr, Option.bind_some]
  cases yes <;> simp

theorem sameInts_is {l : List Int} (hl : l.length ≤ 1000) : r23 (l, l) = some true := by
  have l0 : loopR (r23_L0 (l, l)) (0 : Int) = some (.inl ()) := by
    refine all_loop (xs := l) (by omega) (fun i x hx => ?_) ?_
    · obtain ⟨e1, e2, -⟩ := in_len hx
      unfold r23_L0
      simp only [e1, e2, cond_true, Option.bind_some, decide_true, Bool.not_true, cond_false]
    · unfold r23_L0
      simp only [at_len, cond_false]
  unfold r23
  simp only [decide_true, Bool.not_true, cond_false, l0, Option.bind_some, Sum.elim_inl]

theorem rebuildDesk {a sites : Int} (ha : i64 a) (hs : i64 sites) (ended : Bool) : r5 (a, sites, ended) = some true := by
  have hc : Cf.CfgOk ((3 : Int), ([((0 : Int), (0 : Int))], (2 : Int))) := ⟨by simp, by simp, by simp, by simp, fun l hl => by
    simp only [List.mem_singleton] at hl
    rw [hl]; exact ⟨by decide, by decide, by decide, by decide⟩, by simp, by simp, by simp⟩
  obtain ⟨q, e1, q0, q1⟩ := picked_is a 50 ha (by omega)
  obtain ⟨t, l, e2, l1, l2, l3⟩ := Cf.sites_is hc hs
  have hw := one_add q0 (show q < 1000 by omega)
  have hw2 : Go.IntKind.wrap .i64 ((1 + q) + 1) = 1 + q + 1 := wrap_i64 (by unfold i64; omega)
  have q1r : Cf.RecOk ((3 : Int), ([((0 : Int), (0 : Int))], (2 : Int))) (5, (0, 1 + q), 0, 0, 0, false, []) :=
    ⟨by simp, by simp, by simp, by simp, by simp only; omega, by simp only; omega, by simp, by simp, by simp, by simp, by simp, by simp, by simp, List.Pairwise.nil, by simp, ⟨_, rfl, fun _ => rfl, fun _ => rfl, fun _ => rfl, fun _ => rfl, fun _ => rfl⟩⟩
  have q2r : Cf.RecOk ((3 : Int), ([((0 : Int), (0 : Int))], (2 : Int))) (3, (0, 1 + q), 0, 0, 0, false, l) :=
    ⟨by simp, by simp, by simp, by simp, by simp only; omega, by simp only; omega, by simp, by simp, by simp, by simp, by simp, by simp, l1, l2, l3, ⟨_, rfl, fun _ => rfl, fun _ => rfl, fun _ => rfl, fun _ => rfl, fun h => (by cases h)⟩⟩
  have q3r : Cf.RecOk ((3 : Int), ([((0 : Int), (0 : Int))], (2 : Int))) (4, (0, 1 + q), 0, 0, 0, false, []) :=
    ⟨by simp, by simp, by simp, by simp, by simp only; omega, by simp only; omega, by simp, by simp, by simp, by simp, by simp, by simp, by simp, List.Pairwise.nil, by simp, ⟨_, rfl, fun _ => rfl, fun _ => rfl, fun _ => rfl, fun _ => rfl, fun _ => rfl⟩⟩
  have hbase : ∀ r ∈ ([(5, (0, 1 + q), 0, 0, 0, false, []), (3, (0, 1 + q), 0, 0, 0, false, l)] : List Rec), Cf.RecOk ((3 : Int), ([((0 : Int), (0 : Int))], (2 : Int))) r := fun r hr => by
    simp only [List.mem_cons, List.not_mem_nil, or_false] at hr
    rcases hr with rfl | rfl
    · exact q1r
    · exact q2r
  have hfull : ∀ r ∈ ([(5, (0, 1 + q), 0, 0, 0, false, []), (3, (0, 1 + q), 0, 0, 0, false, l), (4, (0, 1 + q), 0, 0, 0, false, [])] : List Rec), Cf.RecOk ((3 : Int), ([((0 : Int), (0 : Int))], (2 : Int))) r := fun r hr => by
    simp only [List.mem_cons, List.not_mem_nil, or_false] at hr
    rcases hr with rfl | rfl | rfl
    · exact q1r
    · exact q2r
    · exact q3r
  have m1 : madeM 0 [(5, (0, 1 + q), 0, 0, 0, false, []), (3, (0, 1 + q), 0, 0, 0, false, l)] = (0, noSto, (1 + q + 1, if l = [] then [] else [(1 + q, 3, [], l, 0, 0)]), []) := by
    have hmax : max (1 : Int) (1 + q + 1) = 1 + q + 1 := by omega
    have hlt : ¬ (1 + q + 1 ≤ 1 + q) := by omega
    by_cases e : l = [] <;> simp [madeM, stepM, newJob, e, hmax, hlt]
  have m2 : madeM 0 [(5, (0, 1 + q), 0, 0, 0, false, []), (3, (0, 1 + q), 0, 0, 0, false, l), (4, (0, 1 + q), 0, 0, 0, false, [])] = (0, noSto, (1 + q + 1, []), []) := by
    have : madeM 0 [(5, (0, 1 + q), 0, 0, 0, false, []), (3, (0, 1 + q), 0, 0, 0, false, l), (4, (0, 1 + q), 0, 0, 0, false, [])] = stepM (madeM 0 [(5, (0, 1 + q), 0, 0, 0, false, []), (3, (0, 1 + q), 0, 0, 0, false, l)]) (4, (0, 1 + q), 0, 0, 0, false, []) := rfl
    rw [this, m1]
    by_cases e : l = [] <;> simp [stepM, e, isJ]
  have o1 : madeM 1 [(5, (0, 1 + q), 0, 0, 0, false, []), (3, (0, 1 + q), 0, 0, 0, false, l)] = (1, noSto, (1, []), []) := by
    simp [madeM, stepM]
  have o2 : madeM 1 [(5, (0, 1 + q), 0, 0, 0, false, []), (3, (0, 1 + q), 0, 0, 0, false, l), (4, (0, 1 + q), 0, 0, 0, false, [])] = (1, noSto, (1, []), []) := by
    simp [madeM, stepM]
  unfold r5
  simp only [e1, e2, hw, hw2, Option.bind_some]
  cases ended with
  | true =>
    obtain ⟨f1, g1⟩ := rebuild_is hc (me := 0) (by omega) (by simp) (rs := [(5, (0, 1 + q), 0, 0, 0, false, []), (3, (0, 1 + q), 0, 0, 0, false, l), (4, (0, 1 + q), 0, 0, 0, false, [])]) (by simp) hfull
    obtain ⟨f2, -⟩ := rebuild_is hc (me := 1) (by omega) (by simp) (rs := [(5, (0, 1 + q), 0, 0, 0, false, []), (3, (0, 1 + q), 0, 0, 0, false, l), (4, (0, 1 + q), 0, 0, 0, false, [])]) (by simp) hfull
    have g2 := desk_ok hc g1.desk
    rw [m2] at f1 g2
    rw [o2] at f2
    simp only at f1 f2 g2
    simp only [cond_true, app_eq, List.cons_append, List.nil_append, Option.bind_some, f1, f2, g2, decide_true, Bool.not_true, Bool.not_false, cond_false, List.length_nil, show decide (((0 : Nat) : Int) = 0) = true from rfl]
  | false =>
    obtain ⟨f1, g1⟩ := rebuild_is hc (me := 0) (by omega) (by simp) (rs := [(5, (0, 1 + q), 0, 0, 0, false, []), (3, (0, 1 + q), 0, 0, 0, false, l)]) (by simp) hbase
    obtain ⟨f2, -⟩ := rebuild_is hc (me := 1) (by omega) (by simp) (rs := [(5, (0, 1 + q), 0, 0, 0, false, []), (3, (0, 1 + q), 0, 0, 0, false, l)]) (by simp) hbase
    have g2 := desk_ok hc g1.desk
    rw [m1] at f1 g2
    rw [o1] at f2
    simp only at f1 f2 g2
    simp only [cond_false, Option.bind_some, f1, f2, g2, decide_true, Bool.not_true, Bool.not_false, cond_true, List.length_nil, show decide (((0 : Nat) : Int) = 0) = true from rfl]
    by_cases e : l = []
    · simp [e]
    · have hne : ¬ ((l.length : Int) = 0) := fun h => e (List.eq_nil_of_length_eq_zero (by omega))
      simp only [if_neg e, decide_eq_false hne, cond_false]
      simp [idxI, idxN, sameInts_is (show l.length ≤ 1000 by omega)]

end Go.Hr
