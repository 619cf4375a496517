/- What records make of memory: it is what may be. -/
import Derived.Test.YtmiibfolfflbmaaDoorHrMem
namespace Go.Hr
open Go.RowKit Go.Proofs Go.V

theorem step_me (m : Mem) (r : Rec) : (stepM m r).1 = m.1 := by
  unfold stepM
  repeat' split
  all_goals rfl

theorem drop_ge {k : Int} : ∀ {l : List Job}, (l.Pairwise fun x y => x.1 < y.1) → ∀ x ∈ l.dropWhile (fun j => decide (j.1 < k)), k ≤ x.1
  | [], _, x, hx => by cases hx
  | a :: l, h, x, hx => by
    rw [List.dropWhile_cons] at hx
    rw [List.pairwise_cons] at h
    split at hx
    · exact drop_ge h.2 x hx
    · rename_i g
      have g : ¬ a.1 < k := fun e => g (decide_eq_true e)
      rcases List.mem_cons.1 hx with rfl | e
      · omega
      · have := h.1 x e; omega

theorem take_lt {k : Int} : ∀ {l : List Job}, ∀ x ∈ l.takeWhile (fun j => decide (j.1 < k)), x.1 < k
  | [], x, hx => by cases hx
  | a :: l, x, hx => by
    rw [List.takeWhile_cons] at hx
    split at hx
    · rename_i g
      rcases List.mem_cons.1 hx with rfl | e
      · exact of_decide_eq_true g
      · exact take_lt x e
    · cases hx

theorem step_ok {c : Conf} (hc : c.1 ≤ 4) {n : Nat} {m : Mem} (h : MemOk c n m) (hn : n ≤ 500) {r : Rec} (hr : Cf.RecOk c r) : MemOk c (n + 1) (stepM m r) := by
  have ht := rec_txn hc hr
  have hs := h.store.more (Nat.le_succ n)
  have hno : m.2.2.2.length ≤ n + 1 := by have := h.notes; omega
  have hn0 := hr.n0
  have hn1 := hr.n1
  unfold stepM
  split
  · split
    · rename_i e
      exact ⟨built_write h.store (by omega) ht hr.y0 hr.y1 hr.v0 hr.v1 hr.a0 hr.a1 e, h.desk, hno⟩
    · exact ⟨hs, h.desk, hno⟩
  · split
    · exact ⟨built_end h.store (by omega) ht _, h.desk, by simp only [List.length_map]; exact hno⟩
    · split
      · exact ⟨built_end h.store (by omega) ht _, h.desk, by have := h.notes; simp only [List.length_append, List.length_singleton]; omega⟩
      · split
        · split
          · exact ⟨hs, h.desk, hno⟩
          · rename_i hsk
            have hs2 : r.2.1.1 = m.1 := Decidable.byContradiction fun e => hsk (.inr (.inl e))
            have hs3 : ¬ m.2.2.1.1 ≤ r.2.1.2 := fun e => hsk (.inr (.inr (.inl e)))
            have hs4 : r.2.2.2.2.2.2 ≠ [] := fun e => hsk (.inr (.inr (.inr (.inl e))))
            have hs5 : m.2.2.1.2.length ≠ 6 := fun e => hsk (.inr (.inr (.inr (.inr e))))
            have hs1 : ∀ j ∈ m.2.2.1.2, j.1 ≠ r.2.1.2 := fun j hj e => hsk (.inl (List.any_eq_true.2 ⟨j, hj, decide_eq_true e⟩))
            have hd := h.desk
            have hsplit := List.takeWhile_append_dropWhile (p := fun j : Job => decide (j.1 < r.2.1.2)) (l := m.2.2.1.2)
            have hlen := congrArg List.length hsplit
            rw [List.length_append] at hlen
            refine ⟨hs, ⟨hd.n0, hd.n1, ?_, ?_, fun j hj => ?_⟩, hno⟩
            · have := hd.few
              simp only [List.length_append, List.length_cons]; omega
            · refine List.pairwise_append.2 ⟨hd.up.sublist (List.takeWhile_sublist _), List.pairwise_cons.2 ⟨fun y hy => ?_, hd.up.sublist (List.dropWhile_sublist _)⟩, fun x hx y hy => ?_⟩
              · have h1 := drop_ge hd.up y hy
                have h2 := hs1 y ((List.dropWhile_sublist _).mem hy)
                show r.2.1.2 < y.1
                omega
              · have h1 := take_lt x hx
                rcases List.mem_cons.1 hy with rfl | e
                · exact h1
                · have := drop_ge hd.up y e; omega
            · rcases List.mem_append.1 hj with e | e
              · exact hd.job j ((List.takeWhile_sublist _).mem e)
              · rcases List.mem_cons.1 e with rfl | e
                · exact ⟨hn0, by show r.2.1.2 < m.2.2.1.1; omega, rfl, rfl, hr.s, hr.up, hs4, hr.sl, rfl, rfl⟩
                · exact hd.job j ((List.dropWhile_sublist _).mem e)
        · split
          · have hd := h.desk
            exact ⟨hs, ⟨hd.n0, hd.n1, Nat.le_trans (List.length_filter_le _ _) hd.few, hd.up.sublist List.filter_sublist, fun j hj => hd.job j (List.mem_filter.1 hj).1⟩, hno⟩
          · split
            · have hd := h.desk
              have d0 := hd.n0
              have d1 := hd.n1
              refine ⟨hs, ⟨by simp only; omega, by simp only; omega, hd.few, hd.up, fun j hj => ?_⟩, hno⟩
              have q := hd.job j hj
              have q1 := q.n1
              exact ⟨q.n0, by simp only; omega, q.st, q.tasks, q.asked, q.up, q.some, q.few, q.ask, q.idle⟩
            · exact ⟨hs, h.desk, hno⟩

/-- What records make. -/
def madeM (me : Int) (rs : List Rec) : Mem := rs.foldl stepM (me, noSto, (1, []), [])

theorem madeM_start (c : Conf) (me : Int) : MemOk c 0 (me, noSto, (1, []), []) :=
  ⟨built_nil, ⟨by simp, by simp, by simp, List.Pairwise.nil, by simp⟩, by simp⟩

theorem rebuild_is {c : Conf} (hc : Cf.CfgOk c) {me : Int} (m0 : 0 ≤ me) (m1 : me < c.1) {rs : List Rec} (hl : rs.length ≤ 400) (hr : ∀ r ∈ rs, Cf.RecOk c r) :
    r16 (c, me, rs) = some ((madeM me rs).2.1, ((madeM me rs).2.2.1, ((madeM me rs).2.2.2, 0))) ∧ MemOk c rs.length (madeM me rs) := by
  have hc4 : c.1 ≤ 4 := by have := hc.s1; omega
  have hck := Cf.check_ok hc
  have l0 := (fold_loop (body := r16_L0 (c, me, rs)) (xs := rs) (emb := fun i s => ((), ((), (i, s)))) (out := fun s => (.inl ((), ((), s)))) (fun s _ => s) (fun _ _ => True) (by omega) (fun i x s hx _ => by
    obtain ⟨e1, e2, -⟩ := in_len hx
    refine ⟨?_, trivial⟩
    unfold r16_L0
    simp only [e1, e2, cond_true, Option.bind_some, Cf.rec_ok hc (hr x (List.mem_of_getElem? hx)), decide_true, Bool.not_true, cond_false]) (fun s _ => by
    unfold r16_L0
    simp only [at_len, cond_false]) (s0 := ((noSto : Sto), ((0 : Int), ([] : List Job)))) trivial).1
  have hconst : ∀ (l : List Rec) (s : Sto × Desk), l.foldl (fun s (_ : Rec) => s) s = s := fun l => by
    induction l with
    | nil => intro s; rfl
    | cons a l ih => intro s; rw [List.foldl_cons]; exact ih s
  rw [hconst] at l0
  obtain ⟨l7, hM⟩ := fold_loop (body := r16_L7 (c, me, rs)) (xs := rs) (emb := fun i m => ((), (i, m))) (out := fun m => ((), m)) stepM (fun i m => i ≤ 400 ∧ MemOk c i m) (by omega) (fun i x m hx hI => by
    have hlt := (List.getElem?_eq_some_iff.mp hx).1
    exact ⟨step_is hc4 hI.2 (by omega) (hr x (List.mem_of_getElem? hx)) hx, by omega, step_ok hc4 hI.2 (by omega) (hr x (List.mem_of_getElem? hx))⟩) (fun m _ => by
    unfold r16_L7
    simp only [at_len, cond_false]) (s0 := ((me, noSto, (1, []), []) : Mem)) ⟨by omega, madeM_start c me⟩
  refine ⟨?_, hM.2⟩
  unfold r16
  simp only [hck, Option.bind_some, decide_true, Bool.not_true, Bool.not_false, cond_true, cond_false, decide_eq_false (show ¬ me < 0 by omega), decide_eq_false (show ¬ c.1 ≤ me by omega)]
  rw [show loopR (r16_L0 (c, me, rs)) ((), ((), ((0 : Int), (([], ([], ([], []))), ((0 : Int), []))))) = some (.inl ((), ((), (noSto, ((0 : Int), []))))) from l0]
  simp only [Option.bind_some, Sum.elim_inl]
  rw [show loopR (r16_L7 (c, me, rs)) ((), ((0 : Int), (me, (([], ([], ([], []))), (((1 : Int), []), []))))) = some ((), madeM me rs) from l7]
  rfl

theorem job_ok {c : Conf} {d : Desk} (_hn : d.1 ≤ 1048577) {j : Job} (h : JobOk c d.1 j) : r48 (c, d, j) = some true := by
  have h1 := h.n0
  have h2 := h.n1
  have h3 := h.few
  have hpos : (0 : Int) < (j.2.2.2.1.length : Int) := by
    have := List.length_pos_iff.2 h.some
    omega
  have l0 : loopR (r48_L0 (c, d, j)) (0 : Int) = some (.inl ()) := by
    refine all_loop (xs := j.2.2.1) (by rw [h.tasks]; simp) (fun i x hx => by rw [h.tasks] at hx; simp at hx) ?_
    unfold r48_L0
    simp only [at_len, cond_false]
  have l1 : loopR (r48_L1 (c, d, j)) (0 : Int) = some (.inl ()) := by
    refine all_loop (xs := j.2.2.2.1) (by omega) (fun i x hx => ?_) ?_
    · obtain ⟨e1, e2, -⟩ := in_len hx
      have hb := h.asked x (List.mem_of_getElem? hx)
      have hil := (List.getElem?_eq_some_iff.mp hx).1
      unfold r48_L1
      simp only [e1, e2, cond_true, Option.bind_some, decide_eq_false (show ¬ x < 0 by omega), decide_eq_false (show ¬ c.1 ≤ x by omega), Bool.not_false]
      by_cases g : (0 : Int) < (i : Int)
      · have hy : j.2.2.2.1[i - 1]? = some (j.2.2.2.1[i - 1]'(by omega)) := List.getElem?_eq_getElem (by omega)
        have hlt := List.pairwise_iff_getElem.1 h.up (i - 1) i (by omega) hil (by omega)
        have hxe : j.2.2.2.1[i] = x := by
          rw [List.getElem?_eq_getElem hil] at hx; exact Option.some.inj hx
        obtain ⟨f1, f2, -⟩ := in_len hy
        have hw : Go.IntKind.wrap .i64 ((i : Int) - 1) = ((i - 1 : Nat) : Int) := by
          rw [wrap_i64 (by unfold i64; omega)]; omega
        rw [hxe] at hlt
        simp only [decide_eq_true g, cond_true, hw, f2, Option.bind_some, decide_eq_false (show ¬ x ≤ j.2.2.2.1[i - 1] by omega), cond_false]
      · simp only [decide_eq_false g, cond_false, Option.bind_some]
    · unfold r48_L1
      simp only [at_len, cond_false]
  unfold r48
  simp only [decide_eq_false (show ¬ j.1 < 1 by omega), decide_eq_false (show ¬ d.1 ≤ j.1 by omega), h.idle, h.ask, h.st, h.tasks, l0, l1, List.length_nil, Bool.not_false, cond_true, cond_false, Option.bind_some, Sum.elim_inl, decide_eq_true hpos,
    show decide ((0 : Int) < 0) = false from rfl, show decide ((1048576 : Int) < 0) = false from rfl, show decide ((3 : Int) < 1) = false from rfl, show decide ((3 : Int) < 3) = false from rfl, show decide ((10 : Int) < ((0 : Nat) : Int)) = false from rfl]
  rfl

theorem desk_ok {c : Conf} (hc : Cf.CfgOk c) {d : Desk} (h : DeskOk c d) : r22 (c, d) = some 0 := by
  have h1 := h.n0
  have h2 := h.n1
  have h3 := h.few
  have l0 : loopR (r22_L0 (c, d)) (0 : Int) = some (.inl ()) := by
    refine all_loop (xs := d.2) (by omega) (fun i x hx => ?_) ?_
    · obtain ⟨e1, e2, -⟩ := in_len hx
      have hil := (List.getElem?_eq_some_iff.mp hx).1
      unfold r22_L0
      simp only [e1, e2, cond_true, Option.bind_some, job_ok h.n1 (h.job x (List.mem_of_getElem? hx)), Bool.not_true, Bool.not_false]
      by_cases g : (0 : Int) < (i : Int)
      · have hy : d.2[i - 1]? = some (d.2[i - 1]'(by omega)) := List.getElem?_eq_getElem (by omega)
        have hlt := up_get h.up (show i - 1 < i by omega) hy hx
        obtain ⟨f1, f2, -⟩ := in_len hy
        have hw : Go.IntKind.wrap .i64 ((i : Int) - 1) = ((i - 1 : Nat) : Int) := by
          rw [wrap_i64 (by unfold i64; omega)]; omega
        simp only [decide_eq_true g, cond_true, hw, f2, Option.bind_some, decide_eq_false (show ¬ x.1 ≤ d.2[i - 1].1 by omega), cond_false]
      · simp only [decide_eq_false g, cond_false, Option.bind_some]
    · unfold r22_L0
      simp only [at_len, cond_false]
  unfold r22
  simp only [Cf.check_ok hc, decide_true, Bool.not_true, Bool.not_false, cond_true, cond_false, Option.bind_some, decide_eq_false (show ¬ d.1 < 1 by omega), decide_eq_false (show ¬ (1048577 : Int) < d.1 by omega), decide_eq_false (show ¬ (6 : Int) < (d.2.length : Int) by omega), l0, Sum.elim_inl]

end Go.Hr
