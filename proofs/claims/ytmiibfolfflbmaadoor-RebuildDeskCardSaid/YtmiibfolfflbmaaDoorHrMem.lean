/- What records make of memory: a record's step. -/
import Derived.Test.YtmiibfolfflbmaaDoorHrStep
namespace Go.Hr
open Go.RowKit Go.Proofs Go.V

theorem up_get {l : List Job} (h : l.Pairwise fun x y => x.1 < y.1) {i j : Nat} {x y : Job} (hij : i < j) (hx : l[i]? = some x) (hy : l[j]? = some y) : x.1 < y.1 := by
  obtain ⟨h1, rfl⟩ := List.getElem?_eq_some_iff.mp hx
  obtain ⟨h2, rfl⟩ := List.getElem?_eq_some_iff.mp hy
  exact List.pairwise_iff_getElem.1 h i j h1 h2 hij

theorem job_at (d : Unit × (Int × Mem)) (r : Rec) (hl : d.2.2.2.2.1.2.length ≤ 1000) (hu : d.2.2.2.2.1.2.Pairwise fun x y => x.1 < y.1) (hb : ∀ j ∈ d.2.2.2.2.1.2, 0 ≤ j.1 ∧ j.1 ≤ 2000000) (r0 : 0 ≤ r.2.1.2) (r1 : r.2.1.2 ≤ 2000000) :
    ∃ n : Nat, loopR (r16_L2 d r) ((0 : Int), (d.2.2.2.2.1.2.length : Int)) = some (n : Int) ∧ n ≤ d.2.2.2.2.1.2.length ∧ (∀ (m : Nat) x, m < n → d.2.2.2.2.1.2[m]? = some x → x.1 < r.2.1.2) ∧ (∀ (m : Nat) x, n ≤ m → d.2.2.2.2.1.2[m]? = some x → r.2.1.2 ≤ x.1) := by
  generalize hL : d.2.2.2.2.1.2 = l at *
  generalize hk : r.2.1.2 = k at *
  obtain ⟨q, h1, n, h2, h3, h4, h5⟩ := loop_rule (body := r16_L2 d r) (fun d => 0 ≤ d.1 ∧ d.1 ≤ d.2 ∧ d.2 ≤ l.length ∧ (∀ (m : Nat) x, (m : Int) < d.1 → l[m]? = some x → x.1 < k) ∧ ∀ (m : Nat) x, d.2 ≤ (m : Int) → l[m]? = some x → k ≤ x.1) (fun d => (d.2 - d.1).toNat)
    (fun q => ∃ n : Nat, q = n ∧ n ≤ l.length ∧ (∀ (m : Nat) x, m < n → l[m]? = some x → x.1 < k) ∧ ∀ (m : Nat) x, n ≤ m → l[m]? = some x → k ≤ x.1) (fun e he => by
    obtain ⟨i, j⟩ := e
    obtain ⟨d0, d1, d2, d3, d4⟩ := he
    simp only at d0 d1 d2 d3 d4
    unfold r16_L2
    simp only [hL, hk]
    by_cases g : i < j
    · rw [mid_is d0 d1 (by omega), decide_eq_true g]
      obtain ⟨c, hc⟩ : ∃ c : Nat, (i + j) / 2 = (c : Int) := ⟨((i + j) / 2).toNat, by omega⟩
      rw [hc]
      have c0 : i ≤ c := by omega
      have c1 : (c : Int) < j := by omega
      have hx : l[c]? = some l[c] := List.getElem?_eq_getElem (by omega)
      obtain ⟨e1, e2, e3, e4⟩ := in_len hx
      have hbx := hb _ (List.mem_of_getElem? hx)
      generalize l[c] = x at hx e4 hbx
      have hw : Go.IntKind.wrap .i64 ((c : Int) + 1) = (c : Int) + 1 := wrap_i64 (by unfold i64; omega)
      have hw2 : Go.IntKind.wrap .i64 (x.1 - k) = x.1 - k := wrap_i64 (by unfold i64; omega)
      simp only [cond_true, e3, Int.toNat_natCast, e4, Option.bind_some, hw, hw2]
      by_cases q : x.1 - k < 0
      · simp only [decide_eq_true q, cond_true]
        refine .inl ⟨_, rfl, ⟨by simp only; omega, by simp only; omega, d2, fun m y hm hy => ?_, d4⟩, by simp only; omega⟩
        simp only at hm
        by_cases e : m = c
        · rw [e, hx] at hy
          cases hy; omega
        · have := up_get hu (show m < c by omega) hy hx
          omega
      · simp only [decide_eq_false q, cond_false]
        refine .inl ⟨_, rfl, ⟨d0, by simp only; omega, by simp only; omega, d3, fun m y hm hy => ?_⟩, by simp only; omega⟩
        simp only at hm
        by_cases e : m = c
        · rw [e, hx] at hy
          cases hy; omega
        · have := up_get hu (show c < m by omega) hx hy
          omega
    · rw [decide_eq_false g]
      have : i = j := by omega
      subst this
      exact .inr ⟨_, rfl, i.toNat, by omega, by omega, fun m y hm hy => d3 m y (by omega) hy, fun m y hm hy => d4 m y (by omega) hy⟩) (0, (l.length : Int)) ⟨by simp, by simp, by simp, fun m x hm => by simp only at hm; omega, fun m x hm hx => by
      have := (List.getElem?_eq_some_iff.mp hx).1
      simp only at hm
      omega⟩
  subst h2
  exact ⟨n, h1, h3, h4, h5⟩

theorem jobs_any {l : List Job} {n : Nat} {k : Int} (hn : n ≤ l.length) (h1 : ∀ (m : Nat) x, m < n → l[m]? = some x → x.1 < k) (h2 : ∀ (m : Nat) x, n ≤ m → l[m]? = some x → k ≤ x.1) (hu : l.Pairwise fun x y => x.1 < y.1) : (l.any fun j => decide (j.1 = k)) = match l[n]? with | some x => decide (x.1 = k) | none => false := by
  rw [Bool.eq_iff_iff, List.any_eq_true]
  constructor
  · rintro ⟨x, hx, e⟩
    have e := of_decide_eq_true e
    obtain ⟨m, hm⟩ := List.getElem?_of_mem hx
    by_cases c1 : m < n
    · have := h1 m x c1 hm; omega
    · by_cases c2 : m = n
      · rw [← c2, hm]
        exact decide_eq_true e
      · have hml := (List.getElem?_eq_some_iff.mp hm).1
        have hy : l[n]? = some l[n] := List.getElem?_eq_getElem (by omega)
        have := h2 n _ (Nat.le_refl _) hy
        have := up_get hu (show n < m by omega) hy hm
        omega
  · intro e
    cases hx : l[n]? with
    | none => rw [hx] at e; cases e
    | some x =>
      rw [hx] at e
      exact ⟨x, List.mem_of_getElem? hx, e⟩

theorem step_is {c : Conf} (hc : c.1 ≤ 4) {n : Nat} {m : Mem} (h : MemOk c n m) (hn : n ≤ 500) {r : Rec} (hr : Cf.RecOk c r) {a : Conf × (Int × List Rec)} {i : Nat} (hx : a.2.2[i]? = some r) :
    r16_L7 a ((), ((i : Int), m)) = some (.inl ((), ((Go.IntKind.wrap .i64 ((i : Int) + 1)), stepM m r))) := by
  obtain ⟨e1, e2, -⟩ := in_len hx
  have ht := rec_txn hc hr
  have hnl := h.notes
  have hjl := h.desk.few
  have hx0 := hr.x0
  have hn0 := hr.n0
  have hn1 := hr.n1
  unfold r16_L7
  simp only [e1, e2, cond_true, Option.bind_some]
  have hk : r.1 = 1 ∨ r.1 = 2 ∨ r.1 = 3 ∨ r.1 = 4 ∨ r.1 = 5 ∨ r.1 = 6 := by have := hr.k0; have := hr.k1; omega
  rcases hk with k | k | k | k | k | k
  · simp only [k, decide_true, cond_true, write_is h.store.ok ht hr.y0 hr.y1 hr.v0 hr.v1 hr.a0 hr.a1, Option.bind_some]
    unfold stepM
    rw [if_pos k]
    by_cases e : (writeR m.2.1 r.2.1 r.2.2.1 r.2.2.2.1 r.2.2.2.2.1).2 = 0
    · rw [if_pos e, decide_eq_true e]; rfl
    · rw [if_neg e, decide_eq_false e]; rfl
  · simp only [k, show decide ((2 : Int) = 1) = false from rfl, decide_true, cond_true, cond_false, built_end_is h.store (by omega) ht r.2.2.2.2.2.1, Option.bind_some, decide_true]
    have hnt := notes_loop ((), ((), (m.1, (endR m.2.1 r.2.1 r.2.2.2.2.2.1, m.2.2)))) r (by simp only; omega)
    simp only at hnt
    simp only [hnt, Option.bind_some]
    unfold stepM
    rw [if_neg (by omega), if_pos k]
  · obtain ⟨p, g1, g2, g3, g4⟩ := job_at ((), ((i : Int), m)) r (by simp only; omega) h.desk.up (fun j hj => by have q := h.desk.job j hj; have q0 := q.n0; have q1 := q.n1; have q2 := h.desk.n1; exact ⟨by omega, by omega⟩) (by omega) (by omega)
    simp only at g1 g2 g3 g4
    have hany := jobs_any g2 g3 g4 h.desk.up
    have hr98 : r98 r.2.2.2.2.2.2 = some r.2.2.2.2.2.2 := nilR_clone (by have := hr.sl; omega)
    obtain ⟨t1, t2⟩ := split_key (fun j : Job => j.1) g2 g3 g4
    simp only [k, show decide ((3 : Int) = 1) = false from rfl, show decide ((3 : Int) = 2) = false from rfl, show decide ((3 : Int) = 6) = false from rfl, decide_true, cond_true, cond_false]
    rw [g1]
    simp only [Option.bind_some]
    have hfind : (bif decide ((p : Int) < (m.2.2.1.2.length : Int)) then bif inB (p : Int) m.2.2.1.2.length then Option.bind (idxN m.2.2.1.2 (Int.toNat (p : Int))) fun (x : Job) => some ((p : Int), decide ((Go.IntKind.wrap .i64 (x.1 - r.2.1.2)) = (0 : Int))) else none else some ((p : Int), false)) = some ((p : Int), m.2.2.1.2.any fun j => decide (j.1 = r.2.1.2)) := by
      rw [hany]
      cases hp : m.2.2.1.2[p]? with
      | none =>
        have : m.2.2.1.2.length ≤ p := by rw [List.getElem?_eq_none_iff] at hp; exact hp
        rw [decide_eq_false (by omega)]; rfl
      | some x =>
        obtain ⟨f1, f2, f3, f4⟩ := in_len hp
        have hjb := h.desk.job x (List.mem_of_getElem? hp)
        have := hjb.n0; have := hjb.n1; have := h.desk.n1
        have hw2 : Go.IntKind.wrap .i64 (x.1 - r.2.1.2) = x.1 - r.2.1.2 := wrap_i64 (by unfold i64; omega)
        simp only [f1, f3, Int.toNat_natCast, f4, cond_true, Option.bind_some, hw2]
        congr 2
        rw [Bool.eq_iff_iff, decide_eq_true_eq, decide_eq_true_eq]
        omega
    rw [hfind]
    simp only [Option.bind_some]
    unfold stepM
    rw [if_neg (by omega), if_neg (by omega), if_neg (by omega), if_pos k]
    by_cases hs : m.2.2.1.2.any (fun j => decide (j.1 = r.2.1.2)) = true ∨ r.2.1.1 ≠ m.1 ∨ m.2.2.1.1 ≤ r.2.1.2 ∨ r.2.2.2.2.2.2 = [] ∨ m.2.2.1.2.length = 6
    · rw [if_pos hs]
      have hsk : (bif !(m.2.2.1.2.any fun j => decide (j.1 = r.2.1.2)) then bif !(!(decide (r.2.1.1 = m.1))) then bif !(decide (m.2.2.1.1 ≤ r.2.1.2)) then bif !(decide ((r.2.2.2.2.2.2.length : Int) = (0 : Int))) then some (decide ((m.2.2.1.2.length : Int) = (6 : Int))) else some true else some true else some true else some true) = some true := by
        rcases hs with e | e | e | e | e
        · rw [e]; rfl
        · cases m.2.2.1.2.any (fun j => decide (j.1 = r.2.1.2)) <;> simp [e]
        · cases m.2.2.1.2.any (fun j => decide (j.1 = r.2.1.2)) <;> simp [e]
        · cases m.2.2.1.2.any (fun j => decide (j.1 = r.2.1.2)) <;> simp [e]
        · cases m.2.2.1.2.any (fun j => decide (j.1 = r.2.1.2)) <;> simp [e]
      rw [hsk]
      rfl
    · rw [if_neg hs]
      have hs1 : m.2.2.1.2.any (fun j => decide (j.1 = r.2.1.2)) = false := by
        cases e : m.2.2.1.2.any (fun j => decide (j.1 = r.2.1.2)) with
        | true => exact absurd (.inl e) hs
        | false => rfl
      have hs2 : r.2.1.1 = m.1 := Decidable.byContradiction fun e => hs (.inr (.inl e))
      have hs3 : ¬ m.2.2.1.1 ≤ r.2.1.2 := fun e => hs (.inr (.inr (.inl e)))
      have hs4 : r.2.2.2.2.2.2 ≠ [] := fun e => hs (.inr (.inr (.inr (.inl e))))
      have hs5 : m.2.2.1.2.length ≠ 6 := fun e => hs (.inr (.inr (.inr (.inr e))))
      have hs6 : ¬ ((r.2.2.2.2.2.2.length : Int) = 0) := fun e => hs4 (List.eq_nil_of_length_eq_zero (by omega))
      have hins : r97 (m.2.2.1.2, ((p : Int), [newJob r])) = some (m.2.2.1.2.take p ++ (newJob r :: m.2.2.1.2.drop p)) := by
        unfold r97 insR
        simp only [decide_eq_true (show (0 : Int) ≤ (p : Int) by omega), decide_eq_true (show (p : Int) ≤ (m.2.2.1.2.length : Int) by omega), roomOk_true (show (2 * (m.2.2.1.2.length + [newJob r].length) + 192) * 80 ≤ 281474976710656 by simp; omega), Bool.and_self, cond_true, Int.toNat_natCast, app_eq]
        rfl
      have hins' : r97 (m.2.2.1.2, ((p : Int), [(r.2.1.2, ((3 : Int), ([], (r.2.2.2.2.2.2, ((0 : Int), (0 : Int))))))])) = _ := hins
      simp only [hs1, decide_eq_true hs2, decide_eq_false hs3, decide_eq_false hs6, decide_eq_false (show ¬ ((m.2.2.1.2.length : Int) = 6) by omega), Bool.not_true, Bool.not_false, cond_true, cond_false, Option.bind_some, hr98, hins', Sum.elim_inl]
      rw [t1, t2]
  · have hfd := job_find ((), ((i : Int), m)) r (by simp only; omega)
    simp only at hfd
    simp only [k, show decide ((4 : Int) = 1) = false from rfl, show decide ((4 : Int) = 2) = false from rfl, show decide ((4 : Int) = 6) = false from rfl, show decide ((4 : Int) = 3) = false from rfl, decide_true, cond_true, cond_false]
    rw [hfd]
    simp only [Option.bind_some]
    unfold stepM
    rw [if_neg (by omega), if_neg (by omega), if_neg (by omega), if_neg (by omega), if_pos k]
    cases e : m.2.2.1.2.findIdx? (isJ m.1 r) with
    | none => rw [find_all e]; rfl
    | some j =>
      obtain ⟨p, ys, g1, g2, g3⟩ := job_del r m (by omega) e
      obtain ⟨c1, c2, c3⟩ := cut_is g2 ((0 : Int), ((0 : Int), (([] : List Task), (([] : List Int), ((0 : Int), (0 : Int))))))
      rw [decide_eq_false (show ¬ idxOr (some j) = (-1 : Int) by simp [idxOr])]
      simp only [idxOr, cond_false, g1, Option.bind_some, c1, c2, c3, cond_true, g3]
  · simp only [k, show decide ((5 : Int) = 1) = false from rfl, show decide ((5 : Int) = 2) = false from rfl, show decide ((5 : Int) = 6) = false from rfl, show decide ((5 : Int) = 3) = false from rfl, show decide ((5 : Int) = 4) = false from rfl, decide_true, cond_true, cond_false]
    unfold stepM
    rw [if_neg (by omega), if_neg (by omega), if_neg (by omega), if_neg (by omega), if_neg (by omega)]
    have hw : Go.IntKind.wrap .i64 (r.2.1.2 + 1) = r.2.1.2 + 1 := wrap_i64 (by unfold i64; omega)
    by_cases e : r.2.1.1 = m.1
    · rw [if_pos ⟨k, e⟩, decide_eq_true e, hw]; rfl
    · rw [if_neg (fun q => e q.2), decide_eq_false e]; rfl
  · simp only [k, show decide ((6 : Int) = 1) = false from rfl, show decide ((6 : Int) = 2) = false from rfl, decide_true, cond_true, cond_false, built_end_is h.store (by omega) ht r.2.2.2.2.2.1, Option.bind_some, decide_true]
    rw [roomOk_true (show (2 * (m.2.2.2.length + 1) + 192) * 24 ≤ 281474976710656 by omega)]
    unfold stepM
    rw [if_neg (by omega), if_neg (by omega), if_pos k]
    simp only [cond_true, Option.bind_some, app_eq]

end Go.Hr
