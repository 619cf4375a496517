/- Records made of raw numbers, and what may be a record. -/
import Derived.Test.YtmiibfolfflbmaaDoorHrCfg
namespace Go.Hr.Cf
open Go.RowKit Go.Proofs Go.V

abbrev Cfg := Int × (List (Int × Int) × Int)
abbrev Raw := Int × (Int × (Int × (Int × (Int × Int))))
abbrev Rec := Int × ((Int × Int) × (Int × (Int × (Int × (Bool × List Int)))))
abbrev Parts := Bool × (Bool × (Bool × (Bool × (Bool × (Bool × (Bool × Bool))))))

structure RawOk (x : Raw) : Prop where
  k : i64 x.1
  a : i64 x.2.1
  b : i64 x.2.2.1
  c : i64 x.2.2.2.1
  d : i64 x.2.2.2.2.1
  e : i64 x.2.2.2.2.2

def txnOk (c : Cfg) (t : Int × Int) : Bool := ((decide (0 ≤ t.1) && decide (t.1 < c.1)) && decide (1 ≤ t.2)) && decide (t.2 ≤ 1048576)
theorem txn_is (c : Cfg) (t : Int × Int) : r61 (c, t) = some (txnOk c t) := by
  unfold r61
  simp only [bif_some, and_bif, Option.bind_some]
  rfl
def keyOk (k : Int) : Bool := decide (0 ≤ k) && decide (k < 8)
theorem key_is (k : Int) : r62 k = some (keyOk k) := by
  unfold r62
  simp only [bif_some, and_bif]
  rfl
def valueOk (k : Int) : Bool := decide (0 ≤ k) && decide (k ≤ 1073741824)
theorem value_is (k : Int) : r63 k = some (valueOk k) := by
  unfold r63
  simp only [bif_some, and_bif]
  rfl
def askOk (k : Int) : Bool := decide (0 ≤ k) && decide (k ≤ 1048576)
theorem askOk_is (k : Int) : r64 k = some (askOk k) := by
  unfold r64
  simp only [bif_some, and_bif]
  rfl

structure RecOk (c : Cfg) (r : Rec) : Prop where
  k0 : 1 ≤ r.1
  k1 : r.1 ≤ 6
  x0 : 0 ≤ r.2.1.1
  x1 : r.2.1.1 < c.1
  n0 : 1 ≤ r.2.1.2
  n1 : r.2.1.2 ≤ 1048576
  y0 : 0 ≤ r.2.2.1
  y1 : r.2.2.1 < 8
  v0 : 0 ≤ r.2.2.2.1
  v1 : r.2.2.2.1 ≤ 1073741824
  a0 : 0 ≤ r.2.2.2.2.1
  a1 : r.2.2.2.2.1 ≤ 1048576
  s : ∀ x ∈ r.2.2.2.2.2.2, 0 ≤ x ∧ x < c.1
  up : r.2.2.2.2.2.2.Pairwise (· < ·)
  sl : r.2.2.2.2.2.2.length ≤ 3
  form : ∃ p, idxI tab1 r.1 = some p ∧ (p.2.1 = false → r.2.2.1 = 0) ∧ (p.2.2.1 = false → r.2.2.2.1 = 0) ∧ (p.2.2.2.2.1 = false → r.2.2.2.2.1 = 0) ∧ (p.2.2.2.2.2.1 = false → r.2.2.2.2.2.1 = false) ∧ (p.2.2.2.2.2.2.2 = false → r.2.2.2.2.2.2 = [])

theorem check_loop {c : Cfg} {r : Rec} (hs : ∀ x ∈ r.2.2.2.2.2.2, 0 ≤ x ∧ x < c.1) (hu : r.2.2.2.2.2.2.Pairwise (· < ·)) (hl : r.2.2.2.2.2.2.length ≤ 1000) : loopR (r35_L0 (c, r)) 0 = some (.inl ()) := by
  obtain ⟨q, h1, h2⟩ := loop_rule (body := r35_L0 (c, r)) (fun i => 0 ≤ i ∧ i ≤ r.2.2.2.2.2.2.length) (fun i => r.2.2.2.2.2.2.length - i.toNat) (fun q => q = .inl ()) (fun i hi => by
    obtain ⟨g0, g1⟩ := hi
    unfold r35_L0
    simp only
    by_cases hlt : i < r.2.2.2.2.2.2.length
    · obtain ⟨x, e1, e2⟩ := idxI_is (xs := r.2.2.2.2.2.2) g0 hlt
      have hx := hs x (List.mem_of_getElem? e2)
      rw [decide_eq_true hlt, e1]
      simp only [cond_true, Option.bind_some]
      rw [decide_eq_false (by omega : ¬ x < 0), decide_eq_false (by omega : ¬ c.1 ≤ x)]
      simp only [Bool.not_false, cond_true, Option.bind_some]
      refine .inl ⟨i + 1, ?_, by omega, by omega⟩
      by_cases h0 : 0 < i
      · obtain ⟨y, f1, f2⟩ := idxI_is (xs := r.2.2.2.2.2.2) (n := i - 1) (by omega) (by omega)
        rw [decide_eq_true h0, wrap_i64 (n := i - 1) (by unfold i64; omega), f1]
        have hyx : y < x := by
          obtain ⟨u1, u2⟩ := List.getElem?_eq_some_iff.mp e2
          obtain ⟨v1, v2⟩ := List.getElem?_eq_some_iff.mp f2
          rw [← u2, ← v2]
          exact List.pairwise_iff_getElem.mp hu _ _ v1 u1 (by omega)
        simp only [cond_true, Option.bind_some]
        rw [decide_eq_false (by omega : ¬ x ≤ y), wrap_i64 (n := i + 1) (by unfold i64; omega)]
        rfl
      · rw [decide_eq_false h0, wrap_i64 (n := i + 1) (by unfold i64; omega)]
        rfl
    · exact .inr ⟨_, by rw [decide_eq_false hlt]; rfl, rfl⟩) 0 ⟨by omega, by omega⟩
  rw [h1, h2]

theorem rec_ok {c : Cfg} (hc : CfgOk c) {r : Rec} (h : RecOk c r) : r35 (c, r) = some 0 := by
  obtain ⟨p, hp, z1, z2, z3, z4, z5⟩ := h.form
  have k0 := h.k0
  have k1 := h.k1
  have e1 : txnOk c r.2.1 = true := by
    unfold txnOk
    rw [decide_eq_true h.x0, decide_eq_true h.x1, decide_eq_true h.n0, decide_eq_true h.n1]; rfl
  have e2 : keyOk r.2.2.1 = true := by unfold keyOk; rw [decide_eq_true h.y0, decide_eq_true h.y1]; rfl
  have e3 : valueOk r.2.2.2.1 = true := by unfold valueOk; rw [decide_eq_true h.v0, decide_eq_true h.v1]; rfl
  have e4 : askOk r.2.2.2.2.1 = true := by unfold askOk; rw [decide_eq_true h.a0, decide_eq_true h.a1]; rfl
  unfold r35
  simp only [check_ok hc, Option.bind_some, txn_is, key_is, value_is, askOk_is, e1, e2, e3, e4, check_loop h.s h.up (by have := h.sl; omega), hp]
  rw [decide_eq_false (by omega : ¬ r.1 < 1), decide_eq_false (by omega : ¬ 6 < r.1)]
  simp only [Bool.not_true, Bool.not_false, decide_true, cond_true, cond_false, Option.bind_some, Sum.elim_inl]
  cases h1 : p.2.1 <;> cases h2 : p.2.2.1 <;> cases h3 : p.2.2.2.2.1 <;> cases h4 : p.2.2.2.2.2.1 <;> cases h5 : p.2.2.2.2.2.2.2 <;>
    simp_all

theorem txnMade {c : Cfg} (hc : CfgOk c) {a b : Int} (ha : i64 a) (hb : i64 b) : ∃ t, r14 (c, a, b) = some t ∧ 0 ≤ t.1 ∧ t.1 < c.1 ∧ 1 ≤ t.2 ∧ t.2 ≤ 6 := by
  have s0 := hc.s0
  obtain ⟨x, e1, f1, g1⟩ := picked_is (m := c.1) ha (by omega)
  obtain ⟨y, e2, f2, g2⟩ := picked_is (m := 6) hb (by omega)
  have w : Go.IntKind.wrap .i64 (1 + y) = 1 + y := wrap_i64 (by unfold i64; omega)
  refine ⟨(x, 1 + y), ?_, f1, g1, by simp only; omega, by simp only; omega⟩
  unfold r14
  simp only [e1, e2, w, Option.bind_some]

theorem sites_loop {c : Cfg} (hc : CfgOk c) {b : Raw} (hb : RawOk b) {t1 t2 : Int} : ∃ l : List Int, loopR (r21_L0 (c, b)) ((), ((0 : Int), ((3 : Int), (t1, (t2, ((0 : Int), ((0 : Int), ((0 : Int), (false, []))))))))) = some ((), ((3 : Int), (t1, (t2, ((0 : Int), ((0 : Int), ((0 : Int), (false, l)))))))) ∧
    (∀ x ∈ l, 0 ≤ x ∧ x < c.1) ∧ l.Pairwise (· < ·) ∧ (l.length : Int) ≤ c.1 := by
  have s0 := hc.s0
  have s1 := hc.s1
  obtain ⟨y, ey, -, -⟩ := picked_is (m := 16) hb.c (by omega)
  obtain ⟨q, h1, l, rfl, h2, h3, h4⟩ := loop_rule (body := r21_L0 (c, b)) (fun d => 0 ≤ d.2.1 ∧ d.2.1 ≤ c.1 ∧ ∃ l : List Int, d.2.2 = ((3 : Int), (t1, (t2, ((0 : Int), ((0 : Int), ((0 : Int), (false, l))))))) ∧ (∀ x ∈ l, 0 ≤ x ∧ x < d.2.1) ∧ l.Pairwise (· < ·) ∧ (l.length : Int) ≤ d.2.1)
    (fun d => (c.1 - d.2.1).toNat) (fun q => ∃ l : List Int, q = ((), ((3 : Int), (t1, (t2, ((0 : Int), ((0 : Int), ((0 : Int), (false, l)))))))) ∧ (∀ x ∈ l, 0 ≤ x ∧ x < c.1) ∧ l.Pairwise (· < ·) ∧ (l.length : Int) ≤ c.1) (fun d hd => by
    obtain ⟨u, s, f⟩ := d
    obtain ⟨g0, g1, l, g2, g3, g4, g5⟩ := hd
    simp only at g0 g1 g2 g3 g5
    subst g2
    unfold r21_L0
    simp only
    by_cases hlt : s < c.1
    · rw [decide_eq_true hlt, ey]
      simp only [cond_true, Option.bind_some]
      rw [decide_eq_false (by omega : ¬ s < 0), wrap_i64 (n := s + 1) (by unfold i64; omega), roomOk_true (by omega), app_eq]
      simp only [cond_true, cond_false]
      cases decide ((Int.tmod (Int.fdiv y (2 ^ (min (Int.toNat s) (Go.IntKind.bits .i64)))) (2 : Int)) = (1 : Int)) with
      | true =>
        refine .inl ⟨((), (s + 1, ((3 : Int), (t1, (t2, ((0 : Int), ((0 : Int), ((0 : Int), (false, l ++ [s]))))))))), rfl, ⟨by simp only; omega, by simp only; omega, l ++ [s], rfl, fun x hx => ?_, ?_, ?_⟩, by simp only; omega⟩
        · simp only
          rcases List.mem_append.1 hx with hx | hx
          · have := g3 x hx; omega
          · simp only [List.mem_singleton] at hx; omega
        · refine List.pairwise_append.2 ⟨g4, List.pairwise_singleton _ _, fun x hx y hy => ?_⟩
          simp only [List.mem_singleton] at hy
          have := g3 x hx; omega
        · simp only [List.length_append, List.length_singleton]; omega
      | false =>
        refine .inl ⟨((), (s + 1, ((3 : Int), (t1, (t2, ((0 : Int), ((0 : Int), ((0 : Int), (false, l))))))))), rfl, ⟨by simp only; omega, by simp only; omega, l, rfl, fun x hx => ?_, g4, by simp only; omega⟩, by simp only; omega⟩
        simp only
        have := g3 x hx; omega
    · refine .inr ⟨_, by rw [decide_eq_false hlt]; rfl, l, rfl, fun x hx => ?_, g4, by omega⟩
      have := g3 x hx; omega) ((), ((0 : Int), ((3 : Int), (t1, (t2, ((0 : Int), ((0 : Int), ((0 : Int), (false, []))))))))) ⟨by simp, by simp only; omega, [], rfl, fun x hx => by simp at hx, List.Pairwise.nil, by simp⟩
  exact ⟨l, h1, h2, h3, h4⟩

theorem rec_is {c : Cfg} (hc : CfgOk c) {b : Raw} (hb : RawOk b) : ∃ r, r21 (c, b) = some r ∧ RecOk c r := by
  have s0 := hc.s0
  have s1 := hc.s1
  obtain ⟨k, e1, f1, g1⟩ := picked_is (m := 6) hb.k (by omega)
  obtain ⟨⟨t1, t2⟩, e2, f2, g2, h2, i2⟩ := txnMade hc hb.a hb.b
  simp only at f2 g2 h2 i2
  obtain ⟨ke, e3, f3, g3⟩ := picked_is (m := 8) hb.c (by omega)
  obtain ⟨va, e4, f4, g4⟩ := picked_is (m := 1073741824) hb.d (by omega)
  obtain ⟨ak, e5, f5, g5⟩ := picked_is (m := 9) hb.e (by omega)
  obtain ⟨ye, e6, f6, g6⟩ := picked_is (m := 2) hb.c (by omega)
  obtain ⟨l, e7, f7, g7, h7⟩ := sites_loop hc hb (t1 := t1) (t2 := t2)
  have hw : Go.IntKind.wrap .i64 (1 + k) = 1 + k := wrap_i64 (by unfold i64; omega)
  have hk : k = 0 ∨ k = 1 ∨ k = 2 ∨ k = 3 ∨ k = 4 ∨ k = 5 := by omega
  unfold r21
  simp only [e1, e2, e3, e4, e5, e6, hw, Option.bind_some]
  rcases hk with rfl | rfl | rfl | rfl | rfl | rfl
  · exact ⟨(1, ((t1, t2), (ke, (va, (ak, (false, [])))))), rfl, by omega, by omega, f2, g2, h2, by simp only; omega, f3, g3, f4, by simp only; omega, f5, by simp only; omega, fun x hx => by simp at hx, List.Pairwise.nil, by simp, _, rfl, fun h => (by cases h), fun h => (by cases h), fun h => (by cases h), fun _ => rfl, fun _ => rfl⟩
  · exact ⟨(2, ((t1, t2), (0, (0, (0, (decide (ye = 1), [])))))), rfl, by simp only; omega, by simp only; omega, f2, g2, h2, by simp only; omega, by simp only; omega, by simp only; omega, by simp only; omega, by simp only; omega, by simp only; omega, by simp only; omega, fun x hx => by simp at hx, List.Pairwise.nil, by simp, _, rfl, fun _ => rfl, fun _ => rfl, fun _ => rfl, fun h => (by cases h), fun _ => rfl⟩
  · have e7' : loopR (r21_L0 (c, b)) ((), ((0 : Int), ((1 : Int) + 2, (t1, (t2, ((0 : Int), ((0 : Int), ((0 : Int), (false, []))))))))) = some ((), ((3 : Int), (t1, (t2, ((0 : Int), ((0 : Int), ((0 : Int), (false, l)))))))) := e7
    rw [e7']
    exact ⟨(3, ((t1, t2), (0, (0, (0, (false, l)))))), rfl, by simp only; omega, by simp only; omega, f2, g2, h2, by simp only; omega, by simp only; omega, by simp only; omega, by simp only; omega, by simp only; omega, by simp only; omega, by simp only; omega, f7, g7, by simp only; omega, _, rfl, fun _ => rfl, fun _ => rfl, fun _ => rfl, fun _ => rfl, fun h => (by cases h)⟩
  · exact ⟨(4, ((t1, t2), (0, (0, (0, (false, [])))))), rfl, by simp only; omega, by simp only; omega, f2, g2, h2, by simp only; omega, by simp only; omega, by simp only; omega, by simp only; omega, by simp only; omega, by simp only; omega, by simp only; omega, fun x hx => by simp at hx, List.Pairwise.nil, by simp, _, rfl, fun _ => rfl, fun _ => rfl, fun _ => rfl, fun _ => rfl, fun _ => rfl⟩
  · exact ⟨(5, ((t1, t2), (0, (0, (0, (false, [])))))), rfl, by simp only; omega, by simp only; omega, f2, g2, h2, by simp only; omega, by simp only; omega, by simp only; omega, by simp only; omega, by simp only; omega, by simp only; omega, by simp only; omega, fun x hx => by simp at hx, List.Pairwise.nil, by simp, _, rfl, fun _ => rfl, fun _ => rfl, fun _ => rfl, fun _ => rfl, fun _ => rfl⟩
  · exact ⟨(6, ((t1, t2), (0, (0, (0, (decide (ye = 1), [])))))), rfl, by simp only; omega, by simp only; omega, f2, g2, h2, by simp only; omega, by simp only; omega, by simp only; omega, by simp only; omega, by simp only; omega, by simp only; omega, by simp only; omega, fun x hx => by simp at hx, List.Pairwise.nil, by simp, _, rfl, fun _ => rfl, fun _ => rfl, fun _ => rfl, fun h => (by cases h), fun _ => rfl⟩

end Go.Hr.Cf
