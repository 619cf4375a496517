import Derived.Test.YtiheccjebnamcaaHbOne
import Derived.Test.YtiheccjebnamcaaHaRun
namespace Go.Hb
open Go.RowKit Go.Proofs Go.V

abbrev Sto := (List ((Int × (Int × Int))) × (List (((Int × Int) × (Int × (Bool × (Int × Int))))) × (List (((Int × Int) × Int)) × List ((Int × Int)))))

/-- The store of the one who waits. -/
def st (a : Int) : Sto := ([], [((0, 1), 3, true, 4, 1)], [((0, 1), a)], [])

theorem own_is {s : Sto} (h1 : s.1.length ≤ 2147483648) (h2 : s.2.1.length ≤ 2147483648) (h3 : s.2.2.1.length ≤ 2147483648) (h4 : s.2.2.2.length ≤ 2147483648) : r31 s = some s := by
  unfold r31
  rw [show r51 s.1 = some s.1 from nilR_clone (by omega), show r52 s.2.1 = some s.2.1 from nilR_clone (by omega), show r53 s.2.2.1 = some s.2.2.1 from nilR_clone (by omega), show r54 s.2.2.2 = some s.2.2.2 from nilR_clone (by omega)]
  rfl

theorem age18 (a : Int) (h0 : 0 ≤ a) (h1 : a ≤ 40) : r18 (st a) = some 0 := by
  have e1 : ¬ a < 0 := by omega
  have e2 : ¬ 1048576 < a := by omega
  simp [r18, st, r33, r33_L0, r34, r34_L0, r34_L1, r34_L2, r34_L3, r35, r35_L0, r35_L1, r55, r55_L0, okB, loopR_go, goL_inl, goL_inr, idxI, idxN, r46, r28, r49, r49_L0, IntKind.wrap, IntKind.signed, IntKind.bits, e1, e2]

theorem age18z : r18 ([], [], [], []) = some 0 := by
  simp [r18, r33, r33_L0, r34, r34_L2, r34_L3, r35, r35_L1, loopR_go, goL_inr]

theorem age14 : r14 (([], ([], ([], []))), ((0 : Int), (1 : Int)), (3 : Int), (4 : Int), (1 : Int)) = some (st 0, 0) := by
  have e : r31 ([], [], [], []) = some ([], [], [], []) := own_is (by decide) (by decide) (by decide) (by decide)
  simp [r14, r26, age18z, r46, r27, r27_L0, r28, r49, r49_L0, r29, r29_L0, r30, r36, r36_L0, e, r32, r55, r55_L0, loopR_go, goL_inr, idxI, idxN, inB, IntKind.wrap, IntKind.signed, IntKind.bits, roomOk, Nat.ble_eq_true_of_le, app, st]

theorem age15 (a p : Int) (h0 : 0 ≤ a) (h1 : a < p) (hp : p ≤ 6) : r15 (st a, p) = some (if a + 1 = p then (st 0, [(0, 1)], 0) else (st (a + 1), [], 0)) := by
  have e1 : ¬ p < 1 := by omega
  have e2 : ¬ 1048576 < p := by omega
  have e3 : Go.IntKind.wrap .i64 (a + 1) = a + 1 := wrap_i64 (by unfold i64; omega)
  have e4 : (p ≤ a + 1) = (a + 1 = p) := propext (by omega)
  have e5 : r31 (st a) = some (st a) := own_is (by show 0 ≤ _; omega) (by show 1 ≤ _; omega) (by show 1 ≤ _; omega) (by show 0 ≤ _; omega)
  have e6 : Go.IntKind.wrap .i64 1 = 1 := by decide
  have e7 : Go.IntKind.wrap .i64 p = p := wrap_i64 (by unfold i64; omega)
  by_cases h : a + 1 = p
  · simp [r15, age18 a h0 (by omega), e5]
    simp [r15_L0, loopR_go, goL_inl, goL_inr, idxN, inB, e1, e2, e6, e7, h, roomOk, Nat.ble_eq_true_of_le, app, st]
  · simp [r15, age18 a h0 (by omega), e5]
    simp [r15_L0, loopR_go, goL_inl, goL_inr, idxN, inB, e1, e2, e3, e4, e6, h, st]

/-- What of the counts holds after so many ticks. -/
theorem age3 (p n : Int) (hp : 0 ≤ p) (hp6 : p < 6) (hn : 0 ≤ n) (hn40 : n < 40) :
    ∃ r, loopR (r3_L0 n p) ((), ((0 : Int), ((0 : Int), st 0))) = some r ∧ ∃ a, 0 ≤ a ∧ a < p + 1 ∧ ∃ q, r = .inl ((), q, st a) ∧ n = q * (p + 1) + a := by
  refine loop_rule (fun d => ∃ a q i, d = ((), q, i, st a) ∧ 0 ≤ a ∧ a < p + 1 ∧ 0 ≤ q ∧ q ≤ i ∧ i ≤ n ∧ i = q * (p + 1) + a) (fun d => (n - d.2.2.1).toNat) _ ?_ _ ⟨0, 0, 0, rfl, by omega, by omega, by omega, by omega, hn, by omega⟩
  rintro _ ⟨a, q, i, rfl, h0, h1, h2, h3, h4, h5⟩
  have e0 : Go.IntKind.wrap .i64 (1 + p) = p + 1 := by rw [wrap_i64 (by unfold i64; omega)]; omega
  have e1 : Go.IntKind.wrap .i64 (i + 1) = i + 1 := wrap_i64 (by unfold i64; omega)
  have e2 : Go.IntKind.wrap .i64 (q + 1) = q + 1 := wrap_i64 (by unfold i64; omega)
  have e3 : Go.IntKind.wrap .i64 q = q := wrap_i64 (by unfold i64; omega)
  by_cases h : i < n
  · left
    by_cases h6 : a + 1 = p + 1
    · refine ⟨((), q + 1, i + 1, st 0), by simp [r3_L0, h, e0, age15 a (p + 1) h0 h1 (by omega), h6, e1, e2], ⟨0, q + 1, i + 1, rfl, by omega, by omega, by omega, by omega, by omega, ?_⟩, by simp only; omega⟩
      rw [Int.add_mul]; omega
    · refine ⟨((), q, i + 1, st (a + 1)), by simp [r3_L0, h, e0, age15 a (p + 1) h0 h1 (by omega), h6, e1, e3], ⟨a + 1, q, i + 1, rfl, by omega, by omega, by omega, by omega, by omega, by omega⟩, by simp only; omega⟩
  · right
    exact ⟨.inl ((), q, st a), by simp [r3_L0, h], a, h0, h1, q, rfl, by omega⟩

theorem picked_is (a n : Int) (ha : i64 a) (hn : 0 < n) : ∃ q, r13 (a, n) = some q ∧ 0 ≤ q ∧ q < n := by
  unfold i64 at ha
  have hn0 : ¬ n = 0 := by omega
  by_cases h : a < 0
  · have e1 : Go.IntKind.wrap .i64 (a + 1) = a + 1 := wrap_i64 (by unfold i64; omega)
    have e2 : Go.IntKind.wrap .i64 (0 - (a + 1)) = 0 - (a + 1) := wrap_i64 (by unfold i64; omega)
    have e2' : Go.IntKind.wrap .i64 (-(a + 1)) = 0 - (a + 1) := by rw [← e2]; congr 1; omega
    refine ⟨Int.tmod (0 - (a + 1)) n, by simp [r13, h, e1, e2', hn0], Int.tmod_nonneg _ (by omega), Int.tmod_lt_of_pos _ hn⟩
  · refine ⟨Int.tmod a n, by simp [r13, h, hn0], Int.tmod_nonneg _ (by omega), Int.tmod_lt_of_pos _ hn⟩

theorem ageAsks (a b : Int) (ha : i64 a) (hb : i64 b) : r3 (a, b) = some true := by
  obtain ⟨p, hp, hp0, hp6⟩ := picked_is a 6 ha (by omega)
  obtain ⟨n, hn, hn0, hn40⟩ := picked_is b 40 hb (by omega)
  obtain ⟨_, hr, x, hx0, hx1, q, rfl, hq⟩ := age3 p n hp0 hp6 hn0 hn40
  have e0 : Go.IntKind.wrap .i64 (1 + p) = p + 1 := by rw [wrap_i64 (by unfold i64; omega)]; omega
  have e3 : Int.tdiv n (p + 1) = q := by
    rw [Int.tdiv_eq_ediv_of_nonneg hn0, hq, Int.add_comm, Int.add_mul_ediv_right _ _ (by omega), Int.ediv_eq_zero_of_lt hx0 hx1]; omega
  have hq0 : 0 ≤ q := by rw [← e3, Int.tdiv_eq_ediv_of_nonneg hn0]; exact Int.ediv_nonneg hn0 (by omega)
  have hqn : q ≤ n := by rw [← e3, Int.tdiv_eq_ediv_of_nonneg hn0]; exact Int.ediv_le_self _ hn0
  have e4 : Go.IntKind.wrap .i64 q = q := wrap_i64 (by unfold i64; omega)
  have e5 : ¬ p + 1 = 0 := by omega
  simp [r3, hp, hn, age14, hr, e0, e3, e4, e5]
  rfl
end Go.Hb
