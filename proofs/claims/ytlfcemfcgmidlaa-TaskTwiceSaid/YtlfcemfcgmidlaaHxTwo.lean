/- Calls of one transaction: GetDown and TaskTwice. -/
import Derived.Test.YtlfcemfcgmidlaaHxCall
namespace Go.Hx
open Go.RowKit Go.Proofs Go.V
abbrev two1 (n : Int) : Conf := (n, ([(0, 0), (1, 0)], 3))
theorem two_is {a : Int} (ha : i64 a) : ∃ n, r5 a = some (two1 n) ∧ 1 ≤ n ∧ n ≤ 3 := by
  obtain ⟨v, h1, h2, h3⟩ := Cf.picked_is (m := 3) ha (by omega)
  refine ⟨1 + v, ?_, by omega, by omega⟩
  have hw : Go.IntKind.wrap .i64 (1 + v) = 1 + v := wrap_i64 (by unfold i64; omega)
  unfold r5
  simp only [h1, Option.bind_some, hw]
theorem two_ok {n : Int} (h1 : 1 ≤ n) (h2 : n ≤ 3) : Cf.CfgOk (two1 n) :=
  ⟨h1, h2, by simp, by simp, by intro l hl; simp at hl; rcases hl with rfl | rfl <;> (refine ⟨?_, ?_, ?_, ?_⟩ <;> simp), by simp, by simp, by simp⟩
theorem ints_self {l : List Int} (h : l.length ≤ 1000) : r17 (l, l) = some true := by
  have l0 : loopR (r17_L0 (l, l)) (0 : Int) = some (.inl ()) := by
    refine all_loop (xs := l) (by omega) (fun i x hx => ?_) ?_
    · obtain ⟨e1, e2, -⟩ := in_len hx
      unfold r17_L0
      simp only [e1, e2, cond_true, Option.bind_some, decide_true, Bool.not_true, cond_false]
    · unfold r17_L0
      simp only [at_len, cond_false]
  unfold r17
  simp only [decide_true, Bool.not_true, cond_false, l0, Option.bind_some, Sum.elim_inl]
/-- A desk is the same as itself. -/
theorem desk_self {d : Desk} (hd : d.2.length ≤ 1000) (hj : ∀ j ∈ d.2, j.2.2.1.length ≤ 1000 ∧ j.2.2.2.1.length ≤ 1000) : r8 (d, d) = some true := by
  have l0 : ∀ b : Job, b.2.2.1.length ≤ 1000 → loopR (r8_L0 b b) (0 : Int) = some (.inl ()) := fun b hb => by
    refine all_loop (xs := b.2.2.1) (by omega) (fun i x hx => ?_) ?_
    · obtain ⟨e1, e2, -⟩ := in_len hx
      unfold r8_L0
      simp only [e1, e2, cond_true, Option.bind_some, decide_true, Bool.and_self, Bool.not_true, cond_false]
    · unfold r8_L0
      simp only [at_len, cond_false]
  have l1 : loopR (r8_L1 (d, d)) (0 : Int) = some (.inl ()) := by
    refine all_loop (xs := d.2) (by omega) (fun i x hx => ?_) ?_
    · obtain ⟨e1, e2, -⟩ := in_len hx
      obtain ⟨h1, h2⟩ := hj x (List.mem_of_getElem? hx)
      unfold r8_L1
      simp only [e1, e2, cond_true, Option.bind_some, decide_true, Bool.not_true, Bool.not_false, cond_false, ints_self h2, l0 x h1, Sum.elim_inl]
    · unfold r8_L1
      simp only [at_len, cond_false]
  unfold r8
  simp only [decide_true, Bool.not_true, Bool.not_false, cond_true, cond_false, Option.bind_some, l1, Sum.elim_inl]
section
variable {c : Conf} {l me : Int} {d : Desk} {room : Int} {x : Int × (Int × (Int × (Int × Int)))}
theorem call_begin (hc : c.1 ≤ 4) (hk : r29 c = some 0) (hd : DeskOk c d) (l0 : 0 ≤ l) (l1 : l < c.2.1.length) (m0 : 0 ≤ me) (m1 : me < c.1) (hx : x.1 = 1) :
    r6 (c, (l, (me, (d, (room, x))))) = Option.bind (r10 (mkW c l me d.1 d.2 [] [] [] 0 0, room)) fun z => some (z.2.2.2, 0) := by
  have hck := desk_ok hc hk hd
  have how := own_is hc hd
  unfold r6
  simp only [hck, how, Option.bind_some, decide_true, Bool.not_true, Bool.not_false, cond_true, cond_false, decide_eq_false (show ¬ l < 0 by omega), decide_eq_false (show ¬ (c.2.1.length : Int) ≤ l by omega), decide_eq_false (show ¬ me < 0 by omega), decide_eq_false (show ¬ c.1 ≤ me by omega),
    decide_eq_false (show ¬ x.1 < 1 by omega), decide_eq_false (show ¬ 5 < x.1 by omega), decide_eq_true hx]
  rfl
theorem call_no (hc : c.1 ≤ 4) (hk : r29 c = some 0) (hd : DeskOk c d) (l0 : 0 ≤ l) (l1 : l < c.2.1.length) (m0 : 0 ≤ me) (m1 : me < c.1) (x0 : 2 ≤ x.1) (x1 : x.1 ≤ 5)
    {e : Int} (hr : r11 (mkW c l me d.1 d.2 [] [] [] 0 0, x) = some (e, mkW c l me d.1 d.2 [] [] [] 0 0)) (he : e ≠ 0) :
    r6 (c, (l, (me, (d, (room, x))))) = some ((d, ([], ([], ([(me, (x.1, (x.2.1, (x.2.2.2.1, (0, e)))))], (0, 0))))), 0) := by
  have hck := desk_ok hc hk hd
  have how := own_is hc hd
  have h3 : roomOk false 0 1 48 = true := roomOk_true (by omega)
  unfold r6
  simp only [hck, how, Option.bind_some, decide_true, Bool.not_true, Bool.not_false, cond_true, cond_false, decide_eq_false (show ¬ l < 0 by omega), decide_eq_false (show ¬ (c.2.1.length : Int) ≤ l by omega), decide_eq_false (show ¬ me < 0 by omega), decide_eq_false (show ¬ c.1 ≤ me by omega),
    decide_eq_false (show ¬ x.1 < 1 by omega), decide_eq_false (show ¬ 5 < x.1 by omega), decide_eq_false (show ¬ x.1 = 1 by omega)]
  rw [show r11 ((c, (l, (me, (d, ([], ([], ([], ((0 : Int), (0 : Int))))))))), x) = some (e, mkW c l me d.1 d.2 [] [] [] 0 0) from hr]
  simp only [Option.bind_some, decide_eq_false he, Bool.not_false, cond_true]
  unfold mkW
  simp only [List.length_nil, h3, cond_true, Option.bind_some, app_eq, List.nil_append]
theorem call_task (hc : c.1 ≤ 4) (hk : r29 c = some 0) (hd : DeskOk c d) (l0 : 0 ≤ l) (l1 : l < c.2.1.length) (m0 : 0 ≤ me) (m1 : me < c.1) (x0 : x.1 = 2 ∨ x.1 = 3)
    (hr : r11 (mkW c l me d.1 d.2 [] [] [] 0 0, x) = some (0, mkW c l me d.1 d.2 [] [] [] 0 0)) {i : Int} (hp : r13 (mkW c l me d.1 d.2 [] [] [] 0 0, x.2.1) = some (i, mkW c l me d.1 d.2 [] [] [] 0 0))
    {z : Work} (hz : r14 (mkW c l me d.1 d.2 [] [] [] 0 0, (i, (decide (x.1 = 3), ((bif decide (x.1 = 3) then l else x.2.2.1), (x.2.2.2.1, ((bif decide (x.1 = 3) then x.2.2.2.2 else 0), (0, (0, (false, false))))))))) = some z) :
    r6 (c, (l, (me, (d, (room, x))))) = some (z.2.2.2, 0) := by
  have hck := desk_ok hc hk hd
  have how := own_is hc hd
  have hx1 : 2 ≤ x.1 ∧ x.1 ≤ 3 := by omega
  unfold r6
  simp only [hck, how, Option.bind_some, decide_true, Bool.not_true, Bool.not_false, cond_true, cond_false, decide_eq_false (show ¬ l < 0 by omega), decide_eq_false (show ¬ (c.2.1.length : Int) ≤ l by omega), decide_eq_false (show ¬ me < 0 by omega), decide_eq_false (show ¬ c.1 ≤ me by omega),
    decide_eq_false (show ¬ x.1 < 1 by omega), decide_eq_false (show ¬ 5 < x.1 by omega), decide_eq_false (show ¬ x.1 = 1 by omega)]
  rw [show r11 ((c, (l, (me, (d, ([], ([], ([], ((0 : Int), (0 : Int))))))))), x) = some (0, mkW c l me d.1 d.2 [] [] [] 0 0) from hr]
  simp only [Option.bind_some, decide_true, Bool.not_true, cond_false, hp]
  rcases x0 with x0 | x0
  · rw [decide_eq_false (show ¬ x.1 = 3 by omega)] at hz
    simp only [cond_false] at hz
    rw [decide_eq_true x0]
    simp only [cond_true, hz, Option.bind_some]
  · rw [decide_eq_true x0] at hz
    simp only [cond_true] at hz
    rw [decide_eq_false (show ¬ x.1 = 2 by omega), decide_eq_true x0]
    simp only [cond_true, cond_false, hz, Option.bind_some]
end
/-- Who waits is refused. -/
theorem refuse_open {c : Conf} {l me next : Int} {A B : List Job} {j : Job} {T : List Task} {t : Task} {x : Int × (Int × (Int × (Int × Int)))} (hl : (A ++ j :: B).length ≤ 1000) (hn : j.1 = x.2.1) (hA : ∀ y ∈ A, y.1 ≠ x.2.1) (hs : j.2.1 = 1) (ht : j.2.2.1 = T ++ [t]) (hT : T.length ≤ 1000) (hd : t.2.2.2.2.2.2.1 = false) :
    r11 (mkW c l me next (A ++ j :: B) [] [] [] 0 0, x) = some (14, mkW c l me next (A ++ j :: B) [] [] [] 0 0) := by
  have hp := place_is (mkW c l me next (A ++ j :: B) [] [] [] 0 0) x.2.1 hl
  rw [show (mkW c l me next (A ++ j :: B) [] [] [] 0 0).2.2.2.1.2 = A ++ j :: B from rfl, idx_some hn hA] at hp
  have hpos : decide ((0 : Int) < (((T ++ [t]).length : Nat) : Int)) = true := decide_eq_true (by simp)
  unfold r11
  simp only [hp, Option.bind_some, idxOr, decide_eq_false (show ¬ (A.length : Int) < 0 by omega), cond_false]
  unfold mkW
  simp only [inB_mid, Int.toNat_natCast, idx_mid, Option.bind_some, cond_true, hs, decide_true, Bool.not_true, cond_false, ht, hpos, wrap_end T _ (show T.length ≤ 1000000 by omega), hd, Bool.not_false]
/-- Who is new: what a task is refused for. -/
theorem refuse_new {c : Conf} {l me next : Int} {A B : List Job} {j : Job} {x : Int × (Int × (Int × (Int × Int)))} (hl : (A ++ j :: B).length ≤ 1000) (hn : j.1 = x.2.1) (hA : ∀ y ∈ A, y.1 ≠ x.2.1) (hs : j.2.1 = 1) (ht : j.2.2.1 = []) (hk : j.2.2.2.2.1 = 0)
    (x0 : x.1 = 2 ∨ x.1 = 3) (y0 : 0 ≤ x.2.2.2.1) (y1 : x.2.2.2.1 < 8) (v0 : 0 ≤ x.2.2.2.2) (v1 : x.2.2.2.2 ≤ 1073741824) (l0 : 0 ≤ x.2.2.1) (l1 : x.2.2.1 < c.2.1.length) {p q : Int × Int} (hp' : idxI c.2.1 l = some p) (hq : idxI c.2.1 x.2.2.1 = some q) {b : Bool} (hb : r21 (p, q) = some b) (hb' : x.1 = 2 ∨ b = true) :
    r11 (mkW c l me next (A ++ j :: B) [] [] [] 0 0, x) = some ((bif b then 0 else 10), mkW c l me next (A ++ j :: B) [] [] [] 0 0) := by
  have hp := place_is (mkW c l me next (A ++ j :: B) [] [] [] 0 0) x.2.1 hl
  rw [show (mkW c l me next (A ++ j :: B) [] [] [] 0 0).2.2.2.1.2 = A ++ j :: B from rfl, idx_some hn hA] at hp
  unfold r11
  simp only [hp, Option.bind_some, idxOr, decide_eq_false (show ¬ (A.length : Int) < 0 by omega), cond_false]
  unfold mkW
  have hk3 : (bif !(decide (x.1 = 2)) then some (!(decide (x.1 = 3))) else some false) = some false := by
    rcases x0 with x0 | x0 <;> rw [x0] <;> rfl
  simp only [inB_mid, Int.toNat_natCast, idx_mid, Option.bind_some, cond_true, hs, decide_true, Bool.not_true, cond_false, ht, List.length_nil, Int.natCast_zero, Int.lt_irrefl, decide_false, hk3,
    decide_eq_false (show ¬ x.2.2.2.1 < 0 by omega), decide_eq_false (show ¬ 8 ≤ x.2.2.2.1 by omega), decide_eq_false (show ¬ x.2.2.2.2 < 0 by omega), decide_eq_false (show ¬ 1073741824 < x.2.2.2.2 by omega), Bool.not_false,
    decide_eq_false (show ¬ x.2.2.1 < 0 by omega), decide_eq_false (show ¬ (c.2.1.length : Int) ≤ x.2.2.1 by omega), hp', hq, hb, hk]
  rcases hb' with g | g
  · rw [decide_eq_true g]
    cases b <;> rfl
  · subst g
    cases decide (x.1 = 2) <;> rfl
/-- The desk of one that has begun. -/
abbrev job1 : Job := (1, (1, ([], ([], (0, 0)))))
theorem desk_none (n : Int) : DeskOk (two1 n) (1, []) := ⟨by simp, by simp, by simp, by simp, List.Pairwise.nil⟩
theorem job_one (n : Int) {ts : List Task} {k : Int} (hf : ts.length ≤ 10) (k0 : 0 ≤ k) (k1 : k ≤ 1048576) (ht : ∀ t ∈ ts, TaskOk (two1 n) t ∧ t.2.2.2.2.2.1 ≤ k) (hu : ts.Pairwise fun x y => x.2.2.2.2.2.1 < y.2.2.2.2.2.1)
    (hd : ∀ (i : Nat) t, ts[i]? = some t → t.2.2.2.2.2.2.1 = false → i + 1 = ts.length) : DeskOk (two1 n) (2, [(1, (1, (ts, ([], (k, 0)))))]) := by
  refine ⟨by simp, by simp, by simp, fun j hj => ?_, List.pairwise_singleton _ _⟩
  simp only [List.mem_singleton] at hj
  subst hj
  exact ⟨by simp, by simp, by simp, by simp, by simp, by simp, hf, k0, k1, ht, hu, fun i t h1 h2 => ⟨hd i t h1 h2, rfl⟩, by simp, List.Pairwise.nil, by simp⟩
theorem begin_one {n : Int} (h1 : 1 ≤ n) (h2 : n ≤ 3) : r6 (two1 n, ((0 : Int), ((0 : Int), (((1 : Int), []), ((6000 : Int), ((1 : Int), ((0 : Int), ((0 : Int), ((0 : Int), (0 : Int))))))))) ) = some ((((2 : Int), [job1]), ([], ([(5, ((0, 1), (0, (0, (0, (false, []))))))], ([(0, (1, (1, (0, (0, 0)))))], (0, 0))))), 0) := by
  rw [call_begin (show (two1 n).1 ≤ 4 by show n ≤ 4; omega) (Cf.check_ok (two_ok h1 h2)) (desk_none n) (by omega) (by simp) (by omega) (by show 0 < n; omega) rfl]
  rw [begun_is (by omega) (by omega) (by simp) (by simp) (by simp)]
  rfl
theorem taskTwice {a : Int × (Int × Bool)} (h1 : i64 a.1) (h2 : i64 a.2.1) : r4 a = some true := by
  obtain ⟨n, e1, n1, n2⟩ := two_is h1
  obtain ⟨k, e3, k0, k1⟩ := Cf.picked_is (m := 8) h2 (by omega)
  have hck := Cf.check_ok (two_ok n1 n2)
  have hd := job_one n (ts := []) (k := 0) (by simp) (by omega) (by omega) (by simp) List.Pairwise.nil (by simp)
  obtain ⟨a1, a2, w⟩ := a
  have key : ∀ (kd : Int), (kd = 2 ∨ kd = 3) → decide (kd = 3) = w → ∃ T : Turn, r6 (two1 n, ((0 : Int), ((0 : Int), (((2 : Int), [job1]), ((6000 : Int), (kd, ((1 : Int), ((0 : Int), (k, (0 : Int)))))))))) = some (T, 0) ∧ T.2.2.2.1 = [] ∧
      r6 (two1 n, ((0 : Int), ((0 : Int), (T.1, ((6000 : Int), (kd, ((1 : Int), ((0 : Int), (k, (0 : Int)))))))))) = some ((T.1, ([], ([], ([(0, (kd, (1, (k, (0, 14)))))], (0, 0))))), 0) ∧
      r6 (two1 n, ((0 : Int), ((0 : Int), (T.1, ((6000 : Int), ((4 : Int), ((1 : Int), ((0 : Int), ((0 : Int), (0 : Int)))))))))) = some ((T.1, ([], ([], ([(0, (4, (1, (0, (0, 14)))))], (0, 0))))), 0) ∧ r8 (T.1, T.1) = some true := by
    intro kd hkd hw
    have ht := task_is (c := two1 n) (l := 0) (me := 0) (next := 2) (A := []) (B := []) (j := job1) (ms := []) (rs := []) (ps := []) (su := 0) (co := 0) (t := (decide (kd = 3), ((bif decide (kd = 3) then 0 else 0), (k, ((bif decide (kd = 3) then 0 else 0), (0, (0, (false, false)))))))) (by simp) (by simp) (by simp) (by simp) (by show n ≠ 0; omega)
    refine ⟨_, call_task (d := (2, [job1])) (show (two1 n).1 ≤ 4 by show n ≤ 4; omega) hck hd (by omega) (by simp) (by omega) (by show 0 < n; omega) hkd (i := 0) (refuse_new (A := []) (B := []) (j := job1) (x := (kd, (1, (0, (k, 0))))) (b := true) (by simp) rfl (by simp) rfl rfl rfl hkd k0 k1 (by simp) (by simp) (by simp) (by simp) (p := (0, 0)) (q := (0, 0)) rfl rfl rfl (.inr rfl)) (place_is _ _ (by simp [mkW])) ht, rfl, ?_⟩
    have hd2 : DeskOk (two1 n) (2, [newJob job1 (decide (kd = 3), ((bif decide (kd = 3) then 0 else 0), (k, ((bif decide (kd = 3) then 0 else 0), (0, (0, (false, false)))))))]) := by
      have hz : ∀ b : Bool, (bif b then (0 : Int) else 0) = 0 := by intro b; cases b <;> rfl
      refine job_one n (ts := [(decide (kd = 3), ((bif decide (kd = 3) then 0 else 0), (k, ((bif decide (kd = 3) then 0 else 0), (0, (0 + 1, (false, false)))))))]) (k := 0 + 1) (by simp) (by omega) (by omega) (fun t htm => ?_) (List.pairwise_singleton _ _) (fun i t h1 _ => ?_)
      · simp only [List.mem_singleton] at htm
        subst htm
        simp only [hz]
        exact ⟨⟨by simp, by simp, k0, k1, by simp, by simp, by simp, by simp, by simp, by simp, fun _ => ⟨rfl, .inr ⟨rfl, rfl⟩⟩⟩, by simp⟩
      · have := (List.getElem?_eq_some_iff.mp h1).1
        simp at this ⊢
        omega
    have hro : ∀ x : Int × (Int × (Int × (Int × Int))), x.2.1 = 1 → r11 (mkW (two1 n) 0 0 2 [newJob job1 (decide (kd = 3), ((bif decide (kd = 3) then 0 else 0), (k, ((bif decide (kd = 3) then 0 else 0), (0, (0, (false, false)))))))] [] [] [] 0 0, x) = some (14, _) := fun x hx =>
      refuse_open (A := []) (B := []) (T := []) (by simp) hx.symm (by simp) rfl rfl (by simp) rfl
    refine ⟨call_no (show (two1 n).1 ≤ 4 by show n ≤ 4; omega) hck hd2 (by omega) (by simp) (by omega) (by show 0 < n; omega) (by simp only; omega) (by simp only; omega) (hro _ rfl) (by omega),
      call_no (show (two1 n).1 ≤ 4 by show n ≤ 4; omega) hck hd2 (by omega) (by simp) (by omega) (by show 0 < n; omega) (by simp) (by simp) (hro _ rfl) (by omega), desk_self (by simp [mkW]) (by simp [mkW, newJob])⟩
  have fin : ∀ (kd : Int), (kd = 2 ∨ kd = 3) → decide (kd = 3) = w → (bif w then some ((), ((3 : Int), ((1 : Int), ((0 : Int), (k, (0 : Int)))))) else some ((), ((2 : Int), ((1 : Int), ((0 : Int), (k, (0 : Int))))))) = some ((), (kd, ((1 : Int), ((0 : Int), (k, (0 : Int)))))) → r4 (a1, (a2, w)) = some true := by
    intro kd hkd hw hsel
    obtain ⟨T, t1, t2, t3, t4, t5⟩ := key kd hkd hw
    unfold r4
    simp only [e1, e3, begin_one n1 n2, Option.bind_some]
    rw [hsel]
    simp only [Option.bind_some, t1, t3, t4, t2, decide_true, cond_true, List.length_nil, List.length_cons, Nat.zero_add, Int.natCast_zero, Int.natCast_one, t5]
    simp [idxI, idxN]
  cases w with
  | true => exact fin 3 (.inr rfl) rfl rfl
  | false => exact fin 2 (.inl rfl) rfl rfl
end Go.Hx
