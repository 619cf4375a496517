/- Calls of one transaction: GetDown and TaskTwice. -/
import Derived.Test.YtlfcemfcgmidlaaHxCall
namespace Go.Hx
open Go.RowKit Go.Proofs Go.V
abbrev two1 (n : Int) : Conf := (n, ([(0, 0), (1, 0)], 3))
theorem two_is {a : Int} (ha : i64 a) : ∃ n, r5 a = some (two1 n) ∧ 1 ≤ n ∧ n ≤ 3 := by
  obtain ⟨v, h1, h2, h3⟩ := Cf.picked_is (m := 3) ha (by omega)
  refine ⟨1 + v, ?_, by omega, by omega⟩
  have hw : Go.IntKind.wrap .i64 (1 + v) = 1 + v := wrap_i64 (by unfold i64; omega)
  unfold r5
  simp only [h1, Option.bind_some, hw]
theorem two_ok {n : Int} (h1 : 1 ≤ n) (h2 : n ≤ 3) : Cf.CfgOk (two1 n) :=
  ⟨h1, h2, by simp, by simp, by intro l hl; simp at hl; rcases hl with rfl | rfl <;> (refine ⟨?_, ?_, ?_, ?_⟩ <;> simp), by simp, by simp, by simp⟩
section
variable {c : Conf} {l me : Int} {d : Desk} {room : Int} {x : Int × (Int × (Int × (Int × Int)))}
theorem call_begin (hc : c.1 ≤ 4) (hk : r29 c = some 0) (hd : DeskOk c d) (l0 : 0 ≤ l) (l1 : l < c.2.1.length) (m0 : 0 ≤ me) (m1 : me < c.1) (hx : x.1 = 1) :
    r6 (c, (l, (me, (d, (room, x))))) = Option.bind (r10 (mkW c l me d.1 d.2 [] [] [] 0 0, room)) fun z => some (z.2.2.2, 0) := by
  have hck := desk_ok hc hk hd
  have how := own_is hc hd
  unfold r6
  simp only [hck, how, Option.bind_some, decide_true, Bool.not_true, Bool.not_false, cond_true, cond_false, decide_eq_false (show ¬ l < 0 by omega), decide_eq_false (show ¬ (c.2.1.length : Int) ≤ l by omega), decide_eq_false (show ¬ me < 0 by omega), decide_eq_false (show ¬ c.1 ≤ me by omega),
    decide_eq_false (show ¬ x.1 < 1 by omega), decide_eq_false (show ¬ 5 < x.1 by omega), decide_eq_true hx]
  rfl
theorem call_no (hc : c.1 ≤ 4) (hk : r29 c = some 0) (hd : DeskOk c d) (l0 : 0 ≤ l) (l1 : l < c.2.1.length) (m0 : 0 ≤ me) (m1 : me < c.1) (x0 : 2 ≤ x.1) (x1 : x.1 ≤ 5)
    {e : Int} (hr : r11 (mkW c l me d.1 d.2 [] [] [] 0 0, x) = some (e, mkW c l me d.1 d.2 [] [] [] 0 0)) (he : e ≠ 0) :
    r6 (c, (l, (me, (d, (room, x))))) = some ((d, ([], ([], ([(me, (x.1, (x.2.1, (x.2.2.2.1, (0, e)))))], (0, 0))))), 0) := by
  have hck := desk_ok hc hk hd
  have how := own_is hc hd
  have h3 : roomOk false 0 1 48 = true := roomOk_true (by omega)
  unfold r6
  simp only [hck, how, Option.bind_some, decide_true, Bool.not_true, Bool.not_false, cond_true, cond_false, decide_eq_false (show ¬ l < 0 by omega), decide_eq_false (show ¬ (c.2.1.length : Int) ≤ l by omega), decide_eq_false (show ¬ me < 0 by omega), decide_eq_false (show ¬ c.1 ≤ me by omega),
    decide_eq_false (show ¬ x.1 < 1 by omega), decide_eq_false (show ¬ 5 < x.1 by omega), decide_eq_false (show ¬ x.1 = 1 by omega)]
  rw [show r11 ((c, (l, (me, (d, ([], ([], ([], ((0 : Int), (0 : Int))))))))), x) = some (e, mkW c l me d.1 d.2 [] [] [] 0 0) from hr]
  simp only [Option.bind_some, decide_eq_false he, Bool.not_false, cond_true]
  unfold mkW
  simp only [List.length_nil, h3, cond_true, Option.bind_some, app_eq, List.nil_append]
theorem call_task (hc : c.1 ≤ 4) (hk : r29 c = some 0) (hd : DeskOk c d) (l0 : 0 ≤ l) (l1 : l < c.2.1.length) (m0 : 0 ≤ me) (m1 : me < c.1) (x0 : x.1 = 2 ∨ x.1 = 3)
    (hr : r11 (mkW c l me d.1 d.2 [] [] [] 0 0, x) = some (0, mkW c l me d.1 d.2 [] [] [] 0 0)) {i : Int} (hp : r13 (mkW c l me d.1 d.2 [] [] [] 0 0, x.2.1) = some (i, mkW c l me d.1 d.2 [] [] [] 0 0))
    {z : Work} (hz : r14 (mkW c l me d.1 d.2 [] [] [] 0 0, (i, (decide (x.1 = 3), ((bif decide (x.1 = 3) then l else x.2.2.1), (x.2.2.2.1, ((bif decide (x.1 = 3) then x.2.2.2.2 else 0), (0, (0, (false, false))))))))) = some z) :
    r6 (c, (l, (me, (d, (room, x))))) = some (z.2.2.2, 0) := by
  have hck := desk_ok hc hk hd
  have how := own_is hc hd
  have hx1 : 2 ≤ x.1 ∧ x.1 ≤ 3 := by omega
  unfold r6
  simp only [hck, how, Option.bind_some, decide_true, Bool.not_true, Bool.not_false, cond_true, cond_false, decide_eq_false (show ¬ l < 0 by omega), decide_eq_false (show ¬ (c.2.1.length : Int) ≤ l by omega), decide_eq_false (show ¬ me < 0 by omega), decide_eq_false (show ¬ c.1 ≤ me by omega),
    decide_eq_false (show ¬ x.1 < 1 by omega), decide_eq_false (show ¬ 5 < x.1 by omega), decide_eq_false (show ¬ x.1 = 1 by omega)]
  rw [show r11 ((c, (l, (me, (d, ([], ([], ([], ((0 : Int), (0 : Int))))))))), x) = some (0, mkW c l me d.1 d.2 [] [] [] 0 0) from hr]
  simp only [Option.bind_some, decide_true, Bool.not_true, cond_false, hp]
  rcases x0 with x0 | x0
  · rw [decide_eq_false (show ¬ x.1 = 3 by omega)] at hz
    simp only [cond_false] at hz
    rw [decide_eq_true x0]
    simp only [cond_true, hz, Option.bind_some]
  · rw [decide_eq_true x0] at hz
    simp only [cond_true] at hz
    rw [decide_eq_false (show ¬ x.1 = 2 by omega), decide_eq_true x0]
    simp only [cond_true, cond_false, hz, Option.bind_some]
end
/-- Who is new: what a task is refused for. -/
theorem refuse_new {c : Conf} {l me next : Int} {A B : List Job} {j : Job} {x : Int × (Int × (Int × (Int × Int)))} (hl : (A ++ j :: B).length ≤ 1000) (hn : j.1 = x.2.1) (hA : ∀ y ∈ A, y.1 ≠ x.2.1) (hs : j.2.1 = 1) (ht : j.2.2.1 = []) (hk : j.2.2.2.2.1 = 0)
    (x0 : x.1 = 2 ∨ x.1 = 3) (y0 : 0 ≤ x.2.2.2.1) (y1 : x.2.2.2.1 < 8) (v0 : 0 ≤ x.2.2.2.2) (v1 : x.2.2.2.2 ≤ 1073741824) (l0 : 0 ≤ x.2.2.1) (l1 : x.2.2.1 < c.2.1.length) {p q : Int × Int} (hp' : idxI c.2.1 l = some p) (hq : idxI c.2.1 x.2.2.1 = some q) {b : Bool} (hb : r21 (p, q) = some b) (hb' : x.1 = 2 ∨ b = true) :
    r11 (mkW c l me next (A ++ j :: B) [] [] [] 0 0, x) = some ((bif b then 0 else 10), mkW c l me next (A ++ j :: B) [] [] [] 0 0) := by
  have hp := place_is (mkW c l me next (A ++ j :: B) [] [] [] 0 0) x.2.1 hl
  rw [show (mkW c l me next (A ++ j :: B) [] [] [] 0 0).2.2.2.1.2 = A ++ j :: B from rfl, idx_some hn hA] at hp
  unfold r11
  simp only [hp, Option.bind_some, idxOr, decide_eq_false (show ¬ (A.length : Int) < 0 by omega), cond_false]
  unfold mkW
  have hk3 : (bif !(decide (x.1 = 2)) then some (!(decide (x.1 = 3))) else some false) = some false := by
    rcases x0 with x0 | x0 <;> rw [x0] <;> rfl
  simp only [inB_mid, Int.toNat_natCast, idx_mid, Option.bind_some, cond_true, hs, decide_true, Bool.not_true, cond_false, ht, List.length_nil, Int.natCast_zero, Int.lt_irrefl, decide_false, hk3,
    decide_eq_false (show ¬ x.2.2.2.1 < 0 by omega), decide_eq_false (show ¬ 8 ≤ x.2.2.2.1 by omega), decide_eq_false (show ¬ x.2.2.2.2 < 0 by omega), decide_eq_false (show ¬ 1073741824 < x.2.2.2.2 by omega), Bool.not_false,
    decide_eq_false (show ¬ x.2.2.1 < 0 by omega), decide_eq_false (show ¬ (c.2.1.length : Int) ≤ x.2.2.1 by omega), hp', hq, hb, hk]
  rcases hb' with g | g
  · rw [decide_eq_true g]
    cases b <;> rfl
  · subst g
    cases decide (x.1 = 2) <;> rfl
/-- The desk of one that has begun. -/
abbrev job1 : Job := (1, (1, ([], ([], (0, 0)))))
theorem desk_none (n : Int) : DeskOk (two1 n) (1, []) := ⟨by simp, by simp, by simp, by simp, List.Pairwise.nil⟩
theorem job_one (n : Int) {ts : List Task} {k : Int} (hf : ts.length ≤ 10) (k0 : 0 ≤ k) (k1 : k ≤ 1048576) (ht : ∀ t ∈ ts, TaskOk (two1 n) t ∧ t.2.2.2.2.2.1 ≤ k) (hu : ts.Pairwise fun x y => x.2.2.2.2.2.1 < y.2.2.2.2.2.1)
    (hd : ∀ (i : Nat) t, ts[i]? = some t → t.2.2.2.2.2.2.1 = false → i + 1 = ts.length) : DeskOk (two1 n) (2, [(1, (1, (ts, ([], (k, 0)))))]) := by
  refine ⟨by simp, by simp, by simp, fun j hj => ?_, List.pairwise_singleton _ _⟩
  simp only [List.mem_singleton] at hj
  subst hj
  exact ⟨by simp, by simp, by simp, by simp, by simp, by simp, hf, k0, k1, ht, hu, fun i t h1 h2 => ⟨hd i t h1 h2, rfl⟩, by simp, List.Pairwise.nil, by simp⟩
theorem begin_one {n : Int} (h1 : 1 ≤ n) (h2 : n ≤ 3) : r6 (two1 n, ((0 : Int), ((0 : Int), (((1 : Int), []), ((6000 : Int), ((1 : Int), ((0 : Int), ((0 : Int), ((0 : Int), (0 : Int))))))))) ) = some ((((2 : Int), [job1]), ([], ([(5, ((0, 1), (0, (0, (0, (false, []))))))], ([(0, (1, (1, (0, (0, 0)))))], (0, 0))))), 0) := by
  rw [call_begin (show (two1 n).1 ≤ 4 by show n ≤ 4; omega) (Cf.check_ok (two_ok h1 h2)) (desk_none n) (by omega) (by simp) (by omega) (by show 0 < n; omega) rfl]
  rw [begun_is (by omega) (by omega) (by simp) (by simp) (by simp)]
  rfl
theorem getDown {a : Int × (Int × Int)} (h1 : i64 a.1) (h2 : i64 a.2.1) (h3 : i64 a.2.2) : r3 a = some true := by
  obtain ⟨n, e1, n1, n2⟩ := two_is h1
  obtain ⟨lv, e2, l0, l1⟩ := Cf.picked_is (m := 2) h2 (by omega)
  obtain ⟨k, e3, k0, k1⟩ := Cf.picked_is (m := 8) h3 (by omega)
  have hck := Cf.check_ok (two_ok n1 n2)
  have hd := job_one n (ts := []) (k := 0) (by simp) (by omega) (by omega) (by simp) List.Pairwise.nil (by simp)
  have hu : r6 (two1 n, ((0 : Int), ((0 : Int), (((2 : Int), [job1]), ((6000 : Int), ((2 : Int), ((1 : Int), ((1 : Int), (k, (0 : Int)))))))))) = some ((((2 : Int), [job1]), ([], ([], ([(0, (2, (1, (k, (0, 10)))))], (0, 0))))), 0) :=
    call_no (d := (2, [job1])) (show (two1 n).1 ≤ 4 by show n ≤ 4; omega) hck hd (by omega) (by simp) (by omega) (by show 0 < n; omega) (by simp) (by simp) (e := 10)
      (refuse_new (A := []) (B := []) (j := job1) (x := (2, (1, (1, (k, 0))))) (b := false) (by simp) rfl (by simp) rfl rfl rfl (.inl rfl) k0 k1 (by simp) (by simp) (by simp) (by simp) (p := (0, 0)) (q := (1, 0)) rfl rfl rfl (.inl rfl)) (by omega)
  have hl : lv = 0 ∨ lv = 1 := by omega
  have ht := task_is (c := two1 n) (l := 1) (me := 0) (next := 2) (A := []) (B := []) (j := job1) (ms := []) (rs := []) (ps := []) (su := 0) (co := 0) (t := (false, (lv, (k, (0, (0, (0, (false, false)))))))) (by simp) (by simp) (by simp) (by simp) (by show n ≠ 0; omega)
  have ha : r6 (two1 n, ((1 : Int), ((0 : Int), (((2 : Int), [job1]), ((6000 : Int), ((2 : Int), ((1 : Int), (lv, (k, (0 : Int)))))))))) = some ((((2 : Int), [newJob job1 (false, (lv, (k, (0, (0, (0, (false, false)))))))]), ([newMsg (two1 n) 0 job1 (false, (lv, (k, (0, (0, (0, (false, false)))))))], ([], ([], (0, 0))))), 0) := by
    refine call_task (d := (2, [job1])) (show (two1 n).1 ≤ 4 by show n ≤ 4; omega) hck hd (by omega) (by simp) (by omega) (by show 0 < n; omega) (.inl rfl) (i := 0) ?_ (place_is _ _ (by simp [mkW])) (z := mkW (two1 n) 1 0 2 [newJob job1 (false, (lv, (k, (0, (0, (0, (false, false)))))))] [newMsg (two1 n) 0 job1 (false, (lv, (k, (0, (0, (0, (false, false)))))))] [] [] 0 0) ht
    rcases hl with hl | hl <;> subst hl
    · exact refuse_new (A := []) (B := []) (j := job1) (x := (2, (1, (0, (k, 0))))) (b := true) (by simp) rfl (by simp) rfl rfl rfl (.inl rfl) k0 k1 (by simp) (by simp) (by simp) (by simp) (p := (1, 0)) (q := (0, 0)) rfl rfl rfl (.inl rfl)
    · exact refuse_new (A := []) (B := []) (j := job1) (x := (2, (1, (1, (k, 0))))) (b := true) (by simp) rfl (by simp) rfl rfl rfl (.inl rfl) k0 k1 (by simp) (by simp) (by simp) (by simp) (p := (1, 0)) (q := (1, 0)) rfl rfl rfl (.inl rfl)
  have hn0 : decide (n = 0) = false := decide_eq_false (by omega)
  unfold r3
  simp only [e1, e2, e3, begin_one n1 n2, Option.bind_some, hu, ha, decide_true, Bool.not_true, Bool.not_false, cond_true, cond_false, List.length_cons, List.length_nil, Nat.zero_add, Int.natCast_one, hn0]
  simp [idxI, newMsg, idxN]
end Go.Hx
