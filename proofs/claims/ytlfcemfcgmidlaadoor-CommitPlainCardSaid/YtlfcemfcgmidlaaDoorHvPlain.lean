import Derived.Test.YtlfcemfcgmidlaaDoorHvPair
namespace Go.Hv
open Go.RowKit Go.Proofs Go.V
theorem call_commit {c : Conf} {l me : Int} {d : Desk} {room : Int} {x : Int × (Int × (Int × (Int × Int)))} (hc : c.1 ≤ 4) (hk : r29 c = some 0) (hd : DeskOk c d) (l0 : 0 ≤ l) (l1 : l < c.2.1.length) (m0 : 0 ≤ me) (m1 : me < c.1) (x0 : x.1 = 4)
  (hr : r33 (mkW c l me d.1 d.2 [] [] [] 0 0, x) = some (0, mkW c l me d.1 d.2 [] [] [] 0 0)) {i : Int} (hp : r35 (mkW c l me d.1 d.2 [] [] [] 0 0, x.2.1) = some (i, mkW c l me d.1 d.2 [] [] [] 0 0))
  {z : Work} (hz : r37 (mkW c l me d.1 d.2 [] [] [] 0 0, i) = some z) :
  r17 (c, (l, (me, (d, (room, x))))) = some (z.2.2.2, 0) := by
 have hck := desk_ok hc hk hd
 have how := own_is hc hd
 unfold mkW at hr hp hz
 unfold r17
 simp only [hck, how, Option.bind_some, decide_true, Bool.not_true, Bool.not_false, cond_true, cond_false, decide_eq_false (show ¬ l < 0 by omega), decide_eq_false (show ¬ (c.2.1.length : Int) ≤ l by omega), decide_eq_false (show ¬ me < 0 by omega), decide_eq_false (show ¬ c.1 ≤ me by omega),
  decide_eq_false (show ¬ x.1 < 1 by omega), decide_eq_false (show ¬ 5 < x.1 by omega), decide_eq_false (show ¬ x.1 = 1 by omega), hr, hp, decide_eq_false (show ¬ x.1 = 2 by omega), decide_eq_false (show ¬ x.1 = 3 by omega), decide_eq_true x0, hz]
def PutT (ts : List Task) : Prop := ∀ (i : Nat) t, ts[i]? = some t → t.1 = true ∧ t.2.1 = 0 ∧ 0 ≤ t.2.2.1 ∧ t.2.2.1 < 8 ∧ 0 ≤ t.2.2.2.1 ∧ t.2.2.2.1 ≤ 10 ∧ t.2.2.2.2.1 = 0 ∧ t.2.2.2.2.2.1 = (i : Int) + 1 ∧ t.2.2.2.2.2.2.1 = true ∧ t.2.2.2.2.2.2.2 = false
abbrev deskT (ts : List Task) : Desk := (2, [(1, (1, (ts, ([], ((ts.length : Int), 0)))))])
theorem PutT.snoc {ts : List Task} (h : PutT ts) {t : Task} (ht : t.1 = true ∧ t.2.1 = 0 ∧ 0 ≤ t.2.2.1 ∧ t.2.2.1 < 8 ∧ 0 ≤ t.2.2.2.1 ∧ t.2.2.2.1 ≤ 10 ∧ t.2.2.2.2.1 = 0 ∧ t.2.2.2.2.2.1 = (ts.length : Int) + 1 ∧ t.2.2.2.2.2.2.1 = true ∧ t.2.2.2.2.2.2.2 = false) : PutT (ts ++ [t]) := by
 intro i u hu
 by_cases g : i < ts.length
 ·rw [List.getElem?_append_left g] at hu
  exact h i u hu
 ·rw [List.getElem?_append_right (by omega)] at hu
  have hi := (List.getElem?_eq_some_iff.mp hu).1
  simp only [List.length_singleton] at hi
  have hi : i = ts.length := by omega
  subst hi
  simp at hu
  subst hu
  exact ht
theorem PutT.ok {n : Int} {ts : List Task} (h : PutT ts) (hl : ts.length ≤ 10) : (∀ t ∈ ts, TaskOk (two1 n) t ∧ t.2.2.2.2.2.1 ≤ (ts.length : Int)) ∧ (ts.Pairwise fun x y => x.2.2.2.2.2.1 < y.2.2.2.2.2.1) := by
 refine ⟨fun t ht => ?_, ?_⟩
 ·obtain ⟨i, hi⟩ := List.getElem?_of_mem ht
  have hil := (List.getElem?_eq_some_iff.mp hi).1
  obtain ⟨g1, g2, g3, g4, g5, g6, g7, g8, g9, g10⟩ := h i t hi
  exact ⟨⟨by omega, by rw [g2]; simp, g3, g4, g5, by omega, by omega, by omega, by omega, by omega, fun e => by rw [g9] at e; cases e⟩, by omega⟩
 ·rw [List.pairwise_iff_getElem]
  intro i j hi hj hij
  have h1 := (h i _ (List.getElem?_eq_getElem hi)).2.2.2.2.2.2.2.1
  have h2 := (h j _ (List.getElem?_eq_getElem hj)).2.2.2.2.2.2.2.1
  omega
theorem desk_put {n : Int} {ts : List Task} (h : PutT ts) (hl : ts.length ≤ 10) : DeskOk (two1 n) (deskT ts) := by
 obtain ⟨h1, h2⟩ := h.ok (n := n) hl
 exact job_one n hl (by omega) (by omega) h1 h2 (fun i t hi hd => by
  have := (h i t hi).2.2.2.2.2.2.2.2.1
  rw [hd] at this; cases this)
abbrev putT (ts : List Task) (k v : Int) (b : Bool) : Task := (true, (0, (k, (v, (0, ((ts.length : Int) + 1, (b, false)))))))
theorem desk_open {n : Int} {ts : List Task} (h : PutT ts) (hl : ts.length < 10) {k v : Int} (k0 : 0 ≤ k) (k1 : k < 8) (v0 : 0 ≤ v) (v1 : v ≤ 10) : DeskOk (two1 n) (2, [(1, (1, (ts ++ [putT ts k v false], ([], ((ts.length : Int) + 1, 0)))))]) := by
 obtain ⟨h1, h2⟩ := h.ok (n := n) (by omega)
 refine job_one n (by simp; omega) (by omega) (by omega) (fun t ht => ?_) ?_ (fun i t hi hd => ?_)
 ·rcases List.mem_append.1 ht with ht | ht
  ·exact ⟨(h1 t ht).1, by have := (h1 t ht).2; omega⟩
  ·simp at ht
   subst ht
   exact ⟨⟨by simp, by simp, k0, k1, v0, by simp only; omega, by simp, by simp, by simp only; omega, by simp only; omega, fun _ => ⟨rfl, .inl rfl⟩⟩, by simp⟩
 ·rw [List.pairwise_append]
  refine ⟨h2, List.pairwise_singleton _ _, fun a ha b hb => ?_⟩
  simp at hb
  subst hb
  have := (h1 a ha).2
  simp only
  omega
 ·by_cases g : i < ts.length
  ·rw [List.getElem?_append_left g] at hi
   have := (h i t hi).2.2.2.2.2.2.2.2.1
   rw [hd] at this; cases this
  ·have := (List.getElem?_eq_some_iff.mp hi).1
   simp at this ⊢
   omega
theorem place_one {c : Conf} {l me next : Int} {j : Job} (hj : j.1 = 1) : r35 (mkW c l me next [j] [] [] [] 0 0, 1) = some (0, mkW c l me next [j] [] [] [] 0 0) := by
 have h := place_is (mkW c l me next [j] [] [] [] 0 0) 1 (by simp [mkW])
 rw [show (mkW c l me next [j] [] [] [] 0 0).2.2.2.1.2 = [] ++ j :: [] from rfl, idx_some hj (by simp)] at h
 exact h
theorem put_refuse {n : Int} {ts : List Task} (h : PutT ts) (hl : ts.length < 10) {k v : Int} (k0 : 0 ≤ k) (k1 : k < 8) (v0 : 0 ≤ v) (v1 : v ≤ 10) :
  r33 (mkW (two1 n) 0 0 (deskT ts).1 (deskT ts).2 [] [] [] 0 0, (3, (1, (0, (k, v))))) = some (0, mkW (two1 n) 0 0 (deskT ts).1 (deskT ts).2 [] [] [] 0 0) :=
 refuse_ok (A := []) (B := []) (j := (1, (1, (ts, ([], ((ts.length : Int), 0)))))) (x := (3, (1, (0, (k, v))))) (by simp) rfl (by simp) rfl (fun t ht => by
   obtain ⟨i, hi⟩ := List.getElem?_of_mem ht
   exact (h i t hi).2.2.2.2.2.2.2.2.1) hl (by simp only; omega) (.inr rfl) k0 k1 v0 (by simp only; omega) (by simp) (by simp) (p := (0, 0)) (q := (0, 0)) rfl rfl rfl
theorem new_put {ts : List Task} {k v : Int} : newJob (1, (1, (ts, ([], ((ts.length : Int), 0))))) (true, (0, (k, (v, (0, (0, (false, false))))))) = (1, (1, (ts ++ [putT ts k v false], ([], ((ts.length : Int) + 1, 0))))) := rfl
theorem put_t {n : Int} {ts : List Task} (n1 : 1 ≤ n) (hl : ts.length < 10) {k v : Int} : r36 (mkW (two1 n) 0 0 (deskT ts).1 (deskT ts).2 [] [] [] 0 0, ((0 : Int), (true, (0, (k, (v, (0, (0, (false, false))))))))) = some (mkW (two1 n) 0 0 2 [newJob (1, (1, (ts, ([], ((ts.length : Int), 0))))) (true, (0, (k, (v, (0, (0, (false, false)))))))] [newMsg (two1 n) 0 (1, (1, (ts, ([], ((ts.length : Int), 0))))) (true, (0, (k, (v, (0, (0, (false, false)))))))] [] [] 0 0) :=
 task_is (c := two1 n) (l := 0) (me := 0) (next := 2) (A := []) (B := []) (j := (1, (1, (ts, ([], ((ts.length : Int), 0)))))) (ms := []) (rs := []) (ps := []) (su := 0) (co := 0) (t := (true, (0, (k, (v, (0, (0, (false, false)))))))) (by simp) (by simp only; omega) (by simp only; omega) (by simp) (by show n ≠ 0; omega)
theorem back_put {c : Conf} {l me : Int} {d : Desk} {m : Msg} {w : Int × (Int × (Int × (Int × (Int × Int))))} (h2 : m.1 = 2) :
  r22 (c, (l, (me, (d, (m, w))))) = Option.bind (r21 (c, (l, (me, (d, ((6, (m.2.2.1, (me, (m.2.2.2.1, (0, (m.2.2.2.2.2.1, (0, (0, (m.2.2.2.2.2.2.2.2.1, (false, 0)))))))))) : Msg)))))) fun y => bif decide (y.2 = 0) then some y.1.1 else some d := by
 obtain ⟨m1, mr⟩ := m
 subst h2
 rfl
theorem put_ans {n : Int} {ts : List Task} (n1 : 1 ≤ n) (hl : ts.length < 10) {k v : Int} : r43 (mkW (two1 n) 0 0 (2 : Int) [(1, (1, (ts ++ [putT ts k v false], ([], ((ts.length : Int) + 1, 0)))))] [] [] [] 0 0, ((0 : Int), (((6, (Int.tmod k n, (0, ((0, 1), (0, (k, (0, (0, ((ts.length : Int) + 1, (false, 0)))))))))) : Msg), true))) = some (mkW (two1 n) 0 0 2 [(1, (1, (ts ++ [putT ts k v true], ([], ((ts.length : Int) + 1, 0)))))] [] [] [(0, (3, (1, (k, (0, 0)))))] 0 0) := by
 have ha := ans_is (c := two1 n) (l := 0) (me := 0) (next := 2) (A := []) (B := []) (j := (1, (1, (ts ++ [putT ts k v false], ([], ((ts.length : Int) + 1, 0)))))) (ms := []) (rs := []) (ps := []) (su := 0) (co := 0) (m := ((6, (Int.tmod k n, (0, ((0, 1), (0, (k, (0, (0, ((ts.length : Int) + 1, (false, 0)))))))))) : Msg)) (wr := true) (T := ts) (t := putT ts k v false) rfl (by omega) (by show n ≠ 0; omega) (by simp)
 have hfit : fitB (two1 n) (putT ts k v false) ((6, (Int.tmod k n, (0, ((0, 1), (0, (k, (0, (0, ((ts.length : Int) + 1, (false, 0)))))))))) : Msg) true = true := by simp [fitB]
 rw [hfit] at ha
 exact ha
section
variable {n : Int} {ts : List Task} {k v : Int}
theorem put_task (n1 : 1 ≤ n) (n2 : n ≤ 3) (h : PutT ts) (hl : ts.length < 10) (k0 : 0 ≤ k) (k1 : k < 8) (v0 : 0 ≤ v) (v1 : v ≤ 10) : r17 (two1 n, ((0 : Int), ((0 : Int), (deskT ts, ((6000 : Int), ((3 : Int), ((1 : Int), ((0 : Int), (k, v))))))))) =
  some ((mkW (two1 n) 0 0 2 [newJob (1, (1, (ts, ([], ((ts.length : Int), 0))))) (true, (0, (k, (v, (0, (0, (false, false)))))))] [newMsg (two1 n) 0 (1, (1, (ts, ([], ((ts.length : Int), 0))))) (true, (0, (k, (v, (0, (0, (false, false)))))))] [] [] 0 0).2.2.2, 0) := by
 have h1 : (two1 n).1 ≤ 4 := by show n ≤ 4; omega
 have h2 : (0 : Int) < (two1 n).2.1.length := by simp
 have h3 : (0 : Int) < (two1 n).1 := by show 0 < n; omega
 have h4 := desk_put (n := n) h (by omega)
 have h5 := Cf.check_ok (two_ok n1 n2)
 have h6 := put_refuse (n := n) h hl k0 k1 v0 v1
 have h7 := place_one (c := two1 n) (l := 0) (me := 0) (next := 2) (j := (1, (1, (ts, ([], ((ts.length : Int), 0)))))) rfl
 have h8 := put_t n1 hl (k := k) (v := v)
 generalize mkW (two1 n) 0 0 2 [newJob (1, (1, (ts, ([], ((ts.length : Int), 0))))) (true, (0, (k, (v, (0, (0, (false, false)))))))] [newMsg (two1 n) 0 (1, (1, (ts, ([], ((ts.length : Int), 0))))) (true, (0, (k, (v, (0, (0, (false, false)))))))] [] [] 0 0 = z at h8 ⊢
 exact call_task (room := 6000) (d := deskT ts) (x := (3, (1, (0, (k, v))))) h1 h5 h4 (by omega) h2 (by omega) h3 (.inr rfl) (i := 0) h6 h7 h8
theorem put_call (n1 : 1 ≤ n) (n2 : n ≤ 3) (h : PutT ts) (hl : ts.length < 10) (k0 : 0 ≤ k) (k1 : k < 8) (v0 : 0 ≤ v) (v1 : v ≤ 10) : r17 (two1 n, ((0 : Int), ((0 : Int), (deskT ts, ((6000 : Int), ((3 : Int), ((1 : Int), ((0 : Int), (k, v))))))))) =
  some (((2, [(1, (1, (ts ++ [putT ts k v false], ([], ((ts.length : Int) + 1, 0)))))]), ([newMsg (two1 n) 0 (1, (1, (ts, ([], ((ts.length : Int), 0))))) (true, (0, (k, (v, (0, (0, (false, false)))))))], ([], ([], (0, 0))))), 0) := by
 have h9 := put_task n1 n2 h hl k0 k1 v0 v1
 rw [new_put] at h9
 generalize newMsg (two1 n) 0 (1, (1, (ts, ([], ((ts.length : Int), 0))))) (true, (0, (k, (v, (0, (0, (false, false))))))) = w at h9 ⊢
 exact h9
theorem put_hear (n1 : 1 ≤ n) (n2 : n ≤ 3) (h : PutT ts) (hl : ts.length < 10) (k0 : 0 ≤ k) (k1 : k < 8) (v0 : 0 ≤ v) (v1 : v ≤ 10) : ∃ z : Work, z.2.2.2.1 = deskT (ts ++ [putT ts k v true]) ∧ r21 (two1 n, ((0 : Int), ((0 : Int), ((2, [(1, (1, (ts ++ [putT ts k v false], ([], ((ts.length : Int) + 1, 0)))))]), ((6, (Int.tmod k n, (0, ((0, 1), (0, (k, (0, (0, ((ts.length : Int) + 1, (false, 0)))))))))) : Msg))))) = some (z.2.2.2, 0) := by
 have hs : 0 ≤ Int.tmod k n ∧ Int.tmod k n < n := tmod_site (c := two1 n) (t := (true, (0, (k, (v, (0, (0, (false, false)))))))) n1 k0
 have hm : r41 (two1 n, ((6, (Int.tmod k n, (0, ((0, 1), (0, (k, (0, (0, ((ts.length : Int) + 1, (false, 0)))))))))) : Msg)) = some 0 :=
  Cf.msg_ok (two_ok n1 n2) ⟨by simp, by simp, hs.1, hs.2, by simp, by show 0 < n; omega, by simp, by show 0 < n; omega, by simp, by simp, by simp, by simp, k0, k1, by simp, by simp, by simp, by simp, by simp only; omega, by simp only; omega, .inl rfl, ⟨_, rfl, by simp [Cf.formBad]⟩⟩
 have ha := put_ans n1 hl (k := k) (v := v)
 refine ⟨mkW (two1 n) 0 0 2 [(1, (1, (ts ++ [putT ts k v true], ([], ((ts.length : Int) + 1, 0)))))] [] [] [(0, (3, (1, (k, (0, 0)))))] 0 0, by simp [mkW], ?_⟩
 have h1 : (two1 n).1 ≤ 4 := by show n ≤ 4; omega
 have h2 : (0 : Int) < (two1 n).2.1.length := by simp
 have h3 : (0 : Int) < (two1 n).1 := by show 0 < n; omega
 have h4 := desk_open (n := n) h hl k0 k1 v0 v1
 have h5 := Cf.check_ok (two_ok n1 n2)
 have h7 := place_one (c := two1 n) (l := 0) (me := 0) (next := 2) (j := (1, (1, (ts ++ [putT ts k v false], ([], ((ts.length : Int) + 1, 0)))))) rfl
 generalize mkW (two1 n) 0 0 2 [(1, (1, (ts ++ [putT ts k v true], ([], ((ts.length : Int) + 1, 0)))))] [] [] [(0, (3, (1, (k, (0, 0)))))] 0 0 = z at ha ⊢
 exact hear_done h1 h5 h4 (by omega) h2 (by omega) h3 hm rfl rfl (.inr rfl) (i := 0) (by omega) h7 ha
theorem put_back (n1 : 1 ≤ n) (n2 : n ≤ 3) (h : PutT ts) (hl : ts.length < 10) (k0 : 0 ≤ k) (k1 : k < 8) (v0 : 0 ≤ v) (v1 : v ≤ 10) : r22 (two1 n, ((0 : Int), ((0 : Int), ((2, [(1, (1, (ts ++ [putT ts k v false], ([], ((ts.length : Int) + 1, 0)))))]), (newMsg (two1 n) 0 (1, (1, (ts, ([], ((ts.length : Int), 0))))) (true, (0, (k, (v, (0, (0, (false, false))))))), ((0 : Int), ((0 : Int), ((0 : Int), ((0 : Int), ((0 : Int), (0 : Int)))))))))))
  = some (deskT (ts ++ [putT ts k v true])) := by
 obtain ⟨z, z1, z2⟩ := put_hear n1 n2 h hl k0 k1 v0 v1
 rw [back_put rfl]
 unfold newMsg
 simp only [z2, Option.bind_some, decide_true, cond_true, z1]
end
theorem idxI_cons0 {β : Type} (x : β) (l : List β) : idxI (x :: l) 0 = some x := rfl
def Hands (n : Int) (ts : List Task) (hands : List Bool) (cnt : Int) : Prop :=
 hands.length = n.toNat ∧ cnt ≤ ts.length ∧ ∃ D : List Int, D.Nodup ∧ cnt = (D.length : Int) ∧ (∀ s, s ∈ D ↔ ∃ t ∈ ts, siteOf (two1 n) t = s) ∧ ∀ k : Nat, (k : Int) < n → idxN hands k = some (decide ((k : Int) ∈ D))
theorem plain_step {n : Int} (n1 : 1 ≤ n) (n2 : n ≤ 3) {a : Int × List Int} {i : Nat} {x : Int} (hx : a.2[i]? = some x) (hi : i < 10) (h64 : i64 x) {ts : List Task} (h : PutT ts) (hl : ts.length = i) {hands : List Bool} {cnt : Int} (hh : Hands n ts hands cnt) (hc : cnt ≤ 10) :
  ∃ ts' hands' cnt', r7_L0 a (two1 n) ((), ((), (cnt, ((i : Int), (deskT ts, hands))))) = some (.inl ((), ((), (cnt', (((i + 1 : Nat) : Int), (deskT ts', hands')))))) ∧ PutT ts' ∧ ts'.length = i + 1 ∧ Hands n ts' hands' cnt' := by
 obtain ⟨e1, e2, -⟩ := in_len hx
 obtain ⟨k, p1, k0, k1⟩ := Cf.picked_is (m := 8) h64 (by omega)
 have hcall := put_call n1 n2 h (by omega) k0 k1 (v := (i : Int)) (by omega) (by omega)
 have hback := put_back n1 n2 h (by omega) k0 k1 (v := (i : Int)) (by omega) (by omega)
 have hs : 0 ≤ Int.tmod k n ∧ Int.tmod k n < n := tmod_site (c := two1 n) (t := (true, (0, (k, (0, (0, (0, (false, false)))))))) n1 k0
 obtain ⟨m, hm⟩ := Int.eq_ofNat_of_zero_le hs.1
 obtain ⟨hlen, hct, D, d1, d2, d3, d4⟩ := hh
 have hin : inB (m : Int) hands.length = true := inB_true (by omega) (by omega)
 have hw : Go.IntKind.wrap .i64 ((i : Int) + 1) = ((i + 1 : Nat) : Int) := by rw [wrap_i64 (by unfold i64; omega)]; omega
 have hwc : Go.IntKind.wrap .i64 (cnt + 1) = cnt + 1 := wrap_i64 (by unfold i64; omega)
 have hput : PutT (ts ++ [putT ts k (i : Int) true]) := h.snoc ⟨rfl, rfl, k0, k1, by simp, by simp only; omega, rfl, rfl, rfl, rfl⟩
 have hsite : siteOf (two1 n) (putT ts k (i : Int) true) = (m : Int) := hm
 have hn0 : decide (n = 0) = false := decide_eq_false (by omega)
 have h10 : decide ((i : Int) < 10) = true := decide_eq_true (by omega)
 have hone : (!(decide ((([newMsg (two1 n) 0 (1, (1, (ts, ([], ((ts.length : Int), 0))))) (true, (0, (k, ((i : Int), (0, (0, (false, false)))))))] : List Msg).length : Int) = (1 : Int)))) = false := by simp
 have hmem : ∀ s, (∃ t ∈ ts ++ [putT ts k (i : Int) true], siteOf (two1 n) t = s) ↔ (s ∈ D ∨ s = (m : Int)) := fun s => by
  rw [d3 s]
  constructor
  ·rintro ⟨t, ht, hts⟩
   rcases List.mem_append.1 ht with ht | ht
   ·exact .inl ⟨t, ht, hts⟩
   ·simp only [List.mem_singleton] at ht
    subst ht
    exact .inr (hts.symm.trans hsite)
  ·rintro (⟨t, ht, hts⟩ | rfl)
   ·exact ⟨t, List.mem_append_left _ ht, hts⟩
   ·exact ⟨_, List.mem_append_right _ (List.mem_singleton.2 rfl), hsite⟩
 have hdm := d4 m (by omega)
 by_cases g : (m : Int) ∈ D
 ·refine ⟨_, hands, cnt, ?_, hput, by simp; omega, hlen, by simp; omega, D, d1, d2, fun s => ?_, d4⟩
  ·unfold r7_L0
   simp only [e1, e2, h10, cond_true, Option.bind_some, p1, hcall, hback, decide_true, Bool.not_true, Bool.not_false, cond_false, hone, idxI_cons0, hn0, hm, hin, Int.toNat_natCast, hdm, decide_eq_true g, Sum.elim_inl, hw]
  ·rw [hmem s]
   constructor
   ·exact .inl
   ·rintro (hs' | rfl)
    ·exact hs'
    ·exact g
 ·refine ⟨_, hands.set m true, cnt + 1, ?_, hput, by simp; omega, by simp [hlen], by simp; omega, D ++ [(m : Int)], ?_, by simp [d2], fun s => ?_, fun q hq => ?_⟩
  ·unfold r7_L0
   simp only [e1, e2, h10, cond_true, Option.bind_some, p1, hcall, hback, decide_true, Bool.not_true, Bool.not_false, cond_false, hone, idxI_cons0, hn0, hm, hin, Int.toNat_natCast, hdm, decide_eq_false g, Sum.elim_inl, hw, hwc]
  ·rw [List.nodup_append]
   exact ⟨d1, by simp, fun x hx' y hy => by simp at hy; rintro rfl; exact g (hy ▸ hx')⟩
  ·rw [hmem s, List.mem_append, List.mem_singleton]
  ·have hq' := d4 q hq
   unfold idxN at hq' ⊢
   by_cases gq : m = q
   ·subst gq
    rw [List.getElem?_set_self (by omega)]
    simp
   ·rw [List.getElem?_set_ne gq, hq']
    congr 1
    simp [List.mem_append, show ¬ (q : Int) = (m : Int) by omega]
theorem Hands.few {n : Int} {ts : List Task} {hands : List Bool} {cnt : Int} (h : Hands n ts hands cnt) (hl : ts.length ≤ 10) : cnt ≤ 10 := by
 have := h.2.1
 omega
theorem plain_loop {n : Int} (n1 : 1 ≤ n) (n2 : n ≤ 3) {a : Int × List Int} (h64 : ∀ x ∈ a.2, i64 x) :
  ∃ ts hands cnt, loopR (r7_L0 a (two1 n)) ((), ((), ((0 : Int), ((0 : Int), (((2 : Int), [job1]), List.replicate n.toNat false))))) = some (.inl ((), ((), (cnt, (deskT ts, hands))))) ∧ PutT ts ∧ ts.length ≤ 10 ∧ Hands n ts hands cnt := by
 obtain ⟨r, h1, h2⟩ := loop_rule (body := r7_L0 a (two1 n))
  (fun d => ∃ (i : Nat) (ts : List Task) (hands : List Bool) (cnt : Int), d = ((), ((), (cnt, ((i : Int), (deskT ts, hands))))) ∧ ts.length = i ∧ i ≤ 10 ∧ i ≤ a.2.length ∧ PutT ts ∧ Hands n ts hands cnt)
  (fun d => 10 - d.2.2.2.1.toNat) (fun r => ∃ ts hands cnt, r = .inl ((), ((), (cnt, (deskT ts, hands)))) ∧ PutT ts ∧ ts.length ≤ 10 ∧ Hands n ts hands cnt) (fun d hd => by
   obtain ⟨i, ts, hands, cnt, rfl, hi, i1, i2, hp, hh⟩ := hd
   by_cases g : i < a.2.length
   ·by_cases g2 : i < 10
    ·have hx : a.2[i]? = some a.2[i] := List.getElem?_eq_getElem g
     obtain ⟨ts', hands', cnt', s1, s2, s3, s4⟩ := plain_step n1 n2 hx g2 (h64 _ (List.getElem_mem g)) hp hi hh (hh.few (by omega))
     exact .inl ⟨_, s1, ⟨i + 1, ts', hands', cnt', rfl, s3, by omega, by omega, s2, s4⟩, by simp only [Int.toNat_natCast]; omega⟩
    ·refine .inr ⟨.inl ((), ((), (cnt, (deskT ts, hands)))), ?_, ts, hands, cnt, rfl, hp, by omega, hh⟩
     unfold r7_L0
     simp only [decide_eq_true (show (i : Int) < (a.2.length : Int) by omega), decide_eq_false (show ¬ (i : Int) < 10 by omega), cond_true, cond_false, Option.bind_some]
   ·refine .inr ⟨.inl ((), ((), (cnt, (deskT ts, hands)))), ?_, ts, hands, cnt, rfl, hp, by omega, hh⟩
    unfold r7_L0
    simp only [decide_eq_false (show ¬ (i : Int) < (a.2.length : Int) by omega), cond_false, Option.bind_some]) _ ⟨0, [], List.replicate n.toNat false, 0, rfl, rfl, by omega, by omega, fun i t h => by simp at h, by simp, by simp, [], by simp, rfl, by simp, fun k hk => by
   unfold idxN
   rw [List.getElem?_replicate]
   simp; omega⟩
 obtain ⟨ts, hands, cnt, rfl, q1, q2, q3⟩ := h2
 exact ⟨ts, hands, cnt, h1, q1, q2, q3⟩
theorem plain_commit {n : Int} (n1 : 1 ≤ n) (n2 : n ≤ 3) {ts : List Task} (h : PutT ts) (hl : ts.length ≤ 10) :
    ∃ Q, SitesOf (two1 n) 0 (1, (1, (ts, ([], ((ts.length : Int), 0))))) Q ∧ r17 (two1 n, ((0 : Int), ((0 : Int), (deskT ts, ((6000 : Int), ((4 : Int), ((1 : Int), ((0 : Int), ((0 : Int), (0 : Int)))))))))) =
      some ((bif decide ((Q.length : Int) = 0) then mkW (two1 n) 0 0 2 [] [] [] [(0, (4, (1, (0, (0, 0)))))] 1 1 else
        mkW (two1 n) 0 0 2 [telJob (1, (1, (ts, ([], ((ts.length : Int), 0))))) Q] (Q.map (decM 0 1 true)) (bif ts.any (fun t => t.1) then [(3, ((0, 1), (0, (0, (0, (false, Q))))))] else []) [(0, (4, (1, (0, (0, 0)))))] 1 1).2.2.2, 0) := by
  have hk : ∀ t ∈ ts, t.1 = true ∧ 0 ≤ t.2.2.1 ∧ t.2.2.2.2.2.2.1 = true := fun t ht => by
    obtain ⟨i, hi⟩ := List.getElem?_of_mem ht
    have := h i t hi
    exact ⟨this.1, this.2.2.1, this.2.2.2.2.2.2.2.2.1⟩
  obtain ⟨Q, hQ, hcom⟩ := commit_is (c := two1 n) (l := 0) (me := 0) (next := 2) (A := []) (B := []) (j := (1, (1, (ts, ([], ((ts.length : Int), 0)))))) (ms := []) (rs := []) (ps := []) (su := 1) (co := 0) hl n1 (fun t ht => (hk t ht).2.1) (by simp) (by simp) (by simp) (by simp)
  refine ⟨Q, hQ, ?_⟩
  have hnow := committing_now (c := two1 n) (l := 0) (me := 0) (next := 2) (A := []) (B := []) (j := (1, (1, (ts, ([], ((ts.length : Int), 0)))))) (ms := []) (rs := []) (ps := []) (su := 0) (co := 0) hl (by show n ≠ 0; omega) (by simp) (by
    rw [List.any_eq_false]
    intro t ht
    simp [asksB, (hk t ht).1]) hcom
  have href := refuse_commit (c := two1 n) (l := 0) (me := 0) (next := 2) (A := []) (B := []) (j := (1, (1, (ts, ([], ((ts.length : Int), 0)))))) (x := (4, (1, (0, (0, 0))))) (by simp) rfl (by simp) rfl (fun t ht => (hk t ht).2.2) hl rfl
  have h1 : (two1 n).1 ≤ 4 := by show n ≤ 4; omega
  have h2 : (0 : Int) < (two1 n).2.1.length := by simp
  have h3 : (0 : Int) < (two1 n).1 := by show 0 < n; omega
  have h4 := desk_put (n := n) h hl
  have h5 := Cf.check_ok (two_ok n1 n2)
  have h7 := place_one (c := two1 n) (l := 0) (me := 0) (next := 2) (j := (1, (1, (ts, ([], ((ts.length : Int), 0)))))) rfl
  have hnow' : r37 (mkW (two1 n) 0 0 2 [(1, (1, (ts, ([], ((ts.length : Int), 0)))))] [] [] [] 0 0, (0 : Int)) = some (bif decide ((Q.length : Int) = 0) then mkW (two1 n) 0 0 2 [] [] [] [(0, (4, (1, (0, (0, 0)))))] 1 1 else
        mkW (two1 n) 0 0 2 [telJob (1, (1, (ts, ([], ((ts.length : Int), 0))))) Q] (Q.map (decM 0 1 true)) (bif ts.any (fun t => t.1) then [(3, ((0, 1), (0, (0, (0, (false, Q))))))] else []) [(0, (4, (1, (0, (0, 0)))))] 1 1) := hnow
  generalize (bif decide ((Q.length : Int) = 0) then mkW (two1 n) 0 0 2 [] [] [] [(0, (4, (1, (0, (0, 0)))))] 1 1 else
        mkW (two1 n) 0 0 2 [telJob (1, (1, (ts, ([], ((ts.length : Int), 0))))) Q] (Q.map (decM 0 1 true)) (bif ts.any (fun t => t.1) then [(3, ((0, 1), (0, (0, (0, (false, Q))))))] else []) [(0, (4, (1, (0, (0, 0)))))] 1 1) = z at hnow' ⊢
  exact call_commit (room := 6000) (d := deskT ts) (x := (4, (1, (0, (0, 0))))) h1 h5 h4 (by omega) h2 (by omega) h3 rfl href (i := 0) h7 hnow'
theorem hands_len {n : Int} {ts : List Task} {hands : List Bool} {cnt : Int} (h : Hands n ts hands cnt) {Q : List Int} (hu : Q.Pairwise fun x y => x < y) (hm : ∀ s, s ∈ Q ↔ ∃ t ∈ ts, t.2.1 = 0 ∧ siteOf (two1 n) t = s) (hz : ∀ t ∈ ts, t.2.1 = 0) : (Q.length : Int) = cnt := by
 obtain ⟨-, -, D, d1, d2, d3, -⟩ := h
 have hq : Q.Nodup := hu.imp fun h => by omega
 have : Q.Perm D := (List.perm_ext_iff_of_nodup hq d1).2 fun s => by
  rw [hm s, d3 s]
  exact ⟨fun ⟨t, h1, _, h3⟩ => ⟨t, h1, h3⟩, fun ⟨t, h1, h3⟩ => ⟨t, h1, hz t h1, h3⟩⟩
 rw [d2, this.length_eq]
theorem commitPlain {a : Int × List Int} (h1 : i64 a.1) (h64 : ∀ x ∈ a.2, i64 x) : r7 a = some true := by
 obtain ⟨n, e1, n1, n2⟩ := two_is h1
 obtain ⟨ts, hands, cnt, hl, hp, hten, hh⟩ := plain_loop n1 n2 h64
 obtain ⟨Q, hQ, hc⟩ := plain_commit n1 n2 hp hten
 have hz : ∀ t ∈ ts, t.1 = true ∧ t.2.1 = 0 := fun t ht => by
  obtain ⟨i, hi⟩ := List.getElem?_of_mem ht
  have := hp i t hi
  exact ⟨this.1, this.2.1⟩
 have hlen := hands_len hh hQ.up hQ.mem (fun t ht => (hz t ht).2)
 have hg : (decide (0 ≤ n) && (decide (n ≤ n) && (decide ((1 : Int) * n ≤ 281474976710656) && decide (n ≤ 9223372036854775807)))) = true := by
  simp; omega
 have hb := begin_one n1 n2
 unfold r7
 simp only [e1, Option.bind_some, hb, hg, cond_true, hl, Sum.elim_inl, hc, decide_true, Bool.not_true, Bool.not_false, cond_false]
 cases Q with
 | nil =>
  have hcz : cnt = 0 := by simpa using hlen.symm
  subst hcz
  simp only [List.length_nil, Int.natCast_zero, decide_true, cond_true]
  unfold mkW
  have l1 : loopR (r7_L1 (((2, []), ([], ([], ([(0, (4, (1, (0, (0, 0)))))], (1, 1))))), 0) ((), ((), ((0 : Int), (deskT ts, hands))))) (0 : Int) = some (.inl ()) := by
   refine all_loop (xs := ([] : List Msg)) (by simp) (fun i x hx => by simp at hx) ?_
   unfold r7_L1
   rfl
  simp only [l1, List.length_cons, List.length_nil, Nat.zero_add, Int.natCast_one, idxI_cons0, Option.bind_some, Int.natCast_zero, decide_true, Bool.not_true, Bool.not_false, cond_true, cond_false, Sum.elim_inl]
  rfl
 | cons q Q' =>
  have hne : decide ((((q :: Q').length : Nat) : Int) = 0) = false := decide_eq_false (by simp; omega)
  have hts : ts.any (fun t => t.1) = true := by
   obtain ⟨t, ht, -⟩ := (hQ.mem q).1 (List.mem_cons_self ..)
   exact List.any_eq_true.2 ⟨t, ht, (hz t ht).1⟩
  have hmin : min cnt 1 = 1 := by
   rw [← hlen]; simp; omega
  have hml : (!(decide ((((q :: Q').map (decM 0 1 true)).length : Int) = cnt))) = false := by
   rw [List.length_map, hlen]; simp
  have hle : (q :: Q').length ≤ 10 := hQ.few
  have l1 : ∀ T : Turn, T.2.1 = (q :: Q').map (decM 0 1 true) → loopR (r7_L1 (T, 0) ((), ((), (cnt, (deskT ts, hands))))) (0 : Int) = some (.inl ()) := fun T hT => by
   refine all_loop (xs := (q :: Q').map (decM 0 1 true)) (by simp at hle ⊢; omega) (fun i x hx => ?_) ?_
   ·obtain ⟨g1, g2, -⟩ := in_len hx
    rw [List.getElem?_map] at hx
    obtain ⟨s, hs, rfl⟩ := Option.map_eq_some_iff.1 hx
    have hsm := List.mem_of_getElem? hs
    obtain ⟨s0, s1⟩ := hQ.rng s hsm
    obtain ⟨hlen', -, D, d1, d2, d3, d4⟩ := hh
    obtain ⟨m, rfl⟩ := Int.eq_ofNat_of_zero_le s0
    have hD : (m : Int) ∈ D := (d3 _).2 (by
     obtain ⟨t, h1, _, h3⟩ := (hQ.mem _).1 hsm
     exact ⟨t, h1, h3⟩)
    have hin : inB (m : Int) hands.length = true := inB_true (by omega) (by show (m : Int) < hands.length; have : (m : Int) < n := s1; omega)
    have hdm := d4 m s1
    rw [decide_eq_true hD] at hdm
    unfold r7_L1
    simp only [hT, g1, g2, cond_true, Option.bind_some]
    unfold decM
    simp only [decide_true, Bool.not_true, Bool.not_false, cond_true, cond_false, Option.bind_some, hin, Int.toNat_natCast, hdm]
   ·unfold r7_L1
    simp only [hT, at_len, cond_false]
  have l2 := l1 ((2, [telJob (1, (1, (ts, ([], ((ts.length : Int), 0))))) (q :: Q')]), ((q :: Q').map (decM 0 1 true), ([(3, ((0, 1), (0, (0, (0, (false, q :: Q'))))))], ([(0, (4, (1, (0, (0, 0)))))], (1, 1))))) rfl
  simp only [hne, hts, cond_true, cond_false]
  unfold mkW
  simp only [hml, l2, List.length_cons, List.length_nil, Nat.zero_add, Int.natCast_one, idxI_cons0, Option.bind_some, decide_true, Bool.not_true, Bool.not_false, cond_true, cond_false, Sum.elim_inl, hmin]
end Go.Hv
