/- A site's keys: what hearing a message comes to. -/
import Derived.Test.YtmiibfolfflbmaaDoorHqPart
import Derived.Test.YtmiibfolfflbmaaDoorHqMsg
namespace Go.Hq
open Go.RowKit Go.Proofs Go.V

def conf (n : Int) : Conf := (n, ([(0, 0), (1, 0)], 3))

/-- Who hears. -/
structure Ears (n l k : Int) (s0 s1 : Sto) : Prop where
  n1 : 1 ≤ n
  n3 : n ≤ 3
  lb : l = 0 ∨ l = 1
  k0 : 0 ≤ k
  k1 : k < n
  ok0 : StoreOk s0
  ok1 : StoreOk s1

theorem Ears.conf {n l k : Int} {s0 s1 : Sto} (h : Ears n l k s0 s1) : Cf.CfgOk (conf n) := two_ok h.n1 h.n3 (by omega) (by omega)

/-- The store of a label. -/
def mine (l : Int) (s0 s1 : Sto) : Sto := if l = 0 then s0 else s1

theorem Ears.mineOk {n l k : Int} {s0 s1 : Sto} (h : Ears n l k s0 s1) : StoreOk (mine l s0 s1) := by
  unfold mine
  split
  · exact h.ok0
  · exact h.ok1

theorem Ears.at {n l k : Int} {s0 s1 : Sto} (h : Ears n l k s0 s1) : idxI [s0, s1] l = some (mine l s0 s1) := by
  rcases h.lb with e | e <;> rw [e] <;> rfl

theorem Ears.loop {n l k : Int} {s0 s1 : Sto} (h : Ears n l k s0 s1) {a : Conf × (Int × (Int × (List Sto × (List Note × (Int × Msg)))))} (ha : a.2.2.2.1 = [s0, s1]) : loopR (r27_L0 a) (0 : Int) = some (.inl ()) := by
  refine all_loop (xs := [s0, s1]) (by simp) (fun i x hx => ?_) ?_
  · obtain ⟨e1, e2, -⟩ := in_len hx
    have hok : StoreOk x := by
      have hm := List.mem_of_getElem? hx
      simp only [List.mem_cons, List.not_mem_nil, or_false] at hm
      rcases hm with e | e <;> rw [e]
      · exact h.ok0
      · exact h.ok1
    unfold r27_L0
    rw [ha]
    simp only [e1, e2, cond_true, Option.bind_some, storeCheck_is hok, decide_true, Bool.not_true, cond_false]
  · unfold r27_L0
    rw [ha]
    simp only [at_len, cond_false]

theorem Ears.l0 {n l k : Int} {s0 s1 : Sto} (h : Ears n l k s0 s1) : decide (l < 0) = false := decide_eq_false (by rcases h.lb with e | e <;> omega)
theorem Ears.l1 {n l k : Int} {s0 s1 : Sto} (h : Ears n l k s0 s1) : decide ((2 : Int) ≤ l) = false := decide_eq_false (by rcases h.lb with e | e <;> omega)
theorem Ears.d0 {n l k : Int} {s0 s1 : Sto} (h : Ears n l k s0 s1) : decide (k < 0) = false := decide_eq_false (by have := h.k0; omega)
theorem Ears.d1 {n l k : Int} {s0 s1 : Sto} (h : Ears n l k s0 s1) : decide (n ≤ k) = false := decide_eq_false (by have := h.k1; omega)

theorem len2 (x y : Int × Int) : ((([x, y] : List (Int × Int)).length : Nat) : Int) = 2 := rfl
theorem len2s (x y : Sto) : ((([x, y] : List Sto).length : Nat) : Int) = 2 := rfl

theorem clones {s : Sto} (h : Short s) : r74 s.1 = some s.1 ∧ r75 s.2.1 = some s.2.1 ∧ r76 s.2.2.1 = some s.2.2.1 ∧ r77 s.2.2.2 = some s.2.2.2 :=
  ⟨nilR_clone (by have := h.items; omega), nilR_clone (by have := h.locks; omega), nilR_clone (by have := h.doubts; omega), nilR_clone (by have := h.over; omega)⟩

theorem notes_is {l : List Note} (h : l.length ≤ 1000) : r55 l = some l := nilR_clone (by omega)

def above (a b : Int) : Bool := decide (b ≤ a)

theorem above_is {a b : Int} (ha : a = 0 ∨ a = 1) (hb : b = 0 ∨ b = 1) : (Option.bind (idxI [((0 : Int), (0 : Int)), (1, 0)] a) fun x => Option.bind (idxI [((0 : Int), (0 : Int)), (1, 0)] b) fun y => Option.bind (r54 (x, y)) fun z => some !z) = some (!above a b) := by
  rcases ha with e | e <;> rcases hb with f | f <;> rw [e, f] <;> rfl

theorem refusal_is (e : Int) : r92 e = some (decide (e = 11) || decide (e = 8)) := by
  unfold r92
  simp only [bif_some, or_bif]

/-- What is answered to who reads. -/
def gotM (k fr : Int) (t : Txn) (lb key v ver ask code : Int) : Msg := (5, k, fr, t, lb, key, v, ver, ask, false, code)

def readA (s : Sto) (q : Sto × (Int × (Int × Int))) (k fr : Int) (t : Txn) (lb key ask : Int) : Ans :=
  if q.2.2.2 = 0 then (q.1, ([gotM k fr t lb key q.2.1 q.2.2.1 ask 0], ([], [])))
  else if q.2.2.2 = 11 ∨ q.2.2.2 = 8 then (s, ([gotM k fr t lb key 0 0 ask q.2.2.2], ([], []))) else (s, ([], ([], [])))

theorem hear_read {n l k : Int} {s0 s1 : Sto} (h : Ears n l k s0 s1) {fr : Int} {t : Txn} {key ask room : Int} (hm : Cf.MsgOk (conf n) (1, fr, k, t, l, key, 0, 0, ask, false, 0)) (ht : txnB t = true)
    (hq : (readR (mine l s0 s1) t key).2.2.2 = 0 → Short (readR (mine l s0 s1) t key).1) :
    r27 (conf n, l, k, [s0, s1], [], room, (1, fr, k, t, l, key, 0, 0, ask, false, 0)) = some (readA (mine l s0 s1) (readR (mine l s0 s1) t key) k fr t l key ask, 0) := by
  have hc := Cf.check_ok h.conf
  have hck := Cf.msg_ok h.conf hm
  have hrd := read_is h.mineOk ht (k := key) hm.y0 hm.y1
  have hab := above_is h.lb h.lb
  have hself : above l l = true := decide_eq_true (by omega)
  rw [hself] at hab
  obtain ⟨c1, c2, c3, c4⟩ := clones h.mineOk.short
  unfold conf at *
  unfold r27
  simp only [hc, hck, h.l0, h.l1, h.d0, h.d1, len2, len2s, h.loop (a := ((n, ([(0, 0), (1, 0)], 3)), l, k, [s0, s1], [], room, (1, fr, k, t, l, key, 0, 0, ask, false, 0))) rfl, Option.bind_some, decide_true, Bool.not_true, Bool.not_false, cond_true, cond_false, Sum.elim_inl, hab, notes_is (show ([] : List Note).length ≤ 1000 by simp), h.at, hrd]
  unfold readA
  by_cases e0 : (readR (mine l s0 s1) t key).2.2.2 = 0
  · obtain ⟨q1, q2, q3, q4⟩ := clones (hq e0)
    have href := refusal_is 0
    rw [if_pos e0]
    simp only [e0, decide_true, cond_true, Option.bind_some, href, show (decide ((0 : Int) = 11) || decide ((0 : Int) = 8)) = false from rfl, cond_false, Bool.not_true, Sum.elim_inl, q1, q2, q3, q4, gotM]
  · rw [if_neg e0]
    by_cases e1 : (readR (mine l s0 s1) t key).2.2.2 = 11 ∨ (readR (mine l s0 s1) t key).2.2.2 = 8
    · have hr : (decide ((readR (mine l s0 s1) t key).2.2.2 = 11) || decide ((readR (mine l s0 s1) t key).2.2.2 = 8)) = true := by
        rcases e1 with e | e <;> rw [e] <;> rfl
      rw [if_pos e1]
      simp only [decide_eq_false e0, cond_false, Option.bind_some, refusal_is, hr, cond_true, Sum.elim_inl, c1, c2, c3, c4, gotM]
    · have hr : (decide ((readR (mine l s0 s1) t key).2.2.2 = 11) || decide ((readR (mine l s0 s1) t key).2.2.2 = 8)) = false := by
        rw [decide_eq_false (fun e => e1 (.inl e)), decide_eq_false (fun e => e1 (.inr e))]; rfl
      rw [if_neg e1]
      simp only [decide_eq_false e0, cond_false, Option.bind_some, refusal_is, hr, Bool.not_false, cond_true, Sum.elim_inl, Sum.elim_inr, c1, c2, c3, c4]

theorem hear_low {n k : Int} {s0 s1 : Sto} (h : Ears n 1 k s0 s1) {fr : Int} {t : Txn} {key ask room : Int} (hm : Cf.MsgOk (conf n) (1, fr, k, t, 0, key, 0, 0, ask, false, 0)) :
    r27 (conf n, 1, k, [s0, s1], [], room, (1, fr, k, t, 0, key, 0, 0, ask, false, 0)) = some ((s1, ([gotM k fr t 0 key (peekR s0 key).1 (peekR s0 key).2.1 ask (peekR s0 key).2.2], ([], []))), 0) := by
  have hc := Cf.check_ok h.conf
  have hck := Cf.msg_ok h.conf hm
  have hpk := peek_is h.ok0 (k := key) hm.y0 hm.y1
  have hab := above_is (a := 1) (b := 0) (.inr rfl) (.inl rfl)
  rw [show above 1 0 = true from rfl] at hab
  obtain ⟨c1, c2, c3, c4⟩ := clones h.ok1.short
  have hp : (peekR s0 key).2.2 = 0 ∨ ((peekR s0 key).2.2 = 11 ∧ (peekR s0 key).1 = 0 ∧ (peekR s0 key).2.1 = 0) := by
    unfold peekR
    split
    · exact .inr ⟨rfl, rfl, rfl⟩
    · exact .inl rfl
  unfold conf at *
  unfold r27
  simp only [hc, hck, h.l0, h.l1, h.d0, h.d1, len2, len2s, h.loop (a := ((n, ([(0, 0), (1, 0)], 3)), 1, k, [s0, s1], [], room, (1, fr, k, t, 0, key, 0, 0, ask, false, 0))) rfl, Option.bind_some, decide_true, Bool.not_true, Bool.not_false, cond_true, cond_false, Sum.elim_inl, hab, notes_is (show ([] : List Note).length ≤ 1000 by simp),
    show idxI [s0, s1] (1 : Int) = some s1 from rfl, show idxI [s0, s1] (0 : Int) = some s0 from rfl, show decide ((0 : Int) = 1) = false from rfl, hpk]
  rcases hp with e | ⟨e, e1, e2⟩
  · simp only [e, refusal_is, show (decide ((0 : Int) = 11) || decide ((0 : Int) = 8)) = false from rfl, Option.bind_some, cond_false, decide_true, Bool.not_true, Sum.elim_inl, c1, c2, c3, c4, gotM]
  · simp only [e, e1, e2, refusal_is, decide_true, Bool.true_or, Option.bind_some, cond_true, Sum.elim_inl, c1, c2, c3, c4, gotM]

theorem hear_high {n k : Int} {s0 s1 : Sto} (h : Ears n 0 k s0 s1) {kd fr : Int} {t : Txn} {key v ver ask room : Int} {y : Bool} {cd : Int} (hk : kd = 1 ∨ kd = 3) (hm : Cf.MsgOk (conf n) (kd, fr, k, t, 1, key, v, ver, ask, y, cd)) :
    r27 (conf n, 0, k, [s0, s1], [], room, (kd, fr, k, t, 1, key, v, ver, ask, y, cd)) = some (noAns, 10) := by
  have hc := Cf.check_ok h.conf
  have hck := Cf.msg_ok h.conf hm
  have hab := above_is (a := 0) (b := 1) (.inl rfl) (.inr rfl)
  rw [show above 0 1 = false from rfl] at hab
  have hkd : (bif !decide (kd = 1) then some (decide (kd = 3)) else some true) = some true := by
    rcases hk with e | e <;> rw [e] <;> rfl
  unfold conf at *
  unfold r27
  simp only [hc, hck, h.l0, h.l1, h.d0, h.d1, len2, len2s, h.loop (a := ((n, ([(0, 0), (1, 0)], 3)), 0, k, [s0, s1], [], room, (kd, fr, k, t, 1, key, v, ver, ask, y, cd))) rfl, Option.bind_some, decide_true, Bool.not_true, Bool.not_false, cond_true, cond_false, Sum.elim_inl, hkd, hab]
  rfl

/-- What is answered to who writes. -/
def doneM (k fr : Int) (t : Txn) (key ask code : Int) : Msg := (6, k, fr, t, 0, key, 0, 0, ask, false, code)
def prepared (t : Txn) (key v ask : Int) : Rec := (1, t, key, v, ask, false, [])

def codeW (q : Sto × Int) (room : Int) : Int := if q.2 = 0 ∧ room < 500 then 8 else q.2

def writeA (s : Sto) (q : Sto × Int) (room k fr : Int) (t : Txn) (key v ask : Int) : Ans :=
  if codeW q room = 0 then (q.1, ([doneM k fr t key ask 0], ([prepared t key v ask], [])))
  else if codeW q room = 11 ∨ codeW q room = 8 then (s, ([doneM k fr t key ask (codeW q room)], ([], []))) else (s, ([], ([], [])))

theorem hear_write {n l k : Int} {s0 s1 : Sto} (h : Ears n l k s0 s1) {fr : Int} {t : Txn} {key v ask room : Int} (hm : Cf.MsgOk (conf n) (2, fr, k, t, 0, key, v, 0, ask, false, 0)) (ht : txnB t = true)
    (hq : (writeR (mine l s0 s1) t key v ask).2 = 0 → Short (writeR (mine l s0 s1) t key v ask).1) :
    r27 (conf n, l, k, [s0, s1], [], room, (2, fr, k, t, 0, key, v, 0, ask, false, 0)) = some (writeA (mine l s0 s1) (writeR (mine l s0 s1) t key v ask) room k fr t key v ask, 0) := by
  have hc := Cf.check_ok h.conf
  have hck := Cf.msg_ok h.conf hm
  have hwr := write_is h.mineOk ht (k := key) (v := v) (ask := ask) hm.y0 hm.y1 hm.v0 hm.v1 hm.a0 hm.a1
  obtain ⟨c1, c2, c3, c4⟩ := clones h.mineOk.short
  unfold conf at *
  have hcode : (Option.bind (bif decide ((writeR (mine l s0 s1) t key v ask).2 = (0 : Int)) then some (decide (room < (500 : Int))) else some false) fun (d : Bool) => bif d then some (8 : Int) else some (writeR (mine l s0 s1) t key v ask).2) = some (codeW (writeR (mine l s0 s1) t key v ask) room) := by
    unfold codeW
    by_cases e : (writeR (mine l s0 s1) t key v ask).2 = 0
    · by_cases f : room < 500
      · simp [e, f]
      · simp [e, f]
    · simp [e]
  unfold r27
  simp only [hc, hck, h.l0, h.l1, h.d0, h.d1, len2, len2s, h.loop (a := ((n, ([(0, 0), (1, 0)], 3)), l, k, [s0, s1], [], room, (2, fr, k, t, 0, key, v, 0, ask, false, 0))) rfl, Option.bind_some, decide_true, Bool.not_true, Bool.not_false, cond_true, cond_false, Sum.elim_inl, notes_is (show ([] : List Note).length ≤ 1000 by simp), h.at, hwr,
    show decide ((2 : Int) = 1) = false from rfl, show decide ((2 : Int) = 3) = false from rfl, hcode, refusal_is]
  unfold writeA
  generalize hC : codeW (writeR (mine l s0 s1) t key v ask) room = C
  by_cases e0 : C = 0
  · subst e0
    have hz : (writeR (mine l s0 s1) t key v ask).2 = 0 := by
      unfold codeW at hC
      split at hC
      · cases hC
      · exact hC
    obtain ⟨q1, q2, q3, q4⟩ := clones (hq hz)
    simp only [if_true, show (decide ((0 : Int) = 11) || decide ((0 : Int) = 8)) = false from rfl, Option.bind_some, cond_false, decide_true, Bool.not_true, Sum.elim_inl, q1, q2, q3, q4, doneM, prepared]
  · rw [if_neg e0]
    by_cases e1 : C = 11 ∨ C = 8
    · have hr : (decide (C = 11) || decide (C = 8)) = true := by rcases e1 with e | e <;> rw [e] <;> rfl
      rw [if_pos e1]
      simp only [hr, cond_true, Option.bind_some, Sum.elim_inl, c1, c2, c3, c4, doneM]
    · have hr : (decide (C = 11) || decide (C = 8)) = false := by
        rw [decide_eq_false (fun e => e1 (.inl e)), decide_eq_false (fun e => e1 (.inr e))]; rfl
      rw [if_neg e1]
      simp only [hr, cond_false, decide_eq_false e0, Bool.not_false, cond_true, Option.bind_some, Sum.elim_inl, c1, c2, c3, c4]

/-- What is answered to who asks whether it is still so. -/
def sureM (k fr : Int) (t : Txn) (lb key ver : Int) (y : Bool) : Msg := (7, k, fr, t, lb, key, 0, ver, 0, y, 0)

def stillB (s : Sto) (t : Txn) (key ver : Int) : Bool := s.2.1.any (lockB t key) && decide ((itemOf s.1 key).2.2 = ver)

theorem still_is {s : Sto} (h : StoreOk s) {t : Txn} (ht : txnB t = true) {key ver : Int} (k0 : 0 ≤ key) (k1 : key < 8) : r93 (s, t, key, ver) = some (stillB s t key ver, 0) := by
  unfold r93 stillB
  simp only [call_is h ht k0 k1, Option.bind_some, decide_true, Bool.not_true, cond_false, lock_is h.short, idxOr_any, item_is h, and_bif, bif_some]

theorem hear_check {n l k : Int} {s0 s1 : Sto} (h : Ears n l k s0 s1) {fr : Int} {t : Txn} {key ver room : Int} (hm : Cf.MsgOk (conf n) (3, fr, k, t, l, key, 0, ver, 0, false, 0)) (ht : txnB t = true) :
    r27 (conf n, l, k, [s0, s1], [], room, (3, fr, k, t, l, key, 0, ver, 0, false, 0)) = some ((mine l s0 s1, ([sureM k fr t l key ver (stillB (mine l s0 s1) t key ver)], ([], []))), 0) := by
  have hc := Cf.check_ok h.conf
  have hck := Cf.msg_ok h.conf hm
  have hst := still_is h.mineOk ht (key := key) (ver := ver) hm.y0 hm.y1
  have hab := above_is h.lb h.lb
  have hself : above l l = true := decide_eq_true (by omega)
  rw [hself] at hab
  obtain ⟨c1, c2, c3, c4⟩ := clones h.mineOk.short
  unfold conf at *
  unfold r27
  simp only [hc, hck, h.l0, h.l1, h.d0, h.d1, len2, len2s, h.loop (a := ((n, ([(0, 0), (1, 0)], 3)), l, k, [s0, s1], [], room, (3, fr, k, t, l, key, 0, ver, 0, false, 0))) rfl, Option.bind_some, decide_true, Bool.not_true, Bool.not_false, cond_true, cond_false, Sum.elim_inl, hab, notes_is (show ([] : List Note).length ≤ 1000 by simp), h.at, hst,
    show decide ((3 : Int) = 1) = false from rfl, show decide ((3 : Int) = 2) = false from rfl, c1, c2, c3, c4, sureM]

theorem hear_still {n k : Int} {s0 s1 : Sto} (h : Ears n 1 k s0 s1) {fr : Int} {t : Txn} {key ver room : Int} (hm : Cf.MsgOk (conf n) (3, fr, k, t, 0, key, 0, ver, 0, false, 0)) :
    r27 (conf n, 1, k, [s0, s1], [], room, (3, fr, k, t, 0, key, 0, ver, 0, false, 0)) = some ((s1, ([sureM k fr t 0 key ver (decide ((peekR s0 key).2.2 = 0) && decide ((peekR s0 key).2.1 = ver))], ([], []))), 0) := by
  have hc := Cf.check_ok h.conf
  have hck := Cf.msg_ok h.conf hm
  have hpk := peek_is h.ok0 (k := key) hm.y0 hm.y1
  have hab := above_is (a := 1) (b := 0) (.inr rfl) (.inl rfl)
  rw [show above 1 0 = true from rfl] at hab
  obtain ⟨c1, c2, c3, c4⟩ := clones h.ok1.short
  unfold conf at *
  unfold r27
  simp only [hc, hck, h.l0, h.l1, h.d0, h.d1, len2, len2s, h.loop (a := ((n, ([(0, 0), (1, 0)], 3)), 1, k, [s0, s1], [], room, (3, fr, k, t, 0, key, 0, ver, 0, false, 0))) rfl, Option.bind_some, decide_true, Bool.not_true, Bool.not_false, cond_true, cond_false, Sum.elim_inl, hab, notes_is (show ([] : List Note).length ≤ 1000 by simp),
    show idxI [s0, s1] (1 : Int) = some s1 from rfl, show idxI [s0, s1] (0 : Int) = some s0 from rfl, show decide ((0 : Int) = 1) = false from rfl, show decide ((3 : Int) = 1) = false from rfl, show decide ((3 : Int) = 2) = false from rfl, hpk, bif_some, and_bif, Bool.and_false, c1, c2, c3, c4, sureM]

theorem hear_kind {n l k : Int} {s0 s1 : Sto} (h : Ears n l k s0 s1) {m : Msg} {room : Int} (hm : Cf.MsgOk (conf n) m) (hto : m.2.2.1 = k) (hk : 4 < m.1) : r27 (conf n, l, k, [s0, s1], [], room, m) = some (noAns, 3) := by
  have hc := Cf.check_ok h.conf
  have hck := Cf.msg_ok h.conf hm
  unfold conf at *
  unfold r27
  simp only [hc, hck, h.l0, h.l1, h.d0, h.d1, len2, len2s, h.loop (a := ((n, ([(0, 0), (1, 0)], 3)), l, k, [s0, s1], [], room, m)) rfl, Option.bind_some, decide_true, Bool.not_true, Bool.not_false, cond_true, cond_false, Sum.elim_inl, hto, notes_is (show ([] : List Note).length ≤ 1000 by simp),
    decide_eq_false (show ¬ m.1 = 1 by omega), decide_eq_false (show ¬ m.1 = 2 by omega), decide_eq_false (show ¬ m.1 = 3 by omega), decide_eq_false (show ¬ m.1 = 4 by omega), Sum.elim_inr]
  rfl

theorem hear_elsewhere {n l k : Int} {s0 s1 : Sto} (h : Ears n l k s0 s1) {m : Msg} {room : Int} (hm : Cf.MsgOk (conf n) m) (hto : m.2.2.1 ≠ k) : r27 (conf n, l, k, [s0, s1], [], room, m) = some (noAns, 2) := by
  have hc := Cf.check_ok h.conf
  have hck := Cf.msg_ok h.conf hm
  unfold conf at *
  unfold r27
  simp only [hc, hck, h.l0, h.l1, h.d0, h.d1, len2, len2s, h.loop (a := ((n, ([(0, 0), (1, 0)], 3)), l, k, [s0, s1], [], room, m)) rfl, Option.bind_some, decide_true, Bool.not_true, Bool.not_false, cond_true, cond_false, Sum.elim_inl, decide_eq_false hto]
  rfl

/-- What is answered to who is told the decision. -/
def ackM (k fr : Int) (t : Txn) : Msg := (8, k, fr, t, 0, 0, 0, 0, 0, false, 0)
def applied (t : Txn) (yes : Bool) : Rec := (2, t, 0, 0, 0, yes, [])

/-- Was it forced otherwise? -/
def hurt (t : Txn) (yes : Bool) (x : Note) : Bool := (decide (x.1 = t) && !decide (x.2.1 = yes)) && !x.2.2
def hurtN (t : Txn) (yes : Bool) (x : Note) : Note := if hurt t yes x = true then (x.1, x.2.1, true) else x

def decideA (s : Sto) (t : Txn) (yes : Bool) (k fr : Int) (notes : List Note) : Ans :=
  (endR s t yes, ([ackM k fr t], ((if 0 < s.2.1.countP (wrote t) ∨ notes.any (hurt t yes) = true then [applied t yes] else []), notes.map (hurtN t yes))))

theorem hurt_loop {a : Conf × (Int × (Int × (List Sto × (List Note × (Int × Msg)))))} {notes : List Note} (hn : notes.length ≤ 1) :
    loopR (r27_L1 notes a) ((), ((), (false, ((), ((0 : Int), notes))))) = some ((), (notes.any (hurt a.2.2.2.2.2.2.2.2.2.1 a.2.2.2.2.2.2.2.2.2.2.2.2.2.2.2.1), notes.map (hurtN a.2.2.2.2.2.2.2.2.2.1 a.2.2.2.2.2.2.2.2.2.2.2.2.2.2.2.1))) := by
  match notes, hn with
  | [], _ =>
    rw [loopR_go]
    unfold r27_L1
    rfl
  | [x], _ =>
    rw [loopR_go]
    unfold r27_L1
    simp only [List.length_cons, List.length_nil, show decide ((0 : Int) < ((0 + 1 : Nat) : Int)) = true from rfl, cond_true, show inB 0 (0 + 1) = true from rfl, show idxN [x] (Int.toNat 0) = some x from rfl, Option.bind_some, pair_dec, bif_some, and_bif]
    have hh : ((decide (x.1 = a.2.2.2.2.2.2.2.2.2.1) && !decide (x.2.1 = a.2.2.2.2.2.2.2.2.2.2.2.2.2.2.2.1)) && !x.2.2) = hurt a.2.2.2.2.2.2.2.2.2.1 a.2.2.2.2.2.2.2.2.2.2.2.2.2.2.2.1 x := rfl
    rw [hh]
    cases e : hurt a.2.2.2.2.2.2.2.2.2.1 a.2.2.2.2.2.2.2.2.2.2.2.2.2.2.2.1 x with
    | true =>
      simp only [cond_true, goL_inl, show Go.IntKind.wrap .i64 ((0 : Int) + 1) = 1 from by decide]
      rw [loopR_go]
      simp only [show decide ((1 : Int) < ((0 + 1 : Nat) : Int)) = false from rfl, cond_false, goL_inr]
      simp [hurtN, e]
    | false =>
      simp only [cond_false, goL_inl, show Go.IntKind.wrap .i64 ((0 : Int) + 1) = 1 from by decide]
      rw [loopR_go]
      simp only [List.length_cons, List.length_nil, show decide ((1 : Int) < ((0 + 1 : Nat) : Int)) = false from rfl, cond_false, goL_inr]
      simp [hurtN, e]

theorem hear_decide {n l k : Int} {s0 s1 : Sto} (h : Ears n l k s0 s1) {fr : Int} {t : Txn} {yes : Bool} {room : Int} {notes : List Note} (hn : notes.length ≤ 1) (hm : Cf.MsgOk (conf n) (4, fr, k, t, 0, 0, 0, 0, 0, yes, 0)) (ht : txnB t = true)
    (hend : r19 (mine l s0 s1, t, yes) = some (endR (mine l s0 s1) t yes, 0)) (hE : Short (endR (mine l s0 s1) t yes)) :
    r27 (conf n, l, k, [s0, s1], notes, room, (4, fr, k, t, 0, 0, 0, 0, 0, yes, 0)) = some (decideA (mine l s0 s1) t yes k fr notes, 0) := by
  have hc := Cf.check_ok h.conf
  have hck := Cf.msg_ok h.conf hm
  have hws := writes_is h.mineOk ht
  obtain ⟨c1, c2, c3, c4⟩ := clones hE
  have hlp := hurt_loop (a := ((n, ([(0, 0), (1, 0)], 3)), l, k, [s0, s1], notes, room, (4, fr, k, t, 0, 0, 0, 0, 0, yes, 0))) hn
  unfold conf at *
  unfold r27
  simp only [hc, hck, h.l0, h.l1, h.d0, h.d1, len2, len2s, h.loop (a := ((n, ([(0, 0), (1, 0)], 3)), l, k, [s0, s1], notes, room, (4, fr, k, t, 0, 0, 0, 0, 0, yes, 0))) rfl, Option.bind_some, decide_true, Bool.not_true, Bool.not_false, cond_true, cond_false, Sum.elim_inl, notes_is (show notes.length ≤ 1000 by omega), h.at, hws, hend, hlp,
    show decide ((4 : Int) = 1) = false from rfl, show decide ((4 : Int) = 2) = false from rfl, show decide ((4 : Int) = 3) = false from rfl]
  unfold decideA
  by_cases hp : 0 < (mine l s0 s1).2.1.countP (wrote t)
  · rw [if_pos (.inl hp), decide_eq_true (show (0 : Int) < ((mine l s0 s1).2.1.countP (wrote t) : Int) by omega)]
    simp only [Bool.not_true, cond_false, Option.bind_some, cond_true, c1, c2, c3, c4, Sum.elim_inl, ackM, applied]
  · rw [decide_eq_false (show ¬ (0 : Int) < ((mine l s0 s1).2.1.countP (wrote t) : Int) by omega)]
    cases ha : notes.any (hurt t yes) with
    | true =>
      rw [if_pos (.inr rfl)]
      simp only [Bool.not_false, Option.bind_some, cond_true, c1, c2, c3, c4, Sum.elim_inl, ackM, applied]
    | false =>
      rw [if_neg (by rintro (h | h); exact hp h; cases h)]
      simp only [Bool.not_false, Option.bind_some, cond_true, cond_false, c1, c2, c3, c4, Sum.elim_inl, ackM]

end Go.Hq
