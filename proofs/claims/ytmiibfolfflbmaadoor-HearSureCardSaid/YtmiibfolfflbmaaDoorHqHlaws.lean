/- A site's keys: the laws of hearing a message. -/
import Derived.Test.YtmiibfolfflbmaaDoorHqHear
namespace Go.Hq
open Go.RowKit Go.Proofs Go.V

/-! ### what a message of a kind is -/
theorem form_is {c : Conf} {m : Msg} (h : Cf.MsgOk c m) {p : Cf.Parts} (hp : idxI tab0 m.1 = some p) : Cf.formBad p m = false := by
  obtain ⟨q, h1, h2⟩ := h.form
  rw [hp] at h1
  cases h1
  exact h2

theorem form_read {c : Conf} {m : Msg} (h : Cf.MsgOk c m) (hk : m.1 = 1) : ∃ fr to t lb key ask, m = (1, fr, to, t, lb, key, 0, 0, ask, false, 0) := by
  obtain ⟨kd, fr, to, t, lb, key, v, ver, ask, y, cd⟩ := m
  simp only at hk; subst hk
  have h2 := form_is h (p := _) rfl
  simp [Cf.formBad] at h2
  obtain ⟨⟨⟨⟨h3, h4⟩, h5⟩, h6⟩, -⟩ := h2
  exact ⟨fr, to, t, lb, key, ask, by rw [h3, h4, h5, h6]⟩

theorem form_write {c : Conf} {m : Msg} (h : Cf.MsgOk c m) (hk : m.1 = 2) : ∃ fr to t key v ask, m = (2, fr, to, t, 0, key, v, 0, ask, false, 0) := by
  obtain ⟨kd, fr, to, t, lb, key, v, ver, ask, y, cd⟩ := m
  simp only at hk; subst hk
  have h2 := form_is h (p := _) rfl
  simp [Cf.formBad] at h2
  obtain ⟨⟨⟨⟨h3, h4⟩, h5⟩, h6⟩, -⟩ := h2
  exact ⟨fr, to, t, key, v, ask, by rw [h3, h4, h5, h6]⟩

theorem form_check {c : Conf} {m : Msg} (h : Cf.MsgOk c m) (hk : m.1 = 3) : ∃ fr to t lb key ver, m = (3, fr, to, t, lb, key, 0, ver, 0, false, 0) := by
  obtain ⟨kd, fr, to, t, lb, key, v, ver, ask, y, cd⟩ := m
  simp only at hk; subst hk
  have h2 := form_is h (p := _) rfl
  simp [Cf.formBad] at h2
  obtain ⟨⟨⟨⟨h3, h4⟩, h5⟩, h6⟩, -⟩ := h2
  exact ⟨fr, to, t, lb, key, ver, by rw [h3, h4, h5, h6]⟩

theorem form_decide {c : Conf} {m : Msg} (h : Cf.MsgOk c m) (hk : m.1 = 4) : ∃ fr to t y, m = (4, fr, to, t, 0, 0, 0, 0, 0, y, 0) := by
  obtain ⟨kd, fr, to, t, lb, key, v, ver, ask, y, cd⟩ := m
  simp only at hk; subst hk
  have h2 := form_is h (p := _) rfl
  simp [Cf.formBad] at h2
  obtain ⟨⟨⟨⟨⟨⟨h3, h4⟩, h5⟩, h6⟩, h7⟩, h8⟩, -⟩ := h2
  exact ⟨fr, to, t, y, by rw [h3, h4, h5, h6, h7, h8]⟩

/-! ### an answer's message is a good one -/
theorem item_bounds {s : Sto} (h : StoreOk s) (key : Int) : 0 ≤ (itemOf s.1 key).2.1 ∧ (itemOf s.1 key).2.1 ≤ 1073741824 ∧ 0 ≤ (itemOf s.1 key).2.2 ∧ (itemOf s.1 key).2.2 ≤ 1048576 := by
  unfold itemOf
  cases e : s.1.find? fun x => decide (x.1 = key) with
  | none => simp
  | some y =>
    have := h.item y (List.mem_of_find?_eq_some e)
    simp only [Option.getD_some]; omega

theorem read_bounds {s : Sto} (h : StoreOk s) (t : Txn) (key : Int) : 0 ≤ (readR s t key).2.1 ∧ (readR s t key).2.1 ≤ 1073741824 ∧ 0 ≤ (readR s t key).2.2.1 ∧ (readR s t key).2.2.1 ≤ 1048576 := by
  have hb := item_bounds h key
  unfold readR
  split
  · split
    · rename_i x hx
      have := h.lock x (List.mem_of_getElem? hx)
      simp only
      split <;> omega
    · simp
  · split
    · simp
    · split
      · simp
      · split
        · simp
        · exact hb

theorem gotM_ok {n k k' fr : Int} {t : Txn} {lb key v ver ask code : Int} (k0 : 0 ≤ k) (k1 : k < n) (hm : Cf.MsgOk (conf n) (1, fr, k', t, lb, key, 0, 0, ask, false, 0)) (v0 : 0 ≤ v) (v1 : v ≤ 1073741824) (r0 : 0 ≤ ver) (r1 : ver ≤ 1048576) (hc : code = 0 ∨ ((code = 11 ∨ code = 8) ∧ v = 0 ∧ ver = 0)) :
    Cf.MsgOk (conf n) (gotM k fr t lb key v ver ask code) := by
  unfold gotM
  refine ⟨by simp, by simp, k0, k1, hm.f0, hm.f1, hm.x0, hm.x1, hm.n0, hm.n1, hm.l0, hm.l1, hm.y0, hm.y1, v0, v1, r0, r1, hm.a0, hm.a1, ?_, ⟨_, rfl, ?_⟩⟩
  · rcases hc with e | ⟨e, -⟩
    · exact .inl e
    · exact .inr e
  · rcases hc with e | ⟨e, f, g⟩
    · simp [Cf.formBad, e]
    · simp [Cf.formBad, f, g, Cf.wrap0]

theorem doneM_ok {n k k' fr : Int} {t : Txn} {key v ask code : Int} (k0 : 0 ≤ k) (k1 : k < n) (hm : Cf.MsgOk (conf n) (2, fr, k', t, 0, key, v, 0, ask, false, 0)) (hc : code = 0 ∨ code = 11 ∨ code = 8) : Cf.MsgOk (conf n) (doneM k fr t key ask code) := by
  unfold doneM
  exact ⟨by simp, by simp, k0, k1, hm.f0, hm.f1, hm.x0, hm.x1, hm.n0, hm.n1, hm.l0, hm.l1, hm.y0, hm.y1, by simp, by simp, by simp, by simp, hm.a0, hm.a1, hc, ⟨_, rfl, by simp [Cf.formBad, Cf.wrap0]⟩⟩

theorem sureM_ok {n k k' fr : Int} {t : Txn} {lb key ver : Int} {y : Bool} (k0 : 0 ≤ k) (k1 : k < n) (hm : Cf.MsgOk (conf n) (3, fr, k', t, lb, key, 0, ver, 0, false, 0)) : Cf.MsgOk (conf n) (sureM k fr t lb key ver y) := by
  unfold sureM
  exact ⟨by simp, by simp, k0, k1, hm.f0, hm.f1, hm.x0, hm.x1, hm.n0, hm.n1, hm.l0, hm.l1, hm.y0, hm.y1, by simp, by simp, hm.r0, hm.r1, by simp, by simp, .inl rfl, ⟨_, rfl, by simp [Cf.formBad]⟩⟩

theorem ackM_ok {n k k' fr : Int} {t : Txn} {y : Bool} (k0 : 0 ≤ k) (k1 : k < n) (hm : Cf.MsgOk (conf n) (4, fr, k', t, 0, 0, 0, 0, 0, y, 0)) : Cf.MsgOk (conf n) (ackM k fr t) := by
  unfold ackM
  exact ⟨by simp, by simp, k0, k1, hm.f0, hm.f1, hm.x0, hm.x1, hm.n0, hm.n1, by simp, hm.l1, by simp, by simp, by simp, by simp, by simp, by simp, by simp, by simp, .inl rfl, ⟨_, rfl, by simp [Cf.formBad, Cf.wrap0]⟩⟩

/-- An answer as it must be. -/
structure Told (n k : Int) (m : Msg) (a : Ans) : Prop where
  ok : StoreOk a.1
  one : a.2.1.length ≤ 1
  told : ∀ x ∈ a.2.1, x.2.1 = k ∧ x.2.2.1 = m.2.1 ∧ x.2.2.2.1 = m.2.2.2.1 ∧ Cf.MsgOk (conf n) x

theorem Told.of {n k : Int} {m x : Msg} {s : Sto} {r : List Rec × List Note} (h : StoreOk s) (h1 : x.2.1 = k) (h2 : x.2.2.1 = m.2.1) (h3 : x.2.2.2.1 = m.2.2.2.1) (h4 : Cf.MsgOk (conf n) x) : Told n k m (s, ([x], r)) :=
  ⟨h, by simp, fun y hy => by
    rw [List.mem_singleton.1 hy]
    exact ⟨h1, h2, h3, h4⟩⟩

theorem Told.none {n k : Int} {m : Msg} {s : Sto} {r : List Rec × List Note} (h : StoreOk s) : Told n k m (s, ([], r)) :=
  ⟨h, by simp, fun y hy => by cases hy⟩

theorem msg_txn {n : Int} (hn : n ≤ 4) {m : Msg} (h : Cf.MsgOk (conf n) m) : txnB m.2.2.2.1 = true := by
  have h1 := h.x0
  have h2 : m.2.2.2.1.1 < n := h.x1
  have h3 := h.n0
  have h4 := h.n1
  unfold txnB
  rw [decide_eq_true h1, decide_eq_true (show m.2.2.2.1.1 < 4 by omega), decide_eq_true h3, decide_eq_true h4]; rfl

/-- A message for this site of a kind that a part hears. -/
theorem heard {n l k : Int} {s0 s1 : Sto} {c : Nat} (h : Ears n l k s0 s1) (hM : Made c (mine l s0 s1)) (hc : c ≤ 1000) {m : Msg} (hm : Cf.MsgOk (conf n) m) (hto : m.2.2.1 = k) (hk : m.1 ≤ 4) (hl : m.1 = 1 ∨ m.1 = 3 → m.2.2.2.2.1 = l) {room : Int} :
    ∃ a, r27 (conf n, l, k, [s0, s1], [], room, m) = some (a, 0) ∧ Told n k m a := by
  have ht := msg_txn (by have := h.n3; omega) hm
  have h0 := hm.k0
  have hd := hM.doubts
  have hcase : m.1 = 1 ∨ m.1 = 2 ∨ m.1 = 3 ∨ m.1 = 4 := by omega
  rcases hcase with e | e | e | e
  · obtain ⟨fr, to, t, lb, key, ask, rfl⟩ := form_read hm e
    simp only at hto ht
    subst hto
    have := hl (.inl rfl)
    simp only at this
    subst this
    have hkp := read_keep h.mineOk (k := key) ht hm.y0 hm.y1 (by omega)
    refine ⟨_, hear_read h hm ht fun e0 => (hkp e0).short, ?_⟩
    obtain ⟨b1, b2, b3, b4⟩ := read_bounds h.mineOk t key
    unfold readA
    split
    · rename_i e0
      exact .of (hkp e0) rfl rfl rfl (gotM_ok h.k0 h.k1 hm b1 b2 b3 b4 (.inl rfl))
    · split
      · rename_i e1
        exact .of h.mineOk rfl rfl rfl (gotM_ok h.k0 h.k1 hm (by omega) (by omega) (by omega) (by omega) (.inr ⟨e1, rfl, rfl⟩))
      · exact .none h.mineOk
  · obtain ⟨fr, to, t, key, v, ask, rfl⟩ := form_write hm e
    simp only at hto ht
    subst hto
    have hkp := write_keep h.mineOk (k := key) (v := v) (ask := ask) ht hm.y0 hm.y1 hm.v0 hm.v1 hm.a0 hm.a1 (by omega)
    refine ⟨_, hear_write h hm ht fun e0 => (hkp e0).short, ?_⟩
    unfold writeA
    split
    · rename_i e0
      have hz : (writeR (mine l s0 s1) t key v ask).2 = 0 := by
        unfold codeW at e0
        split at e0
        · cases e0
        · exact e0
      exact .of (hkp hz) rfl rfl rfl (doneM_ok h.k0 h.k1 hm (.inl rfl))
    · split
      · rename_i e1
        exact .of h.mineOk rfl rfl rfl (doneM_ok h.k0 h.k1 hm (.inr e1))
      · exact .none h.mineOk
  · obtain ⟨fr, to, t, lb, key, ver, rfl⟩ := form_check hm e
    simp only at hto ht
    subst hto
    have := hl (.inr rfl)
    simp only at this
    subst this
    exact ⟨_, hear_check h hm ht, .of h.mineOk rfl rfl rfl (sureM_ok h.k0 h.k1 hm)⟩
  · obtain ⟨fr, to, t, y, rfl⟩ := form_decide hm e
    simp only at hto ht
    subst hto
    have hend := made_end_is hM hc ht y
    have hok := made_end_ok hM hc ht y
    exact ⟨_, hear_decide h (by simp) hm ht hend hok.short, .of hok rfl rfl rfl (ackM_ok h.k0 h.k1 hm)⟩

theorem kind_loop {n k : Int} {m : Msg} {a : Ans} (hc : Cf.CfgOk (conf n)) (h : Told n k m a) : loopR (r7_L0 (a, 0) k m (n, ([(0, 0), (1, 0)], 3))) (0 : Int) = some (.inl ()) := by
  refine all_loop (xs := a.2.1) (by have := h.one; omega) (fun i x hx => ?_) ?_
  · obtain ⟨e1, e2, -⟩ := in_len hx
    obtain ⟨h1, h2, h3, h4⟩ := h.told x (List.mem_of_getElem? hx)
    have h5 := Cf.msg_ok hc h4
    unfold conf at h5
    unfold r7_L0
    simp only [e1, e2, cond_true, Option.bind_some, h1, h2, h3, h5, decide_true, Bool.and_self, Bool.not_true, Bool.not_false, cond_false]
  · unfold r7_L0
    simp only [at_len, cond_false]

theorem hearKind {a : Int} (ha : i64 a) {l : List Raw} (hl : l.length ≤ 9223372036854775807) (hr : ∀ r ∈ l, rawOk r) {b : Raw} (hb : rawOk b) {at_ : Int} (hat : i64 at_) : r7 (a, l, b, at_) = some true := by
  obtain ⟨n, e1, n1, n2⟩ := two_is ha
  have hc : Cf.CfgOk (conf n) := two_ok n1 n2 (by omega) (by omega)
  obtain ⟨m, e2, hm⟩ := Cf.msg_is hc (b := b) ⟨hb.1, hb.2.1, hb.2.2.1, hb.2.2.2.1, hb.2.2.2.2.1, hb.2.2.2.2.2⟩
  obtain ⟨k, e3, k0, k1⟩ := picked_is at_ n hat (by omega)
  obtain ⟨s, e4, hM⟩ := store_is hl hr (m := 20) (by omega)
  rw [show ((20 : Nat) : Int) = (20 : Int) from rfl] at e4
  have hE : Ears n 0 k s noSto := ⟨n1, n2, .inl rfl, k0, k1, hM.ok, nil_ok⟩
  unfold conf at e2
  unfold r7
  simp only [e1, e2, e3, e4, Option.bind_some]
  by_cases hto : m.2.2.1 = k
  · by_cases hk : 4 < m.1
    · have hh : r27 ((n, ([(0, 0), (1, 0)], 3)), (0 : Int), k, [s, ([], ([], ([], [])))], [], (6000 : Int), m) = some (noAns, 3) := hear_kind hE hm hto hk
      simp only [hh, Option.bind_some, hto, decide_true, Bool.not_true, cond_false, decide_eq_true hk, cond_true]
    · by_cases hhi : (m.1 = 1 ∨ m.1 = 3) ∧ m.2.2.2.2.1 = 1
      · have hh : r27 ((n, ([(0, 0), (1, 0)], 3)), (0 : Int), k, [s, ([], ([], ([], [])))], [], (6000 : Int), m) = some (noAns, 10) := by
          obtain ⟨kd, fr, to, t, lb, key, v, ver, ask, y, cd⟩ := m
          simp only at hhi hto
          obtain ⟨h1, h2⟩ := hhi
          subst hto h2
          exact hear_high hE h1 hm
        have hg : (Option.bind (bif !(decide (m.1 = (1 : Int))) then some (decide (m.1 = (3 : Int))) else some true) fun (g8 : Bool) => bif g8 then some (decide (m.2.2.2.2.1 = (1 : Int))) else some false) = some true := by
          rw [hhi.2]
          rcases hhi.1 with e | e <;> rw [e] <;> rfl
        simp only [hh, Option.bind_some, hto, decide_true, Bool.not_true, cond_false, decide_eq_false hk, hg, cond_true]
      · have hlb : m.1 = 1 ∨ m.1 = 3 → m.2.2.2.2.1 = 0 := fun h1 => by
          have h2 := hm.l0
          have h3 : m.2.2.2.2.1 < 2 := hm.l1
          by_cases h4 : m.2.2.2.2.1 = 1
          · exact absurd ⟨h1, h4⟩ hhi
          · omega
        obtain ⟨a', h1, h2⟩ := heard hE (c := 20) (show Made 20 (mine 0 s noSto) from hM) (by omega) hm hto (by omega) hlb (room := 6000)
        have hh : r27 ((n, ([(0, 0), (1, 0)], 3)), (0 : Int), k, [s, ([], ([], ([], [])))], [], (6000 : Int), m) = some (a', 0) := h1
        have hg : (Option.bind (bif !(decide (m.1 = (1 : Int))) then some (decide (m.1 = (3 : Int))) else some true) fun (g8 : Bool) => bif g8 then some (decide (m.2.2.2.2.1 = (1 : Int))) else some false) = some false := by
          by_cases h3 : m.1 = 1 ∨ m.1 = 3
          · rw [hlb h3]
            rcases h3 with e | e <;> rw [e] <;> rfl
          · rw [decide_eq_false (fun e => h3 (.inl e)), decide_eq_false (fun e => h3 (.inr e))]; rfl
        have hlen := h2.one
        simp only [hh, Option.bind_some, hto, decide_true, Bool.not_true, Bool.not_false, cond_false, decide_eq_false hk, hg, cond_true, storeCheck_is h2.ok, decide_eq_false (show ¬ (1 : Int) < (a'.2.1.length : Int) by omega), kind_loop hc h2, Sum.elim_inl]
  · have hh : r27 ((n, ([(0, 0), (1, 0)], 3)), (0 : Int), k, [s, ([], ([], ([], [])))], [], (6000 : Int), m) = some (noAns, 2) := hear_elsewhere hE hm hto
    simp only [hh, Option.bind_some, decide_eq_false hto, Bool.not_false, cond_true, decide_true]

theorem hearDown {l l' : List Raw} (hl : l.length ≤ 9223372036854775807) (hr : ∀ r ∈ l, rawOk r) (hl' : l'.length ≤ 9223372036854775807) (hr' : ∀ r ∈ l', rawOk r) {b : Raw} (hb : rawOk b) {key : Int} (hk : i64 key) : r8 (l, l', b, key) = some true := by
  obtain ⟨n, e1, n1, n2⟩ := two_is (a := 0) (by unfold i64; omega)
  have hc : Cf.CfgOk (conf n) := two_ok n1 n2 (by omega) (by omega)
  obtain ⟨s0, e2, hM0⟩ := store_is hl hr (m := 25) (by omega)
  obtain ⟨s1, e3, hM1⟩ := store_is hl' hr' (m := 10) (by omega)
  obtain ⟨k, e4, k0, k1⟩ := picked_is key 8 hk (by omega)
  obtain ⟨t, e5, t0, t1, t2, t3⟩ := Cf.txnMade hc hb.2.1 hb.2.2.1
  rw [show ((25 : Nat) : Int) = (25 : Int) from rfl] at e2
  rw [show ((10 : Nat) : Int) = (10 : Int) from rfl] at e3
  have hE : Ears n 1 0 s0 s1 := ⟨n1, n2, .inr rfl, by omega, by omega, hM0.ok, hM1.ok⟩
  have hm : Cf.MsgOk (conf n) (1, 0, 0, t, 0, k, 0, 0, 1, false, 0) :=
    ⟨by simp, by simp, by simp, by show (0 : Int) < n; omega, by simp, by show (0 : Int) < n; omega, t0, t1, t2, by simp only; omega, by simp, by simp [conf], k0, k1, by simp, by simp, by simp, by simp, by simp, by simp, .inl rfl, ⟨_, rfl, by simp [Cf.formBad, Cf.wrap0]⟩⟩
  have hh : r27 ((n, ([(0, 0), (1, 0)], 3)), (1 : Int), (0 : Int), [s0, s1], [], (6000 : Int), (1, 0, 0, t, 0, k, 0, 0, 1, false, 0)) = some ((s1, ([gotM 0 0 t 0 k (peekR s0 k).1 (peekR s0 k).2.1 1 (peekR s0 k).2.2], ([], []))), 0) := hear_low hE hm
  have hp : (peekR s0 k).2.2 = 0 ∨ ((peekR s0 k).2.2 = 11 ∧ (peekR s0 k).1 = 0 ∧ (peekR s0 k).2.1 = 0) := by
    unfold peekR
    split
    · exact .inr ⟨rfl, rfl, rfl⟩
    · exact .inl rfl
  unfold conf at e5
  unfold r8
  simp only [e1, e2, e3, e4, e5, hh, Option.bind_some, cond_true, show idxN [s0, s1] 0 = some s0 from rfl, show idxN [s0, s1] 1 = some s1 from rfl, peek_is hM0.ok k0 k1,
    decide_true, Bool.not_true, Bool.not_false, List.length_cons, List.length_nil, show ((0 + 1 : Nat) : Int) = 1 from rfl, show ((0 : Nat) : Int) = 0 from rfl, same_is hM1.ok.short, show idxI [gotM 0 0 t 0 k (peekR s0 k).1 (peekR s0 k).2.1 1 (peekR s0 k).2.2] (0 : Int) = some (gotM 0 0 t 0 k (peekR s0 k).1 (peekR s0 k).2.1 1 (peekR s0 k).2.2) from rfl]
  unfold gotM
  rcases hp with e | ⟨e, e1, e2⟩
  · simp [e, show inB 0 2 = true from rfl, show inB 1 2 = true from rfl]
  · simp [e, e1, e2, Cf.wrap0, show inB 0 2 = true from rfl, show inB 1 2 = true from rfl]

theorem hearSure {l : List Raw} (hl : l.length ≤ 9223372036854775807) (hr : ∀ r ∈ l, rawOk r) {key value : Int} (hk : i64 key) (hv : i64 value) : r9 (l, key, value) = some true := by
  obtain ⟨n, e1, n1, n2⟩ := two_is (a := 0) (by unfold i64; omega)
  obtain ⟨s, e2, hM⟩ := store_is hl hr (m := 25) (by omega)
  obtain ⟨k, e3, k0, k1⟩ := picked_is key 8 hk (by omega)
  obtain ⟨v, e4, v0, v1⟩ := picked_is value 99 hv (by omega)
  rw [show ((25 : Nat) : Int) = (25 : Int) from rfl] at e2
  have hx : Fresh (0, 6) := ⟨by simp, by simp, by simp, by simp⟩
  have ask : ∀ {s' : Sto}, StoreOk s' → ∀ {ver : Int}, 0 ≤ ver → ver ≤ 1048576 → r27 ((n, ([(0, 0), (1, 0)], 3)), (1 : Int), (0 : Int), [s', ([], ([], ([], [])))], [], (6000 : Int), (3, 0, 0, (0, 1), 0, k, 0, ver, 0, false, 0)) = some ((noSto, ([sureM 0 0 (0, 1) 0 k ver (decide ((peekR s' k).2.2 = 0) && decide ((peekR s' k).2.1 = ver))], ([], []))), 0) := fun {s'} h' {ver} r0 r1 => by
    have hm : Cf.MsgOk (conf n) (3, 0, 0, (0, 1), 0, k, 0, ver, 0, false, 0) :=
      ⟨by simp, by simp, by simp, by show (0 : Int) < n; omega, by simp, by show (0 : Int) < n; omega, by simp, by show (0 : Int) < n; omega, by simp, by simp, by simp, by simp [conf], k0, k1, by simp, by simp, r0, r1, by simp, by simp, .inl rfl, ⟨_, rfl, by simp [Cf.formBad]⟩⟩
    exact hear_still ⟨n1, n2, .inr rfl, by omega, by omega, h', nil_ok⟩ hm
  have hver := itemOf_ver hM.items (by omega) k
  unfold r9
  simp only [e1, e2, e3, e4, Option.bind_some, peek_is hM.ok k0 k1, peek_written hM.ok, write_is hM.ok hx.txn k0 k1 v0 (show v ≤ 1073741824 by omega) (show (0 : Int) ≤ 1 by omega) (show (1 : Int) ≤ 1048576 by omega), hM.write (by omega) hx, storeCheck_is hM.ok, decide_true, Bool.not_true, cond_false]
  by_cases hbu : s.2.1.any (held k) = true
  · rw [if_pos hbu]
    split <;> rfl
  · have hu := hM.addW (by omega) hx (k := k) (v := v) (a := 1) k0 k1 v0 (by omega) (by omega) (by omega) hbu
    have hnw : ¬ s.2.1.any (written k) = true := by
      rw [Bool.not_eq_true, List.any_eq_false]
      intro y hy
      have := any_false hbu y hy
      unfold held at this
      unfold written
      rw [this]; simp
    rw [if_neg hbu, if_neg hnw]
    have hends : ∀ yes, endItems (addL s ((0, 6), k, true, v, 1)) (0, 6) yes = if yes = true then putItem s.1 k v else s.1 := fun yes => by
      show (s.2.1 ++ [_]).foldl _ s.1 = _
      rw [List.foldl_append, fold_none _ _ (hM.other hx)]
      unfold stepI
      simp
    have hit : ∀ yes, ItemsOk (if yes = true then putItem s.1 k v else s.1) (24 * 25 + 1) := fun yes => by
      have := stepI_ok hM.items (by omega) (t := (0, 6)) (yes := yes) (b := ((0, 6), k, true, v, 1)) ⟨k0, k1, v0, by simp only; omega, by simp, by simp, by simp⟩
      unfold stepI at this
      simpa using this
    have hend : ∀ yes, r19 (addL s ((0, 6), k, true, v, 1), (0, 6), yes) = some (endR (addL s ((0, 6), k, true, v, 1)) (0, 6) yes, 0) := fun yes =>
      end_is hu (m := 24 * 25) (by omega) (by omega) hM.items hx.txn yes (by have := hM.over; show s.2.2.2.length < _; omega)
    have hw : ∀ yes, StoreOk (endR (addL s ((0, 6), k, true, v, 1)) (0, 6) yes) := fun yes => end_keep hu hx.txn (by
      rw [hends]
      exact ⟨(hit yes).sorted, fun x hx => by have := (hit yes).item x hx; omega⟩) (by have := hM.over; show s.2.2.2.length < _; omega)
    have hlk : ∀ yes, (endR (addL s ((0, 6), k, true, v, 1)) (0, 6) yes).2.1 = s.2.1 := fun yes => by
      show (s.2.1 ++ [_]).filter _ = _
      rw [List.filter_append, filter_none (hM.other hx)]
      simp [isT]
    have hi1 : ∀ yes, (endR (addL s ((0, 6), k, true, v, 1)) (0, 6) yes).1 = if yes = true then putItem s.1 k v else s.1 := hends
    have hpk : ∀ yes, peekR (endR (addL s ((0, 6), k, true, v, 1)) (0, 6) yes) k = if yes = true then (v, (itemOf s.1 k).2.2 + 1, 0) else ((itemOf s.1 k).2.1, (itemOf s.1 k).2.2, 0) := fun yes => by
      rw [peek_written (hw yes), hlk, if_neg hnw, hi1]
      cases yes with
      | true => simp only [if_true, itemOf_put_eq hM.items.sorted]
      | false => rfl
    have hpu : peekR (addL s ((0, 6), k, true, v, 1)) k = (0, 0, 11) := by
      rw [peek_written hu, if_pos]
      show (s.2.1 ++ [((0, 6), k, true, v, 1)]).any (written k) = true
      rw [List.any_append]
      simp [written]
    have a0 := ask hM.ok (ver := (itemOf s.1 k).2.2) hver.1 (by omega)
    have a1 := ask hu (ver := (itemOf s.1 k).2.2) hver.1 (by omega)
    have a2 := ask (hw true) (ver := (itemOf s.1 k).2.2) hver.1 (by omega)
    have a3 := ask (hw false) (ver := (itemOf s.1 k).2.2) hver.1 (by omega)
    rw [peek_written hM.ok, if_neg hnw] at a0
    rw [hpu] at a1
    rw [hpk true] at a2
    rw [hpk false] at a3
    simp only [decide_true, Bool.not_true, Bool.not_false, cond_true, cond_false, hend, Option.bind_some, a0, a1, a2, a3]
    unfold sureM
    simp [idxI, idxN, show ¬ (itemOf s.1 k).2.2 + 1 = (itemOf s.1 k).2.2 by omega]

theorem hearWrite {l : List Raw} (hl : l.length ≤ 9223372036854775807) (hr : ∀ r ∈ l, rawOk r) {b : Raw} (hb : rawOk b) {key value room : Int} (hk : i64 key) (hv : i64 value) (hro : i64 room) : r10 (l, b, key, value, room) = some true := by
  obtain ⟨n, e1, n1, n2⟩ := two_is (a := 0) (by unfold i64; omega)
  obtain ⟨s, e2, hM⟩ := store_is hl hr (m := 25) (by omega)
  obtain ⟨k, e3, k0, k1⟩ := picked_is key 8 hk (by omega)
  obtain ⟨r, e4, r0, r1⟩ := picked_is room 1000 hro (by omega)
  obtain ⟨c, e5, c0, c1⟩ := picked_is b.2.1 9 hb.2.1 (by omega)
  obtain ⟨v, e6, v0, v1⟩ := picked_is value 99 hv (by omega)
  rw [show ((25 : Nat) : Int) = (25 : Int) from rfl] at e2
  have hw5 : Go.IntKind.wrap .i64 ((5 : Int) + c) = 5 + c := wrap_i64 (by unfold i64; omega)
  have hx : Fresh (0, 5 + c) := ⟨.inr ⟨by simp, by simp only; omega⟩, by simp, by simp only; omega, by simp only; omega⟩
  have hE : Ears n 0 0 s noSto := ⟨n1, n2, .inl rfl, by omega, by omega, hM.ok, nil_ok⟩
  have hm : Cf.MsgOk (conf n) (2, 0, 0, (0, 5 + c), 0, k, v, 0, 1, false, 0) :=
    ⟨by simp, by simp, by simp, by show (0 : Int) < n; omega, by simp, by show (0 : Int) < n; omega, by simp, by show (0 : Int) < n; omega, by simp only; omega, by simp only; omega, by simp, by simp [conf], k0, k1, v0, by simp only; omega, by simp, by simp, by simp, by simp, .inl rfl, ⟨_, rfl, by simp [Cf.formBad]⟩⟩
  have hkp := write_keep hM.ok (k := k) (v := v) (ask := 1) hx.txn k0 k1 v0 (show v ≤ 1073741824 by omega) (by omega) (by omega) (by have := hM.doubts; omega)
  have hh : r27 ((n, ([(0, 0), (1, 0)], 3)), (0 : Int), (0 : Int), [s, ([], ([], ([], [])))], [], r, (2, 0, 0, (0, 5 + c), 0, k, v, 0, 1, false, 0)) = some (writeA s (writeR s (0, 5 + c) k v 1) r 0 0 (0, 5 + c) k v 1, 0) :=
    hear_write hE hm hx.txn fun e => (hkp e).short
  have hwr := hM.write (by omega) hx (k := k) (v := v) (a := 1)
  unfold r10
  simp only [e1, e2, e3, e4, e5, e6, hw5, hh, Option.bind_some, write_is hM.ok hx.txn k0 k1 v0 (show v ≤ 1073741824 by omega) (show (0 : Int) ≤ 1 by omega) (show (1 : Int) ≤ 1048576 by omega)]
  by_cases hbu : s.2.1.any (held k) = true
  · rw [if_pos hbu] at hwr
    rw [hwr, show writeA s (noSto, 11) r 0 0 (0, 5 + c) k v 1 = (s, ([doneM 0 0 (0, 5 + c) k 1 11], ([], []))) from rfl]
    simp [doneM, idxI, idxN, same_is hM.ok.short]
  · rw [if_neg hbu] at hwr
    have hok := hM.addW (by omega) hx (k := k) (v := v) (a := 1) k0 k1 v0 (by omega) (by omega) (by omega) hbu
    rw [hwr]
    by_cases hro : r < 500
    · rw [show writeA s (addL s ((0, 5 + c), k, true, v, 1), 0) r 0 0 (0, 5 + c) k v 1 = (s, ([doneM 0 0 (0, 5 + c) k 1 8], ([], []))) from by
        unfold writeA codeW
        simp [hro]]
      simp [doneM, idxI, idxN, same_is hM.ok.short, hro]
    · rw [show writeA s (addL s ((0, 5 + c), k, true, v, 1), 0) r 0 0 (0, 5 + c) k v 1 = (addL s ((0, 5 + c), k, true, v, 1), ([doneM 0 0 (0, 5 + c) k 1 0], ([prepared (0, 5 + c) k v 1], []))) from by
        unfold writeA codeW
        simp [hro]]
      have hcnt : (addL s ((0, 5 + c), k, true, v, 1)).2.1.countP (wrote (0, 5 + c)) = 1 := by
        show (s.2.1 ++ [_]).countP _ = _
        rw [List.countP_append, wrote_none (hM.other hx)]
        simp [wrote]
      simp [doneM, prepared, idxI, idxN, hro, writes_is hok hx.txn, hcnt]
      unfold r32
      simp
      unfold r23
      rw [show (List.length ([] : List Int) : Int) = 0 from rfl]
      simp only [loopR_go]
      rfl

theorem hearDecide {l : List Raw} (hl : l.length ≤ 9223372036854775807) (hr : ∀ r ∈ l, rawOk r) {b : Raw} (hb : rawOk b) (yes : Bool) : r11 (l, b, yes) = some true := by
  obtain ⟨n, e1, n1, n2⟩ := two_is (a := 0) (by unfold i64; omega)
  obtain ⟨s, e2, hM⟩ := store_is hl hr (m := 25) (by omega)
  obtain ⟨c, e3, c0, c1⟩ := picked_is b.2.1 4 hb.2.1 (by omega)
  rw [show ((25 : Nat) : Int) = (25 : Int) from rfl] at e2
  have ht := txn0 c0 (show c < 1000 by omega)
  have hend := made_end_is hM (by omega) ht yes
  have hu := made_end_ok hM (by omega) ht yes
  have hit := made_ends hM (by omega) (0, 1 + c) yes
  have hend2 : r19 (endR s (0, 1 + c) yes, (0, 1 + c), yes) = some (endR (endR s (0, 1 + c) yes) (0, 1 + c) yes, 0) :=
    end_is hu (m := 24 * (25 + 1 : Nat)) (by omega) (by omega) hit ht yes (by have := hM.over; have := overWith_len s.2.2.2 (0, 1 + c); show (overWith _ _).length < _; omega)
  have hno : ∀ y ∈ (endR s (0, 1 + c) yes).2.1, y.1 ≠ (0, 1 + c) := fun y hy e => by
    have := (List.mem_filter.1 hy).2
    unfold isT at this
    rw [decide_eq_true e] at this
    cases this
  have hm : Cf.MsgOk (conf n) (4, 0, 0, (0, 1 + c), 0, 0, 0, 0, 0, yes, 0) :=
    ⟨by simp, by simp, by simp, by show (0 : Int) < n; omega, by simp, by show (0 : Int) < n; omega, by simp, by show (0 : Int) < n; omega, by simp only; omega, by simp only; omega, by simp, by simp [conf], by simp, by simp, by simp, by simp, by simp, by simp, by simp, by simp, .inl rfl, ⟨_, rfl, by simp [Cf.formBad, Cf.wrap0]⟩⟩
  have h1 : r27 ((n, ([(0, 0), (1, 0)], 3)), (0 : Int), (0 : Int), [s, ([], ([], ([], [])))], [], (0 : Int), (4, 0, 0, (0, 1 + c), 0, 0, 0, 0, 0, yes, 0)) = some (decideA s (0, 1 + c) yes 0 0 [], 0) :=
    hear_decide (s1 := noSto) ⟨n1, n2, .inl rfl, by omega, by omega, hM.ok, nil_ok⟩ (by simp) hm ht hend hu.short
  have h2 : r27 ((n, ([(0, 0), (1, 0)], 3)), (0 : Int), (0 : Int), [endR s (0, 1 + c) yes, ([], ([], ([], [])))], [], (0 : Int), (4, 0, 0, (0, 1 + c), 0, 0, 0, 0, 0, yes, 0)) = some (decideA (endR s (0, 1 + c) yes) (0, 1 + c) yes 0 0 [], 0) :=
    hear_decide (s1 := noSto) ⟨n1, n2, .inl rfl, by omega, by omega, hu, nil_ok⟩ (by simp) hm ht hend2 (by rw [show mine 0 (endR s (0, 1 + c) yes) noSto = endR s (0, 1 + c) yes from rfl, end_again]; exact hu.short)
  unfold r11
  unfold decideA at h1 h2
  rw [end_again, wrote_none hno] at h2
  simp only [List.any_nil, Bool.false_eq_true, or_false, Nat.lt_irrefl, if_false, List.map_nil] at h1 h2
  simp only [e1, e2, e3, one_add c0 (show c < 1000 by omega), h1, h2, Option.bind_some, writes_is hM.ok ht, decide_true, Bool.not_true, Bool.not_false, cond_true, List.length_cons, List.length_nil, show ((0 + 1 : Nat) : Int) = 1 from rfl, show ((0 : Nat) : Int) = 0 from rfl, show idxI [ackM 0 0 (0, 1 + c)] (0 : Int) = some (ackM 0 0 (0, 1 + c)) from rfl, Bool.and_self, same_is hu.short]
  by_cases hz : 0 < s.2.1.countP (wrote (0, 1 + c))
  · rw [if_pos hz, show min ((s.2.1.countP (wrote (0, 1 + c)) : Nat) : Int) 1 = 1 by omega]
    simp [ackM]
  · rw [if_neg hz, show min ((s.2.1.countP (wrote (0, 1 + c)) : Nat) : Int) 1 = 0 by omega]
    simp [ackM]

theorem forceDamage {value : Int} (hv : i64 value) (y1 y2 : Bool) : r12 (value, y1, y2) = some true := by
  obtain ⟨n, e1, n1, n2⟩ := two_is (a := 0) (by unfold i64; omega)
  obtain ⟨v, e2, v0, v1⟩ := picked_is value 99 hv (by omega)
  have ht : txnB (0, 1) = true := rfl
  have hx : txnB ((0 : Int), (1 : Int)) = true := ht
  have hw0 : writeR noSto (0, 1) 2 v 1 = (addL noSto ((0, 1), 2, true, v, 1), 0) := rfl
  have hw : r30 (([], ([], ([], []))), (0, 1), 2, v, 1) = some (addL noSto ((0, 1), 2, true, v, 1), 0) := by
    rw [← hw0]
    exact write_is nil_ok ht (by omega) (by omega) v0 (by omega) (by omega) (by omega)
  have hu : StoreOk (addL noSto ((0, 1), 2, true, v, 1)) := by
    have := write_keep nil_ok (t := (0, 1)) (k := 2) (v := v) (ask := 1) ht (by omega) (by omega) v0 (by omega) (by omega) (by omega) (by simp [noSto]) (by rw [hw0])
    rw [hw0] at this
    exact this
  have hit : ItemsOk (addL noSto ((0, 1), 2, true, v, 1)).1 1 := made_nil.more (Nat.zero_le 1) |>.items |> fun h => ⟨h.sorted, fun x hx => by cases hx⟩
  have hends : endItems (addL noSto ((0, 1), 2, true, v, 1)) (0, 1) y1 = if y1 = true then [(2, v, 1)] else [] := by
    cases y1 <;> rfl
  have hie : ItemsOk (endR (addL noSto ((0, 1), 2, true, v, 1)) (0, 1) y1).1 2 := by
    have := stepI_ok hit (by omega) (t := (0, 1)) (yes := y1) (b := ((0, 1), 2, true, v, 1)) ⟨by simp, by simp, v0, by simp only; omega, by simp, by simp, by simp⟩
    exact this
  have hend : r19 (addL noSto ((0, 1), 2, true, v, 1), (0, 1), y1) = some (endR (addL noSto ((0, 1), 2, true, v, 1)) (0, 1) y1, 0) :=
    end_is hu (m := 1) (by omega) (by omega) hit ht y1 (by simp [addL, noSto])
  have hE : StoreOk (endR (addL noSto ((0, 1), 2, true, v, 1)) (0, 1) y1) := end_keep hu ht ⟨hie.sorted, fun x hx => by have := hie.item x hx; omega⟩ (by simp [addL, noSto])
  generalize hS : addL noSto ((0, 1), 2, true, v, 1) = S at *
  have hcnt : S.2.1.countP (wrote (0, 1)) = 1 := by rw [← hS]; rfl
  have hend2 : ∀ b, r19 (endR S (0, 1) y1, (0, 1), b) = some (endR S (0, 1) y1, 0) := fun b => by
    have := end_is hE (m := 2) (by omega) (by omega) hie ht b (by have : (endR S (0, 1) y1).2.2.2 = [(0, 1)] := by rw [← hS]; rfl
                                                                  rw [this]; simp)
    rw [end_again] at this
    exact this
  have hno : ∀ y ∈ (endR S (0, 1) y1).2.1, y.1 ≠ (0, 1) := fun y hy e => by
    have := (List.mem_filter.1 hy).2
    unfold isT at this
    rw [decide_eq_true e] at this
    cases this
  have hf : r33 ((n, ([(0, 0), (1, 0)], 3)), (0 : Int), (0 : Int), [S, ([], ([], ([], [])))], [], (0, 1), y1) = _ := force_is n1 n2 (p := 3) (by omega) (by omega) hu (notes := []) (by simp) ht hend hE.short
  rw [if_neg (by omega)] at hf
  have hm : Cf.MsgOk (conf n) (4, 0, 0, (0, 1), 0, 0, 0, 0, 0, y2, 0) :=
    ⟨by simp, by simp, by simp, by show (0 : Int) < n; omega, by simp, by show (0 : Int) < n; omega, by simp, by show (0 : Int) < n; omega, by simp, by simp, by simp, by simp [conf], by simp, by simp, by simp, by simp, by simp, by simp, by simp, by simp, .inl rfl, ⟨_, rfl, by simp [Cf.formBad, Cf.wrap0]⟩⟩
  have hh : ∀ notes : List Note, notes.length ≤ 1 → r27 ((n, ([(0, 0), (1, 0)], 3)), (0 : Int), (0 : Int), [endR S (0, 1) y1, ([], ([], ([], [])))], notes, (0 : Int), (4, 0, 0, (0, 1), 0, 0, 0, 0, 0, y2, 0)) = some (decideA (endR S (0, 1) y1) (0, 1) y2 0 0 notes, 0) := fun notes hn =>
    hear_decide (s1 := noSto) ⟨n1, n2, .inl rfl, by omega, by omega, hE, nil_ok⟩ hn hm ht (by rw [show mine 0 (endR S (0, 1) y1) noSto = endR S (0, 1) y1 from rfl, end_again]; exact hend2 y2) (by rw [show mine 0 (endR S (0, 1) y1) noSto = endR S (0, 1) y1 from rfl, end_again]; exact hE.short)
  unfold decideA at hh
  rw [end_again, wrote_none hno] at hh
  simp only [Nat.lt_irrefl, false_or] at hh
  unfold r12
  simp only [e1, e2, hw, Option.bind_some, hf, List.nil_append, hh [((0, 1), y1, false)] (by simp), decide_true, Bool.not_true, Bool.not_false, cond_true, cond_false, List.map_cons, List.map_nil, List.length_cons, List.length_nil, show ((0 + 1 : Nat) : Int) = 1 from rfl, hh [hurtN (0, 1) y2 ((0, 1), y1, false)] (by simp), same_is hE.short]
  cases y1 <;> cases y2 <;> simp [hurt, hurtN, idxI, idxN]

end Go.Hq
