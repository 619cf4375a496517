/- The laws of a store. -/
import Derived.Test.YtlfcemfcgmidlaaDoorHyRun
namespace Go.Hy
open Go.RowKit Go.Proofs Go.V
/-- A transaction of another site. -/
structure Fresh (x : Txn) : Prop where
  s0 : 2 ≤ x.1 ∨ (0 ≤ x.1 ∧ 3 ≤ x.2)
  s1 : x.1 < 4
  n0 : 1 ≤ x.2
  n1 : x.2 ≤ 1048576
theorem Fresh.txn {x : Txn} (h : Fresh x) : txnB x = true := by
  obtain ⟨h1, h2, h3, h4⟩ := h
  unfold txnB
  simp; omega
theorem Made.other {n : Nat} {s : Sto} (h : Made n s) {x : Txn} (hx : Fresh x) : ∀ y ∈ s.2.1, y.1 ≠ x := fun y hy e => by
  have := h.locks y hy
  have := hx.s0
  rw [e] at *
  omega
theorem Made.notOver {n : Nat} {s : Sto} (h : Made n s) {x : Txn} (hx : Fresh x) : x ∉ s.2.2.2 := fun hm => by
  have := h.overs x hm
  have := hx.s0
  omega
theorem over_any {l : List Txn} {x : Txn} (h : x ∉ l) : (l.any fun y => decide (x = y)) = false := by
  rw [List.any_eq_false]
  intro y hy
  rw [decide_eq_true_eq]
  intro e
  exact h (e ▸ hy)
theorem find_no {l : List Lock} {x : Txn} {k : Int} (h : ∀ y ∈ l, y.1 ≠ x) : l.findIdx? (lockB x k) = none := by
  rw [List.findIdx?_eq_none_iff]
  intro y hy
  unfold lockB
  rw [decide_eq_false (h y hy)]; rfl
/-- Somebody writes a key. -/
def written (k : Int) (y : Lock) : Bool := decide (y.2.1 = k) && y.2.2.1
def held (k : Int) (y : Lock) : Bool := decide (y.2.1 = k)
theorem any_congr' {β : Type} {l : List β} {p q : β → Bool} (h : ∀ y ∈ l, p y = q y) : l.any p = l.any q := by
  rw [Bool.eq_iff_iff, List.any_eq_true, List.any_eq_true]
  constructor
  · rintro ⟨y, h1, h2⟩
    exact ⟨y, h1, by rw [← h y h1]; exact h2⟩
  · rintro ⟨y, h1, h2⟩
    exact ⟨y, h1, by rw [h y h1]; exact h2⟩
theorem busy_written {l : List Lock} {x : Txn} {k : Int} (h : ∀ y ∈ l, y.1 ≠ x) : l.any (busyB x k false) = l.any (written k) :=
  any_congr' fun y hy => by unfold busyB written; rw [decide_eq_false (h y hy)]; simp
/-- A store with a lock more. -/
def addL (s : Sto) (b : Lock) : Sto := (s.1, s.2.1 ++ [b], doubtsWith s.2.2.1 b.1, s.2.2.2)
theorem Made.read {n : Nat} {s : Sto} (h : Made n s) {x : Txn} (hx : Fresh x) {k : Int} : readR s x k = if s.2.1.any (written k) = true then (noSto, 0, 0, 11) else (addL s (x, k, false, 0, 0), (itemOf s.1 k).2.1, (itemOf s.1 k).2.2, 0) := by
  have hf := h.few
  unfold readR
  rw [find_no (h.other hx), over_any (h.notOver hx), busy_written (h.other hx)]
  simp only [Bool.false_eq_true, if_false, show ¬ s.2.1.length = 24 by omega]
  rfl
theorem Made.add {n : Nat} {s : Sto} (h : Made n s) {x : Txn} (hx : Fresh x) {k v a : Int} (k0 : 0 ≤ k) (k1 : k < 8) (v0 : 0 ≤ v) (v1 : v ≤ 1073741824) (a0 : 0 ≤ a) (a1 : a ≤ 1048576) {w : Bool} (hz : w = false → v = 0 ∧ a = 0) (hn : n ≤ 1000)
    (hb : ∀ y ∈ s.2.1, y.2.1 = k → y.2.2.1 = false ∧ w = false) : StoreOk (addL s (x, k, w, v, a)) := by
  have hf := h.few
  exact addLock_ok h.ok (x := (x, k, w, v, a)) ⟨k0, k1, v0, v1, a0, a1, hz⟩ hx.txn (h.notOver hx) (fun y hy hk => ⟨h.other hx y hy, (hb y hy hk).1, (hb y hy hk).2⟩) (by omega) (by have := h.doubts; omega)
/-! ### the same store -/
/-! ### who writes -/
def wrote (t : Txn) (b : Lock) : Bool := decide (b.1 = t) && b.2.2.1
theorem countP_step {β : Type} {xs : List β} {p : β → Bool} {i : Nat} {x : β} (h : xs[i]? = some x) : (xs.take (i + 1)).countP p = (xs.take i).countP p + (if p x = true then 1 else 0) := by
  rw [List.take_add_one, h, List.countP_append]
  simp [List.countP_cons]
theorem writes_is {s : Sto} (h : StoreOk s) {t : Txn} (ht : txnB t = true) : r27 (s, t) = some ((s.2.1.countP (wrote t) : Int), 0) := by
  have hl := h.short.locks
  have := fold_loop (body := r27_L0 (s, t)) (xs := s.2.1) (emb := fun j (c : Int) => (c, j)) (out := fun c => c) (fun c b => if wrote t b = true then c + 1 else c) (fun i c => c = ((s.2.1.take i).countP (wrote t) : Int)) (by omega) (fun i x c hx hI => by
    obtain ⟨h1, h2, -⟩ := in_len hx
    have hcp := countP_step (p := wrote t) hx
    have hle : (s.2.1.take i).countP (wrote t) ≤ 1000000 := Nat.le_trans List.countP_le_length (by rw [List.length_take]; omega)
    refine ⟨?_, ?_⟩
    · have hw : Go.IntKind.wrap .i64 (c + 1) = c + 1 := wrap_i64 (by unfold i64; omega)
      unfold r27_L0 wrote
      simp only [h1, h2, cond_true, Option.bind_some, pair_dec, bif_some, and_bif, hw]
      cases (decide (x.1 = t) && x.2.2.1) <;> rfl
    · rw [hcp]
      split <;> omega) (fun c hI => by
    unfold r27_L0
    simp only [at_len, cond_false]) (s0 := 0) (by simp)
  obtain ⟨e1, e2⟩ := this
  rw [List.take_length] at e2
  unfold r27
  simp only [call_is h ht (k := 0) (by omega) (by omega), Option.bind_some, decide_true, Bool.not_true, cond_false]
  rw [e1, e2]
  rfl
/-! ### the laws -/
end Go.Hy
