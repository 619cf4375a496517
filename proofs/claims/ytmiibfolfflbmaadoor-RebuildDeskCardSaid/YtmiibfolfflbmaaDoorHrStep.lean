/- What records make of memory: one after the other. -/
import Derived.Test.YtmiibfolfflbmaaDoorHrBuilt
namespace Go.Hr
open Go.RowKit Go.Proofs Go.V

/-! ### lists by a key -/
theorem split_key {β : Type} (f : β → Int) : ∀ {l : List β} {n : Nat} {k : Int}, n ≤ l.length → (∀ (m : Nat) x, m < n → l[m]? = some x → f x < k) → (∀ (m : Nat) x, n ≤ m → l[m]? = some x → k ≤ f x) → l.take n = l.takeWhile (fun x => decide (f x < k)) ∧ l.drop n = l.dropWhile (fun x => decide (f x < k))
  | [], n, k, hn, h1, h2 => by simp
  | x :: l, 0, k, hn, h1, h2 => by
    have hx := h2 0 x (Nat.le_refl _) rfl
    have : decide (f x < k) = false := decide_eq_false (by omega)
    simp [this]
  | x :: l, n + 1, k, hn, h1, h2 => by
    have hx := h1 0 x (by omega) rfl
    have hlow : decide (f x < k) = true := decide_eq_true hx
    obtain ⟨e1, e2⟩ := split_key f (l := l) (n := n) (k := k) (by simpa using hn) (fun m y hm hy => h1 (m + 1) y (by omega) (by simpa using hy)) (fun m y hm hy => h2 (m + 1) y (by omega) (by simpa using hy))
    simp [hlow, e1, e2]

/-! ### a desk that is made of records -/
structure JobOk (c : Conf) (next : Int) (j : Job) : Prop where
  n0 : 1 ≤ j.1
  n1 : j.1 < next
  st : j.2.1 = 3
  tasks : j.2.2.1 = []
  asked : ∀ x ∈ j.2.2.2.1, 0 ≤ x ∧ x < c.1
  up : j.2.2.2.1.Pairwise (· < ·)
  some : j.2.2.2.1 ≠ []
  few : j.2.2.2.1.length ≤ 3
  ask : j.2.2.2.2.1 = 0
  idle : j.2.2.2.2.2 = 0

structure DeskOk (c : Conf) (d : Desk) : Prop where
  n0 : 1 ≤ d.1
  n1 : d.1 ≤ 1048577
  few : d.2.length ≤ 6
  up : d.2.Pairwise fun x y => x.1 < y.1
  job : ∀ j ∈ d.2, JobOk c d.1 j

structure MemOk (c : Conf) (n : Nat) (m : Mem) : Prop where
  store : Built n m.2.1
  desk : DeskOk c m.2.2.1
  notes : m.2.2.2.length ≤ n

def damageN (r : Rec) (x : Note) : Note := if x.1 = r.2.1 ∧ x.2.1 ≠ r.2.2.2.2.2.1 then (x.1, x.2.1, true) else x

def newJob (r : Rec) : Job := (r.2.1.2, 3, [], r.2.2.2.2.2.2, 0, 0)
def isJ (me : Int) (r : Rec) (j : Job) : Bool := decide (r.2.1 = (me, j.1))

/-- What one record does. -/
def stepM (m : Mem) (r : Rec) : Mem :=
  if r.1 = 1 then (m.1, if (writeR m.2.1 r.2.1 r.2.2.1 r.2.2.2.1 r.2.2.2.2.1).2 = 0 then (writeR m.2.1 r.2.1 r.2.2.1 r.2.2.2.1 r.2.2.2.2.1).1 else m.2.1, m.2.2)
  else if r.1 = 2 then (m.1, endR m.2.1 r.2.1 r.2.2.2.2.2.1, m.2.2.1, m.2.2.2.map (damageN r))
  else if r.1 = 6 then (m.1, endR m.2.1 r.2.1 r.2.2.2.2.2.1, m.2.2.1, m.2.2.2 ++ [(r.2.1, r.2.2.2.2.2.1, false)])
  else if r.1 = 3 then
    if m.2.2.1.2.any (fun j => decide (j.1 = r.2.1.2)) = true ∨ r.2.1.1 ≠ m.1 ∨ m.2.2.1.1 ≤ r.2.1.2 ∨ r.2.2.2.2.2.2 = [] ∨ m.2.2.1.2.length = 6 then m
    else (m.1, m.2.1, (m.2.2.1.1, m.2.2.1.2.takeWhile (fun j => decide (j.1 < r.2.1.2)) ++ newJob r :: m.2.2.1.2.dropWhile (fun j => decide (j.1 < r.2.1.2))), m.2.2.2)
  else if r.1 = 4 then (m.1, m.2.1, (m.2.2.1.1, m.2.2.1.2.filter (fun j => !isJ m.1 r j)), m.2.2.2)
  else if r.1 = 5 ∧ r.2.1.1 = m.1 then (m.1, m.2.1, (max m.2.2.1.1 (r.2.1.2 + 1), m.2.2.1.2), m.2.2.2)
  else m

theorem rec_txn {c : Conf} (hc : c.1 ≤ 4) {r : Rec} (h : Cf.RecOk c r) : txnB r.2.1 = true := by
  have h1 := h.x0
  have h2 := h.x1
  have h3 := h.n0
  have h4 := h.n1
  unfold txnB
  rw [decide_eq_true h1, decide_eq_true (show r.2.1.1 < 4 by omega), decide_eq_true h3, decide_eq_true h4]; rfl

theorem notes_loop (q : Unit × (Unit × Mem)) (r : Rec) (hl : q.2.2.2.2.2.length ≤ 1000000) : loopR (r16_L1 q r) ((), ((), ((), ((0 : Int), q.2.2)))) = some ((), (q.2.2.1, (q.2.2.2.1, (q.2.2.2.2.1, q.2.2.2.2.2.map (damageN r))))) := by
  refine map_loop (emb := fun i xs => ((), ((), ((), (i, ((q.2.2.1, (q.2.2.2.1, (q.2.2.2.2.1, xs))) : Mem)))))) (out := fun xs => ((), ((q.2.2.1, (q.2.2.2.1, (q.2.2.2.2.1, xs))) : Mem))) (xs0 := q.2.2.2.2.2) (damageN r) (by omega) (fun i xs x hxl hx => ?_) (fun xs hxl => ?_)
  · obtain ⟨h1, h2, h3, h4⟩ := in_len hx
    have hil : i < xs.length := (List.getElem?_eq_some_iff.mp hx).1
    unfold r16_L1
    simp only [← hxl, h1, h3, h4, cond_true, Option.bind_some, Int.toNat_natCast, pair_dec, bif_some, and_bif]
    unfold damageN
    by_cases hd : x.1 = r.2.1 ∧ x.2.1 ≠ r.2.2.2.2.2.1
    · rw [if_pos hd, decide_eq_true hd.1, decide_eq_false hd.2]
      rfl
    · rw [if_neg hd]
      have : (decide (x.1 = r.2.1) && !decide (x.2.1 = r.2.2.2.2.2.1)) = false := by
        rw [Bool.and_eq_false_iff, decide_eq_false_iff_not, Bool.not_eq_false', decide_eq_true_eq]
        by_cases e : x.1 = r.2.1
        · exact .inr (Decidable.byContradiction fun h => hd ⟨e, h⟩)
        · exact .inl e
      have hset : xs.set i x = xs := by
        have : x = xs[i] := by rw [List.getElem?_eq_getElem hil] at hx; exact (Option.some.inj hx).symm
        rw [this, List.set_getElem_self]
      rw [this, hset]
      rfl
  · unfold r16_L1
    simp only [← hxl, at_len, cond_false]

theorem job_find (d : Unit × (Int × Mem)) (r : Rec) (hl : d.2.2.2.2.1.2.length ≤ 1000000) :
    (Option.bind (loopR (r16_L3 d r) (0 : Int)) fun (q : (Unit ⊕ Int)) => Sum.elim (fun (_ : Unit) => some (-1 : Int)) (fun (v : Int) => some v) q) = some (idxOr (d.2.2.2.2.1.2.findIdx? (isJ d.2.2.1 r))) := by
  refine find_is (xs := d.2.2.2.2.1.2) (p := isJ d.2.2.1 r) (by omega) (fun i x hx => ?_) ?_
  · obtain ⟨h1, h2, h3, h4⟩ := in_len hx
    have e : (decide (r.2.1.1 = d.2.2.1) && (decide (r.2.1.2 = x.1) && true)) = isJ d.2.2.1 r x := pair_dec r.2.1 (d.2.2.1, x.1)
    unfold r16_L3
    simp only [h1, h3, h4, cond_true, Option.bind_some, Int.toNat_natCast, e, bif_some]
  · unfold r16_L3
    simp only [at_len, cond_false]

theorem job_del (r : Rec) (m : Mem) (hl : m.2.2.1.2.length ≤ 1000000) {i : Nat} (h : m.2.2.1.2.findIdx? (isJ m.1 r) = some i) :
    ∃ (n : Nat) (ys : List Job), loopR (r16_L4 r) ((), ((), ((), ((), ((), ((), ((), ((), ((), ((i : Int), ((Go.IntKind.wrap .i64 ((i : Int) + 1)), m))))))))))) = some ((), ((), ((), ((), ((), ((), ((), ((), ((n : Int), (m.1, (m.2.1, ((m.2.2.1.1, ys), m.2.2.2)))))))))))) ∧ n ≤ ys.length ∧ ys.take n = m.2.2.1.2.filter (fun x => !isJ m.1 r x) := by
  obtain ⟨hi, ht⟩ := find_split h
  obtain ⟨n, ys, e1, e2, e3, e4⟩ := del_loop (body := r16_L4 r) (emb := fun i j xs => ((), ((), ((), ((), ((), ((), ((), ((), ((), (i, (j, ((m.1, (m.2.1, ((m.2.2.1.1, xs), m.2.2.2))) : Mem))))))))))))) (out := fun i xs => ((), ((), ((), ((), ((), ((), ((), ((), (i, ((m.1, (m.2.1, ((m.2.2.1.1, xs), m.2.2.2))) : Mem))))))))))) (p := isJ m.1 r) (xs0 := m.2.2.1.2) hl (fun i j xs x hij hxl hx => by
    have hjl := (List.getElem?_eq_some_iff.mp hx).1
    obtain ⟨h1, h2, h3, h4⟩ := in_len hx
    have hxi : xs[i]? = some xs[i] := List.getElem?_eq_getElem (by omega)
    obtain ⟨g1, g2, g3, g4⟩ := in_len hxi
    have hw : Go.IntKind.wrap .i64 ((j : Int) + 1) = ((j + 1 : Nat) : Int) := wrap_i64 (by unfold i64; omega)
    have hw2 : Go.IntKind.wrap .i64 ((i : Int) + 1) = ((i + 1 : Nat) : Int) := wrap_i64 (by unfold i64; omega)
    have e : (decide (r.2.1.1 = m.1) && (decide (r.2.1.2 = x.1) && true)) = isJ m.1 r x := pair_dec r.2.1 (m.1, x.1)
    unfold r16_L4
    simp only [h1, h3, h4, g3, g4, cond_true, Option.bind_some, Int.toNat_natCast, e, hw, hw2]
    cases hp : isJ m.1 r x with
    | true => simp only [Bool.not_true, cond_false, Option.bind_some, if_true]
    | false => simp only [Bool.not_false, cond_true, Option.bind_some, Bool.false_eq_true, if_false]) (fun i xs hxl => by
    unfold r16_L4
    simp only [hxl, at_len, cond_false]) (m.2.2.1.2.length - (i + 1)) i (i + 1) m.2.2.1.2 rfl (by omega) (by omega) rfl ht rfl
  have hw : Go.IntKind.wrap .i64 ((i : Int) + 1) = ((i + 1 : Nat) : Int) := wrap_i64 (by unfold i64; omega)
  exact ⟨n, ys, by rw [hw]; exact e1, by omega, e4⟩

end Go.Hr
