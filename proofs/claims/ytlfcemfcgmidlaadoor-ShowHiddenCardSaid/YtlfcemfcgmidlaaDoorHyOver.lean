/- A transaction's end: what a store comes to. -/
import Derived.Test.YtlfcemfcgmidlaaDoorHyEnd
import Derived.Test.YtlfcemfcgmidlaaDoorHaDel
namespace Go.Hy
open Go.RowKit Go.Proofs Go.V
def isT (t : Txn) (x : Lock) : Bool := decide (x.1 = t)
def isD (t : Txn) (x : Doubt) : Bool := decide (x.1 = t)
def stepI (t : Txn) (yes : Bool) (l : List Item) (b : Lock) : List Item := if ((decide (b.1 = t) && b.2.2.1) && yes) = true then putItem l b.2.1 b.2.2.2.1 else l
def endItems (s : Sto) (t : Txn) (yes : Bool) : List Item := s.2.1.foldl (stepI t yes) s.1
def overWith (l : List Txn) (t : Txn) : List Txn := if (l.any fun y => decide (t = y)) = true then l else l ++ [t]
/-- What an end comes to. -/
def endR (s : Sto) (t : Txn) (yes : Bool) : Sto := (endItems s t yes, s.2.1.filter (fun x => !isT t x), s.2.2.1.filter (fun x => !isD t x), overWith s.2.2.2 t)
theorem sorted_len {l : List Item} (h : Sorted l) (hk : ∀ x ∈ l, 0 ≤ x.1 ∧ x.1 < 8) : l.length ≤ 8 := by
  have key : ∀ (i : Nat) x, l[i]? = some x → (i : Int) ≤ x.1 := by
    intro i
    induction i with
    | zero => intro x hx; exact (hk x (List.mem_of_getElem? hx)).1
    | succ i ih =>
      intro x hx
      have hlt := (List.getElem?_eq_some_iff.mp hx).1
      have hy : l[i]? = some l[i] := List.getElem?_eq_getElem (by omega)
      have := ih _ hy
      have := h i (i + 1) _ _ (by omega) hy hx
      omega
  by_cases g : l.length ≤ 8
  · exact g
  · have hy : l[8]? = some l[8] := List.getElem?_eq_getElem (by omega)
    have h1 := key 8 _ hy
    have h2 := hk _ (List.mem_of_getElem? hy)
    omega
/-- Items that may be, with versions up to a bound. -/
structure ItemsOk (l : List Item) (m : Int) : Prop where
  sorted : Sorted l
  item : ∀ x ∈ l, 0 ≤ x.1 ∧ x.1 < 8 ∧ 0 ≤ x.2.1 ∧ x.2.1 ≤ 1073741824 ∧ 1 ≤ x.2.2 ∧ x.2.2 ≤ m
theorem ItemsOk.len {l : List Item} {m : Int} (h : ItemsOk l m) : l.length ≤ 8 := sorted_len h.sorted fun x hx => ⟨(h.item x hx).1, (h.item x hx).2.1⟩
theorem stepI_ok {l : List Item} {m : Int} (h : ItemsOk l m) (hm : 0 ≤ m) {t : Txn} {yes : Bool} {b : Lock} (hb : lockOk b) : ItemsOk (stepI t yes l b) (m + 1) := by
  unfold stepI
  obtain ⟨b1, b2, b3, b4, -⟩ := hb
  split
  · refine ⟨putItem_sorted h.sorted _ _, fun x hx => ?_⟩
    rcases putItem_mem hx with e | ⟨e1, e2, e3⟩
    · have := h.item x e; omega
    · rcases e3 with e3 | ⟨y, y1, y2⟩
      · omega
      · have := h.item y y1; omega
  · exact ⟨h.sorted, fun x hx => by have := h.item x hx; omega⟩
theorem StoreOk.lockOk {s : Sto} (h : StoreOk s) {x : Lock} (hx : x ∈ s.2.1) : lockOk x := h.lock x hx
theorem endItems_is {a : Sto × (Txn × Bool)} (h : StoreOk a.1) {m : Int} (hm : 0 ≤ m) (hm1 : m ≤ 900000000) (hi : ItemsOk a.1.1 m) :
    loopR (r56_L0 a) ((), ((0 : Int), a.1)) = some ((), (endItems a.1 a.2.1 a.2.2, a.1.2)) ∧ ItemsOk (endItems a.1 a.2.1 a.2.2) (m + a.1.2.1.length) := by
  have hl := h.short.locks
  have hr := h.room
  have := fold_loop (body := r56_L0 a) (xs := a.1.2.1) (emb := fun j l => ((), (j, ((l, a.1.2) : Sto)))) (out := fun l => ((), ((l, a.1.2) : Sto))) (stepI a.2.1 a.2.2) (fun i l => i ≤ 24 ∧ ItemsOk l (m + i)) (by omega) (fun i x l hx hI => by
    obtain ⟨hi24, hI⟩ := hI
    have hlt := (List.getElem?_eq_some_iff.mp hx).1
    have hlen := hI.len
    refine ⟨?_, by omega, ?_⟩
    · rw [endItem_is (a := a) hx (s := (l, a.1.2)) hI.sorted (by simp only; omega) (fun y hy => by have := hI.item y hy; omega)]
      rfl
    · have := stepI_ok hI (by omega) (t := a.2.1) (yes := a.2.2) (h.lockOk (List.mem_of_getElem? hx))
      rw [show m + ((i + 1 : Nat) : Int) = m + (i : Int) + 1 by omega]
      exact this) (fun l hI => by
    unfold r56_L0
    simp only [at_len, cond_false]) (s0 := a.1.1) ⟨by omega, by simpa using hi⟩
  exact ⟨this.1, this.2.2⟩
theorem endLocks_find (q : Unit × Sto) (a : Sto × (Txn × Bool)) (hl : q.2.2.1.length ≤ 1000000) :
    (Option.bind (loopR (r56_L1 q a) (0 : Int)) fun (q : (Unit ⊕ Int)) => Sum.elim (fun (_ : Unit) => some (-1 : Int)) (fun (v : Int) => some v) q) = some (idxOr (q.2.2.1.findIdx? (isT a.2.1))) := by
  refine find_is (xs := q.2.2.1) (p := isT a.2.1) (by omega) (fun i x hx => ?_) ?_
  · obtain ⟨h1, h2, h3, h4⟩ := in_len hx
    unfold r56_L1 isT
    simp only [h1, h3, h4, cond_true, Option.bind_some, Int.toNat_natCast, pair_dec, bif_some]
  · unfold r56_L1
    simp only [at_len, cond_false]
theorem endLocks_del (a : Sto × (Txn × Bool)) (s : Sto) (hl : s.2.1.length ≤ 1000000) {i : Nat} (h : s.2.1.findIdx? (isT a.2.1) = some i) :
    ∃ (n : Nat) (ys : List Lock), loopR (r56_L2 a) ((), ((), ((i : Int), ((Go.IntKind.wrap .i64 ((i : Int) + 1)), s)))) = some ((), ((), ((n : Int), (s.1, (ys, s.2.2))))) ∧ n ≤ ys.length ∧ ys.take n = s.2.1.filter (fun x => !isT a.2.1 x) := by
  obtain ⟨hi, ht⟩ := find_split h
  obtain ⟨n, ys, e1, e2, e3, e4⟩ := del_loop (body := r56_L2 a) (emb := fun i j xs => ((), ((), (i, (j, ((s.1, (xs, s.2.2)) : Sto)))))) (out := fun i xs => ((), ((), (i, ((s.1, (xs, s.2.2)) : Sto))))) (p := isT a.2.1) (xs0 := s.2.1) hl (fun i j xs x hij hxl hx => by
    have hjl := (List.getElem?_eq_some_iff.mp hx).1
    obtain ⟨h1, h2, h3, h4⟩ := in_len hx
    have hxi : xs[i]? = some xs[i] := List.getElem?_eq_getElem (by omega)
    obtain ⟨g1, g2, g3, g4⟩ := in_len hxi
    have hw : Go.IntKind.wrap .i64 ((j : Int) + 1) = ((j + 1 : Nat) : Int) := wrap_i64 (by unfold i64; omega)
    have hw2 : Go.IntKind.wrap .i64 ((i : Int) + 1) = ((i + 1 : Nat) : Int) := wrap_i64 (by unfold i64; omega)
    unfold r56_L2 isT
    simp only [h1, h3, h4, g3, g4, cond_true, Option.bind_some, Int.toNat_natCast, pair_dec, hw, hw2]
    by_cases hp : x.1 = a.2.1
    · simp only [decide_eq_true hp, Bool.not_true, cond_false, Option.bind_some, if_true]
    · simp only [decide_eq_false hp, Bool.not_false, cond_true, Option.bind_some, Bool.false_eq_true, if_false]) (fun i xs hxl => by
    unfold r56_L2
    simp only [hxl, at_len, cond_false]) (s.2.1.length - (i + 1)) i (i + 1) s.2.1 rfl (by omega) (by omega) rfl ht rfl
  have hw : Go.IntKind.wrap .i64 ((i : Int) + 1) = ((i + 1 : Nat) : Int) := wrap_i64 (by unfold i64; omega)
  exact ⟨n, ys, by rw [hw]; exact e1, by omega, e4⟩
theorem endDoubts_find (d : Unit × (Unit × ((List Item × (Unit × (List Doubt × List Txn))) × List Lock))) (a : Sto × (Txn × Bool)) (hl : d.2.2.1.2.2.1.length ≤ 1000000) :
    (Option.bind (loopR (r56_L3 d a) (0 : Int)) fun (q : (Unit ⊕ Int)) => Sum.elim (fun (_ : Unit) => some (-1 : Int)) (fun (v : Int) => some v) q) = some (idxOr (d.2.2.1.2.2.1.findIdx? (isD a.2.1))) := by
  refine find_is (xs := d.2.2.1.2.2.1) (p := isD a.2.1) (by omega) (fun i x hx => ?_) ?_
  · obtain ⟨h1, h2, h3, h4⟩ := in_len hx
    unfold r56_L3 isD
    simp only [h1, h3, h4, cond_true, Option.bind_some, Int.toNat_natCast, pair_dec, bif_some]
  · unfold r56_L3
    simp only [at_len, cond_false]
theorem endDoubts_del (a : Sto × (Txn × Bool)) (s : Sto) (hl : s.2.2.1.length ≤ 1000000) {i : Nat} (h : s.2.2.1.findIdx? (isD a.2.1) = some i) :
    ∃ (n : Nat) (ys : List Doubt), loopR (r56_L4 a) ((), ((), ((i : Int), ((Go.IntKind.wrap .i64 ((i : Int) + 1)), s)))) = some ((), ((), ((n : Int), (s.1, (s.2.1, (ys, s.2.2.2)))))) ∧ n ≤ ys.length ∧ ys.take n = s.2.2.1.filter (fun x => !isD a.2.1 x) := by
  obtain ⟨hi, ht⟩ := find_split h
  obtain ⟨n, ys, e1, e2, e3, e4⟩ := del_loop (body := r56_L4 a) (emb := fun i j xs => ((), ((), (i, (j, ((s.1, (s.2.1, (xs, s.2.2.2))) : Sto)))))) (out := fun i xs => ((), ((), (i, ((s.1, (s.2.1, (xs, s.2.2.2))) : Sto))))) (p := isD a.2.1) (xs0 := s.2.2.1) hl (fun i j xs x hij hxl hx => by
    have hjl := (List.getElem?_eq_some_iff.mp hx).1
    obtain ⟨h1, h2, h3, h4⟩ := in_len hx
    have hxi : xs[i]? = some xs[i] := List.getElem?_eq_getElem (by omega)
    obtain ⟨g1, g2, g3, g4⟩ := in_len hxi
    have hw : Go.IntKind.wrap .i64 ((j : Int) + 1) = ((j + 1 : Nat) : Int) := wrap_i64 (by unfold i64; omega)
    have hw2 : Go.IntKind.wrap .i64 ((i : Int) + 1) = ((i + 1 : Nat) : Int) := wrap_i64 (by unfold i64; omega)
    unfold r56_L4 isD
    simp only [h1, h3, h4, g3, g4, cond_true, Option.bind_some, Int.toNat_natCast, pair_dec, hw, hw2]
    by_cases hp : x.1 = a.2.1
    · simp only [decide_eq_true hp, Bool.not_true, cond_false, Option.bind_some, if_true]
    · simp only [decide_eq_false hp, Bool.not_false, cond_true, Option.bind_some, Bool.false_eq_true, if_false]) (fun i xs hxl => by
    unfold r56_L4
    simp only [hxl, at_len, cond_false]) (s.2.2.1.length - (i + 1)) i (i + 1) s.2.2.1 rfl (by omega) (by omega) rfl ht rfl
  have hw : Go.IntKind.wrap .i64 ((i : Int) + 1) = ((i + 1 : Nat) : Int) := wrap_i64 (by unfold i64; omega)
  exact ⟨n, ys, by rw [hw]; exact e1, by omega, e4⟩
theorem end_is {s : Sto} (h : StoreOk s) {m : Int} (hm : 0 ≤ m) (hm1 : m ≤ 900000000) (hi : ItemsOk s.1 m) {t : Txn} (ht : txnB t = true) (yes : Bool) (ho : s.2.2.2.length < 1000000) : r56 (s, t, yes) = some (endR s t yes, 0) := by
  have hd := h.short.doubts
  have hl := h.short.locks
  unfold r56
  simp only [call_is h ht (k := 0) (by omega) (by omega), Option.bind_some, decide_true, Bool.not_true, cond_false, own_is h.short, (endItems_is (a := (s, t, yes)) h hm hm1 hi).1]
  rw [endLocks_find ((), (endItems s t yes, s.2)) (s, t, yes) hl]
  simp only [Option.bind_some]
  generalize hG : (bif decide (idxOr (s.2.1.findIdx? (isT t)) = (-1 : Int)) then _ else _ : Option (Unit × (Unit × ((List Item × (Unit × (List Doubt × List Txn))) × List Lock)))) = G
  have hG2 : G = some ((), ((), ((endItems s t yes, ((), s.2.2)), s.2.1.filter (fun x => !isT t x)))) := by
    rw [← hG]
    cases e : s.2.1.findIdx? (isT t) with
    | none => rw [find_all e]; rfl
    | some i =>
      obtain ⟨n, ys, e1, e2, e3⟩ := endLocks_del (s, t, yes) (endItems s t yes, s.2) hl e
      obtain ⟨c1, c2, c3⟩ := cut_is e2 (((0 : Int), (0 : Int)), ((0 : Int), (false, ((0 : Int), (0 : Int)))))
      simp only [idxOr, e1, Option.bind_some, c1, c2, c3, cond_true, e3]
      exact bif_f (decide_eq_false (by omega))
  rw [hG2]
  simp only [Option.bind_some]
  rw [endDoubts_find _ (s, t, yes) hd]
  simp only [Option.bind_some]
  generalize hH : (bif decide (idxOr (s.2.2.1.findIdx? (isD t)) = (-1 : Int)) then _ else _ : Option (Unit × (Unit × ((List Item × (List Lock × (Unit × List Txn))) × List Doubt)))) = H
  have hH2 : H = some ((), ((), ((endItems s t yes, (s.2.1.filter (fun x => !isT t x), ((), s.2.2.2))), s.2.2.1.filter (fun x => !isD t x)))) := by
    rw [← hH]
    cases e : s.2.2.1.findIdx? (isD t) with
    | none => rw [find_all e]; rfl
    | some i =>
      obtain ⟨n, ys, e1, e2, e3⟩ := endDoubts_del (s, t, yes) (endItems s t yes, s.2.1.filter (fun x => !isT t x), s.2.2) hd e
      obtain ⟨c1, c2, c3⟩ := cut_is e2 (((0 : Int), (0 : Int)), (0 : Int))
      simp only [idxOr, e1, Option.bind_some, c1, c2, c3, cond_true, e3]
      exact bif_f (decide_eq_false (by omega))
  rw [hH2]
  simp only [Option.bind_some, contains_is h.short.over]
  unfold endR overWith
  cases e : s.2.2.2.any fun y => decide (t = y) with
  | true => rfl
  | false =>
    simp only [Bool.not_false, cond_true, roomOk_true (show (2 * (s.2.2.2.length + 1) + 192) * 16 ≤ 281474976710656 by omega), Option.bind_some, app_eq]
    rfl
end Go.Hy
