/- A store: what its calls compute. -/
import Derived.Test.YtlfcemfcgmidlaaDoorHyBase
namespace Go.Hy
open Go.RowKit Go.Proofs Go.V
def itemOf (l : List Item) (k : Int) : Item := (l.find? fun x => decide (x.1 = k)).getD (k, 0, 0)
theorem item_is {s : Sto} (h : StoreOk s) (k : Int) : r85 (s, k) = some (itemOf s.1 k) := by
  obtain ⟨n, h1, h2, h3, h4⟩ := at_is h.sorted h.short.items k
  unfold r85
  rw [h4]
  simp only [Option.bind_some]
  cases hn : s.1[n]? with
  | none =>
    have hnone : (s.1.find? fun x => decide (x.1 = k)) = none := by
      rw [List.find?_eq_none]
      intro x hx
      obtain ⟨m, hm⟩ := List.getElem?_of_mem hx
      have hml := (List.getElem?_eq_some_iff.mp hm).1
      have hnl : s.1.length ≤ n := by
        rw [List.getElem?_eq_none_iff] at hn; exact hn
      have := h2 m x (by omega) hm
      rw [decide_eq_true_eq]; omega
    simp only [cond_false, itemOf, hnone, Option.getD_none]
  | some y =>
    simp only
    by_cases hk : y.1 = k
    · have hf : (s.1.find? fun x => decide (x.1 = k)) = some y := by
        rw [List.find?_eq_some_iff_getElem]
        have hnl := (List.getElem?_eq_some_iff.mp hn).1
        refine ⟨by rw [decide_eq_true_eq]; exact hk, n, hnl, (List.getElem?_eq_some_iff.mp hn).2, fun m hm => ?_⟩
        have := h2 m s.1[m] hm (List.getElem?_eq_getElem _)
        simp; omega
      obtain ⟨-, e2, -⟩ := in_len hn
      simp only [decide_eq_true hk, cond_true, e2, Option.bind_some, itemOf, hf, Option.getD_some]
    · have hnone : (s.1.find? fun x => decide (x.1 = k)) = none := by
        rw [List.find?_eq_none]
        intro x hx
        obtain ⟨m, hm⟩ := List.getElem?_of_mem hx
        rw [decide_eq_true_eq]
        by_cases c1 : m < n
        · have := h2 m x c1 hm; omega
        · by_cases c2 : m = n
          · rw [c2, hn] at hm; cases hm; exact hk
          · have g1 := h.sorted n m y x (by omega) hn hm
            have g2 := h3 n y (Nat.le_refl _) hn
            omega
      simp only [decide_eq_false hk, cond_false, itemOf, hnone, Option.getD_none]
theorem call_is {s : Sto} (h : StoreOk s) {t : Txn} {k : Int} (ht : txnB t = true) (k0 : 0 ≤ k) (k1 : k < 8) : r57 (s, t, k) = some 0 := by
  unfold r57
  simp only [storeCheck_is h, Option.bind_some, decide_true, Bool.not_true, Bool.not_false, cond_true, cond_false, txn_is, ht, decide_eq_false (show ¬ k < 0 by omega), decide_eq_false (show ¬ (8 : Int) ≤ k by omega)]
def doubtsWith (l : List Doubt) (t : Txn) : List Doubt := if l.any (fun d => decide (d.1 = t)) = true then l else l ++ [(t, 0)]
theorem hand_is {s : Sto} (h : Short s) (t : Txn) : r90 (s, t) = some (s.1, s.2.1, doubtsWith s.2.2.1 t, s.2.2.2) := by
  have hd := h.doubts
  unfold r90 doubtsWith
  simp only [doubted_is h, Option.bind_some]
  cases e : s.2.2.1.any fun d => decide (d.1 = t) with
  | true => rfl
  | false =>
    simp only [Bool.not_false, cond_true, roomOk_true (show (2 * (s.2.2.1.length + 1) + 192) * 24 ≤ 281474976710656 by omega), Option.bind_some, app_eq]
    rfl
def noSto : Sto := ([], ([], ([], [])))
/-- What a reading comes to. -/
def readR (s : Sto) (t : Txn) (k : Int) : Sto × (Int × (Int × Int)) :=
  match s.2.1.findIdx? (lockB t k) with
  | some i => match s.2.1[i]? with
    | some x => (s, (if x.2.2.1 = true then x.2.2.2.1 else (itemOf s.1 k).2.1), (itemOf s.1 k).2.2, 0)
    | none => (noSto, 0, 0, 0)
  | none => if (s.2.2.2.any fun y => decide (t = y)) = true then (noSto, 0, 0, 13) else if s.2.1.any (busyB t k false) = true then (noSto, 0, 0, 11) else if s.2.1.length = 24 then (noSto, 0, 0, 8)
    else ((s.1, s.2.1 ++ [(t, k, false, 0, 0)], doubtsWith s.2.2.1 t, s.2.2.2), (itemOf s.1 k).2.1, (itemOf s.1 k).2.2, 0)
theorem read_is {s : Sto} (h : StoreOk s) {t : Txn} {k : Int} (ht : txnB t = true) (k0 : 0 ≤ k) (k1 : k < 8) : r54 (s, t, k) = some (readR s t k) := by
  have hl := h.short.locks
  have hr := h.room
  unfold r54 readR
  simp only [call_is h ht k0 k1, Option.bind_some, decide_true, Bool.not_true, cond_false, item_is h, lock_is h.short]
  cases e : s.2.1.findIdx? (lockB t k) with
  | some i =>
    have hi := (List.findIdx?_eq_some_iff_getElem.1 e).1
    have hx : s.2.1[i]? = some s.2.1[i] := List.getElem?_eq_getElem hi
    obtain ⟨-, e2, -⟩ := in_len hx
    simp only [idxOr, decide_eq_true (show (0 : Int) ≤ (i : Int) by omega), cond_true, e2, Option.bind_some, hx, own_is h.short]
    cases s.2.1[i].2.2.1 <;> rfl
  | none =>
    simp only [idxOr, show decide ((0 : Int) ≤ -1) = false from rfl, cond_false, contains_is h.short.over, Option.bind_some, busy_is h.short]
    cases e1 : s.2.2.2.any fun y => decide (t = y) with
    | true => rfl
    | false =>
      cases e2 : s.2.1.any (busyB t k false) with
      | true => rfl
      | false =>
        by_cases e3 : s.2.1.length = 24
        · simp only [cond_false, e3]; rfl
        · have hs : Short (s.1, s.2.1 ++ [(t, k, false, 0, 0)], s.2.2) := ⟨h.short.items, by simp; omega, h.short.doubts, h.short.over⟩
          simp only [cond_false, decide_eq_false (show ¬ ((s.2.1.length : Nat) : Int) = 24 by omega), own_is h.short, Option.bind_some, roomOk_true (show (2 * (s.2.1.length + 1) + 192) * 48 ≤ 281474976710656 by omega), cond_true, app_eq, hand_is hs, e3, if_false]
          rfl
/-- What a writing comes to. -/
def writeR (s : Sto) (t : Txn) (k v ask : Int) : Sto × Int :=
  if (s.2.2.2.any fun y => decide (t = y)) = true then (noSto, 13) else
  match s.2.1.findIdx? (lockB t k) with
  | some i => match s.2.1[i]? with
    | some x => if ask < x.2.2.2.2 then (noSto, 13) else if s.2.1.any (busyB t k true) = true then (noSto, 11) else if (itemOf s.1 k).2.2 = 1048576 then (noSto, 8)
      else ((s.1, s.2.1.set i (t, k, true, v, ask), doubtsWith s.2.2.1 t, s.2.2.2), 0)
    | none => (noSto, 0)
  | none => if s.2.1.any (busyB t k true) = true then (noSto, 11) else if s.2.1.length = 24 then (noSto, 8) else if (itemOf s.1 k).2.2 = 1048576 then (noSto, 8)
    else ((s.1, s.2.1 ++ [(t, k, true, v, ask)], doubtsWith s.2.2.1 t, s.2.2.2), 0)
theorem write_is {s : Sto} (h : StoreOk s) {t : Txn} {k v ask : Int} (ht : txnB t = true) (k0 : 0 ≤ k) (k1 : k < 8) (v0 : 0 ≤ v) (v1 : v ≤ 1073741824) (a0 : 0 ≤ ask) (a1 : ask ≤ 1048576) : r55 (s, t, k, v, ask) = some (writeR s t k v ask) := by
  have hl := h.short.locks
  have hr := h.room
  unfold r55 writeR
  simp only [call_is h ht k0 k1, Option.bind_some, decide_true, Bool.not_true, Bool.not_false, cond_true, cond_false, lock_is h.short, decide_eq_false (show ¬ v < 0 by omega), decide_eq_false (show ¬ (1073741824 : Int) < v by omega), decide_eq_false (show ¬ ask < 0 by omega), decide_eq_false (show ¬ (1048576 : Int) < ask by omega), contains_is h.short.over, busy_is h.short, item_is h, own_is h.short]
  cases e1 : s.2.2.2.any fun y => decide (t = y) with
  | true => rfl
  | false =>
    cases e : s.2.1.findIdx? (lockB t k) with
    | some i =>
      have hi := (List.findIdx?_eq_some_iff_getElem.1 e).1
      have hx : s.2.1[i]? = some s.2.1[i] := List.getElem?_eq_getElem hi
      obtain ⟨-, e2, e3, e4⟩ := in_len hx
      have hs : Short (s.1, s.2.1.set i (t, k, true, v, ask), s.2.2) := ⟨h.short.items, by rw [List.length_set]; exact h.short.locks, h.short.doubts, h.short.over⟩
      have hng : decide ((i : Int) < 0) = false := decide_eq_false (by omega)
      simp only [idxOr, decide_eq_true (show (0 : Int) ≤ (i : Int) by omega), cond_true, cond_false, e2, Option.bind_some, hx, hng, e3, Int.toNat_natCast, e4, hand_is hs]
      by_cases q : ask < s.2.1[i].2.2.2.2
      · simp only [decide_eq_true q, cond_true, q, if_true]; rfl
      · simp only [decide_eq_false q, cond_false, q, if_false]
        cases e5 : s.2.1.any (busyB t k true) with
        | true => rfl
        | false =>
          by_cases e6 : (itemOf s.1 k).2.2 = 1048576
          · simp only [cond_false, decide_eq_true e6, cond_true, e6, if_true]; rfl
          · have hng2 : ¬ (i : Int) < 0 := by omega
            simp [e6, hng2, hand_is hs]
    | none =>
      simp only [idxOr, show decide ((0 : Int) ≤ -1) = false from rfl, show decide ((-1 : Int) < 0) = true from rfl, cond_true, cond_false, Option.bind_some]
      cases e5 : s.2.1.any (busyB t k true) with
      | true => rfl
      | false =>
        by_cases e3 : s.2.1.length = 24
        · simp only [cond_false, e3]; rfl
        · have hs : Short (s.1, s.2.1 ++ [(t, k, true, v, ask)], s.2.2) := ⟨h.short.items, by simp; omega, h.short.doubts, h.short.over⟩
          simp only [cond_false, decide_eq_false (show ¬ ((s.2.1.length : Nat) : Int) = 24 by omega), Option.bind_some, roomOk_true (show (2 * (s.2.1.length + 1) + 192) * 48 ≤ 281474976710656 by omega), cond_true, app_eq, hand_is hs, e3, if_false]
          by_cases e6 : (itemOf s.1 k).2.2 = 1048576
          · simp only [decide_eq_true e6, cond_true, e6, if_true]; rfl
          · simp [e6, hand_is hs]
end Go.Hy
