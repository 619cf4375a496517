/- A transaction's end: the items. -/
import Derived.Test.YtlfcemfcgmidlaaDoorHyKeep
namespace Go.Hy
open Go.RowKit Go.Proofs Go.V
def low (k : Int) (x : Item) : Bool := decide (x.1 < k)
theorem split_at : ∀ {l : List Item} {n : Nat} {k : Int}, n ≤ l.length → (∀ (m : Nat) x, m < n → l[m]? = some x → x.1 < k) → (∀ (m : Nat) x, n ≤ m → l[m]? = some x → k ≤ x.1) → l.take n = l.takeWhile (low k) ∧ l.drop n = l.dropWhile (low k)
  | [], n, k, hn, h1, h2 => by simp
  | x :: l, 0, k, hn, h1, h2 => by
    have hx := h2 0 x (Nat.le_refl _) rfl
    have : low k x = false := by unfold low; exact decide_eq_false (by omega)
    simp [this]
  | x :: l, n + 1, k, hn, h1, h2 => by
    have hx := h1 0 x (by omega) rfl
    have hlow : low k x = true := by unfold low; exact decide_eq_true hx
    obtain ⟨e1, e2⟩ := split_at (l := l) (n := n) (k := k) (by simpa using hn) (fun m y hm hy => h1 (m + 1) y (by omega) (by simpa using hy)) (fun m y hm hy => h2 (m + 1) y (by omega) (by simpa using hy))
    simp [hlow, e1, e2]
/-- A value is put in a key's place. -/
def putItem (l : List Item) (k v : Int) : List Item := l.takeWhile (low k) ++ match l.dropWhile (low k) with
  | x :: r => if x.1 = k then (k, v, x.2.2 + 1) :: r else (k, v, 1) :: x :: r
  | [] => [(k, v, 1)]
theorem insert_is {l : List Item} {n : Nat} {x : Item} (hn : n ≤ l.length) (hl : l.length ≤ 1000) : r92 (l, ((n : Int), [x])) = some (l.take n ++ (x :: l.drop n)) := by
  unfold r92 insR
  simp only [decide_eq_true (show (0 : Int) ≤ (n : Int) by omega), decide_eq_true (show (n : Int) ≤ (l.length : Int) by omega), roomOk_true (show (2 * (l.length + [x].length) + 192) * 24 ≤ 281474976710656 by simp; omega), Bool.and_self, cond_true, Int.toNat_natCast, app_eq]
  rfl
structure Slot (L : List Item) (n : Nat) (y : Item) : Prop where
  inn : inB (n : Int) L.length = true
  get : idxN L n = some y
  inn2 : ∀ z, inB (n : Int) (L.set n z).length = true
  get2 : ∀ z, idxN (L.set n z) n = some z
theorem Slot.of {L : List Item} {n : Nat} {y : Item} (h : L[n]? = some y) : Slot L n y := by
  have hlt := (List.getElem?_eq_some_iff.mp h).1
  exact ⟨inB_true (by omega) (by omega), h, fun z => by rw [List.length_set]; exact inB_true (by omega) (by omega), fun z => by
    show (L.set n z)[n]? = _
    rw [List.getElem?_set, if_pos rfl, if_pos hlt]⟩
theorem mid_get {A r : List Item} {y : Item} {n : Nat} (h : A.length = n) : (A ++ y :: r)[n]? = some y := by
  rw [List.getElem?_append_right (by omega), h, Nat.sub_self]; rfl
theorem mid_set {A r : List Item} {y z : Item} {n : Nat} (h : A.length = n) : (A ++ y :: r).set n z = A ++ z :: r := by
  rw [List.set_append_right _ _ (by omega), h, Nat.sub_self]; rfl
theorem endItem_is {a : Sto × (Txn × Bool)} {b : Lock} {j : Nat} (hb : a.1.2.1[j]? = some b) {s : Sto} (hs : Sorted s.1) (hl : s.1.length ≤ 1000) (hv : ∀ x ∈ s.1, 0 ≤ x.2.2 ∧ x.2.2 ≤ 1000000000) :
    r56_L0 a ((), ((j : Int), s)) = some (.inl ((), (Go.IntKind.wrap .i64 ((j : Int) + 1), (if ((decide (b.1 = a.2.1) && b.2.2.1) && a.2.2) = true then putItem s.1 b.2.1 b.2.2.2.1 else s.1), s.2))) := by
  obtain ⟨h1, h2, -⟩ := in_len hb
  unfold r56_L0
  simp only [h1, h2, cond_true, Option.bind_some, pair_dec, bif_some, or_bif]
  by_cases hc : ((decide (b.1 = a.2.1) && b.2.2.1) && a.2.2) = true
  · rw [if_pos hc]
    simp only [Bool.and_eq_true] at hc
    obtain ⟨⟨c1, c2⟩, c3⟩ := hc
    simp only [c1, c2, c3, Bool.not_true, Bool.or_self, cond_false]
    obtain ⟨n, n1, n2, n3, n4⟩ := at_is hs (by omega) b.2.1
    obtain ⟨t1, t2⟩ := split_at n1 n2 n3
    rw [n4]
    simp only [Option.bind_some]
    unfold putItem
    rw [← t1, ← t2]
    cases hx : s.1[n]? with
    | none =>
      have hnl : s.1.length = n := by rw [List.getElem?_eq_none_iff] at hx; omega
      subst hnl
      have sl : Slot (s.1 ++ [(b.2.1, 0, 0)]) s.1.length (b.2.1, 0, 0) := .of (mid_get rfl)
      simp only [Bool.not_false, cond_true, insert_is n1 hl, Option.bind_some, List.drop_length, List.take_length, sl.inn, sl.get, sl.inn2, sl.get2, Int.toNat_natCast, List.set_set]
      rw [mid_set rfl]
      rfl
    | some x =>
      have hnl := (List.getElem?_eq_some_iff.mp hx).1
      have hdr : s.1.drop n = x :: s.1.drop (n + 1) := by rw [List.drop_eq_getElem_cons hnl, (List.getElem?_eq_some_iff.mp hx).2]
      have htl : (s.1.take n).length = n := by rw [List.length_take]; omega
      have hxv := hv x (List.mem_of_getElem? hx)
      rw [hdr]
      by_cases hk : x.1 = b.2.1
      · have sl : Slot s.1 n x := .of hx
        have hw : Go.IntKind.wrap .i64 (x.2.2 + 1) = x.2.2 + 1 := wrap_i64 (by unfold i64; omega)
        have hset : s.1.set n (x.1, b.2.2.2.1, x.2.2 + 1) = s.1.take n ++ (b.2.1, b.2.2.2.1, x.2.2 + 1) :: s.1.drop (n + 1) := by
          conv => lhs; rw [← List.take_append_drop n s.1, hdr]
          rw [mid_set htl, hk]
        simp only [decide_eq_true hk, Bool.not_true, cond_true, cond_false, Option.bind_some, sl.inn, sl.get, sl.inn2, sl.get2, Int.toNat_natCast, List.set_set, hw]
        rw [hset, if_pos hk]
      · have sl : Slot (s.1.take n ++ (b.2.1, 0, 0) :: s.1.drop n) n (b.2.1, 0, 0) := .of (mid_get htl)
        simp only [decide_eq_false hk, Bool.not_false, cond_true, insert_is n1 hl, Option.bind_some, sl.inn, sl.get, sl.inn2, sl.get2, Int.toNat_natCast, List.set_set]
        rw [mid_set htl, if_neg hk, ← hdr]
        rfl
  · rw [if_neg hc]
    have : ((!decide (b.1 = a.2.1) || !b.2.2.1) || !a.2.2) = true := by
      rw [Bool.not_eq_true] at hc
      cases h1 : decide (b.1 = a.2.1) <;> cases h2 : b.2.2.1 <;> cases h3 : a.2.2 <;> simp_all
    simp only [this, cond_true, Option.bind_some]
theorem sorted_iff {l : List Item} : Sorted l ↔ l.Pairwise fun x y => x.1 < y.1 := by
  rw [List.pairwise_iff_getElem]
  constructor
  · intro h i j hi hj hij
    exact h i j _ _ hij (List.getElem?_eq_getElem hi) (List.getElem?_eq_getElem hj)
  · intro h i j x y hij hx hy
    obtain ⟨hi, rfl⟩ := List.getElem?_eq_some_iff.mp hx
    obtain ⟨hj, rfl⟩ := List.getElem?_eq_some_iff.mp hy
    exact h i j hi hj hij
theorem putItem_mem {l : List Item} {k v : Int} {x : Item} (h : x ∈ putItem l k v) : x ∈ l ∨ (x.1 = k ∧ x.2.1 = v ∧ (x.2.2 = 1 ∨ ∃ y ∈ l, x.2.2 = y.2.2 + 1)) := by
  unfold putItem at h
  have hsub : ∀ y ∈ l.dropWhile (low k), y ∈ l := fun y hy => (List.dropWhile_sublist _).subset hy
  rcases List.mem_append.1 h with e | e
  · exact .inl ((List.takeWhile_sublist _).subset e)
  · cases hd : l.dropWhile (low k) with
    | nil =>
      rw [hd] at e
      simp only [List.mem_singleton] at e
      subst e
      exact .inr ⟨rfl, rfl, .inl rfl⟩
    | cons y r =>
      rw [hd] at e hsub
      simp only at e
      split at e
      · rcases List.mem_cons.1 e with e | e
        · subst e; exact .inr ⟨rfl, rfl, .inr ⟨y, hsub y List.mem_cons_self, rfl⟩⟩
        · exact .inl (hsub _ (List.mem_cons_of_mem _ e))
      · rcases List.mem_cons.1 e with e | e
        · subst e; exact .inr ⟨rfl, rfl, .inl rfl⟩
        · exact .inl (hsub _ e)
theorem putItem_sorted {l : List Item} (h : Sorted l) (k v : Int) : Sorted (putItem l k v) := by
  rw [sorted_iff] at h ⊢
  unfold putItem
  have hpw := h
  rw [← List.takeWhile_append_dropWhile (p := low k) (l := l), List.pairwise_append] at hpw
  obtain ⟨p1, p2, p3⟩ := hpw
  have hlow : ∀ x ∈ l.takeWhile (low k), x.1 < k := fun x hx => by
    have := List.all_eq_true.1 (List.all_takeWhile (l := l) (p := low k)) x hx
    unfold low at this
    exact of_decide_eq_true this
  cases hd : l.dropWhile (low k) with
  | nil =>
    simp only
    rw [List.pairwise_append]
    exact ⟨p1, by simp, fun a ha b hb => by simp only [List.mem_singleton] at hb; subst hb; exact hlow a ha⟩
  | cons y r =>
    rw [hd] at p2 p3
    have hy : ¬ y.1 < k := by
      have := List.head?_dropWhile_not (low k) l
      rw [hd] at this
      simp only [List.head?_cons] at this
      unfold low at this
      simpa using this
    rw [List.pairwise_cons] at p2
    simp only
    split
    · rename_i hk
      rw [List.pairwise_append]
      refine ⟨p1, List.pairwise_cons.2 ⟨fun z hz => by have := p2.1 z hz; simp only; omega, p2.2⟩, fun a ha b hb => ?_⟩
      rcases List.mem_cons.1 hb with e | e
      · subst e; exact hlow a ha
      · exact p3 a ha b (List.mem_cons_of_mem _ e)
    · rename_i hk
      rw [List.pairwise_append]
      refine ⟨p1, List.pairwise_cons.2 ⟨fun z hz => ?_, List.pairwise_cons.2 p2⟩, fun a ha b hb => ?_⟩
      · rcases List.mem_cons.1 hz with e | e
        · subst e; simp only; omega
        · have := p2.1 z e; simp only; omega
      · rcases List.mem_cons.1 hb with e | e
        · subst e; exact hlow a ha
        · exact p3 a ha b e
end Go.Hy
