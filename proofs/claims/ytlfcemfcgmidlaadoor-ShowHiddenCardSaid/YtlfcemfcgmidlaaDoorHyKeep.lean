/- A store stays a good one. -/
import Derived.Test.YtlfcemfcgmidlaaDoorHyOps
namespace Go.Hy
open Go.RowKit Go.Proofs Go.V
theorem doubtsWith_mem {l : List Doubt} {t : Txn} {d : Doubt} : d ∈ doubtsWith l t → d ∈ l ∨ d = (t, 0) := by
  unfold doubtsWith
  split
  · exact .inl
  · intro h
    simpa using h
theorem doubtsWith_old {l : List Doubt} {t : Txn} {d : Doubt} (h : d ∈ l) : d ∈ doubtsWith l t := by
  unfold doubtsWith
  split
  · exact h
  · exact List.mem_append_left _ h
theorem doubtsWith_has (l : List Doubt) (t : Txn) : ∃ d ∈ doubtsWith l t, d.1 = t := by
  unfold doubtsWith
  split
  · rename_i h
    rw [List.any_eq_true] at h
    obtain ⟨d, h1, h2⟩ := h
    exact ⟨d, h1, of_decide_eq_true h2⟩
  · exact ⟨(t, 0), by simp, rfl⟩
theorem app_get {β : Type} {l : List β} {b x : β} {i : Nat} (h : (l ++ [b])[i]? = some x) : l[i]? = some x ∨ (i = l.length ∧ x = b) := by
  rw [List.getElem?_append] at h
  split at h
  · exact .inl h
  · rename_i hi
    have hl := (List.getElem?_eq_some_iff.mp h).1
    simp only [List.length_singleton] at hl
    have : i = l.length := by omega
    subst this
    simp only [Nat.sub_self, List.getElem?_cons_zero, Option.some.injEq] at h
    exact .inr ⟨rfl, h.symm⟩
theorem doubtsWith_once {l : List Doubt} {t : Txn} (h : ∀ (i j : Nat) x y, i < j → l[i]? = some x → l[j]? = some y → x.1 ≠ y.1) : ∀ (i j : Nat) x y, i < j → (doubtsWith l t)[i]? = some x → (doubtsWith l t)[j]? = some y → x.1 ≠ y.1 := by
  intro i j x y hij hi hj
  unfold doubtsWith at hi hj
  split at hi
  · rename_i hc
    rw [if_pos hc] at hj
    exact h i j x y hij hi hj
  · rename_i hc
    rw [if_neg hc] at hj
    rcases app_get hi with e1 | ⟨e1, e1'⟩ <;> rcases app_get hj with e2 | ⟨e2, e2'⟩
    · exact h i j x y hij e1 e2
    · subst e2'
      intro e
      apply hc
      rw [List.any_eq_true]
      exact ⟨x, List.mem_of_getElem? e1, by rw [decide_eq_true_eq]; exact e⟩
    · have := (List.getElem?_eq_some_iff.mp e2).1; omega
    · omega
theorem doubtsWith_len (l : List Doubt) (t : Txn) : (doubtsWith l t).length ≤ l.length + 1 := by
  unfold doubtsWith
  split <;> simp
def lockOk (x : Lock) : Prop := 0 ≤ x.2.1 ∧ x.2.1 < 8 ∧ 0 ≤ x.2.2.2.1 ∧ x.2.2.2.1 ≤ 1073741824 ∧ 0 ≤ x.2.2.2.2 ∧ x.2.2.2.2 ≤ 1048576 ∧ (x.2.2.1 = false → x.2.2.2.1 = 0 ∧ x.2.2.2.2 = 0)
theorem addLock_ok {s : Sto} (h : StoreOk s) {x : Lock} (hx : lockOk x) (ht : txnB x.1 = true) (ho : x.1 ∉ s.2.2.2) (hal : ∀ y ∈ s.2.1, y.2.1 = x.2.1 → y.1 ≠ x.1 ∧ y.2.2.1 = false ∧ x.2.2.1 = false) (hr : s.2.1.length < 24) (hd : s.2.2.1.length < 1000000) :
    StoreOk (s.1, s.2.1 ++ [x], doubtsWith s.2.2.1 x.1, s.2.2.2) where
  short := ⟨h.short.items, by simp; omega, by have := doubtsWith_len s.2.2.1 x.1; simp only; omega, h.short.over⟩
  sorted := h.sorted
  item := h.item
  lock := fun y hy => by
    rcases List.mem_append.1 hy with e | e
    · exact h.lock y e
    · simp only [List.mem_singleton] at e; rw [e]; exact hx
  handed := fun y hy => by
    rcases List.mem_append.1 hy with e | e
    · obtain ⟨d, d1, d2⟩ := h.handed y e
      exact ⟨d, doubtsWith_old d1, d2⟩
    · simp only [List.mem_singleton] at e; rw [e]; exact doubtsWith_has _ _
  alone := fun i j y z hij hi hj hk => by
    rcases app_get hi with e1 | ⟨e1, e1'⟩ <;> rcases app_get hj with e2 | ⟨e2, e2'⟩
    · exact h.alone i j y z hij e1 e2 hk
    · subst e2'; exact hal y (List.mem_of_getElem? e1) hk
    · have := (List.getElem?_eq_some_iff.mp e2).1; omega
    · omega
  room := by simp; omega
  doubt := fun d hd => by
    rcases doubtsWith_mem hd with e | e
    · exact h.doubt d e
    · rw [e]; exact ⟨ht, by simp, by simp, ho⟩
  why := fun d hd => by
    rcases doubtsWith_mem hd with e | e
    · obtain ⟨y, y1, y2⟩ := h.why d e
      exact ⟨y, List.mem_append_left _ y1, y2⟩
    · rw [e]; exact ⟨x, by simp, rfl⟩
  once := doubtsWith_once h.once
  over := h.over
  ends := h.ends
theorem any_false {β : Type} {l : List β} {p : β → Bool} (h : ¬ l.any p = true) : ∀ x ∈ l, p x = false := by
  rw [Bool.not_eq_true, List.any_eq_false] at h
  intro x hx
  have := h x hx
  simpa using this
theorem find_none {β : Type} {l : List β} {p : β → Bool} (h : l.findIdx? p = none) : ∀ x ∈ l, p x = false := by
  rw [List.findIdx?_eq_none_iff] at h
  exact h
theorem read_keep {s : Sto} (h : StoreOk s) {t : Txn} {k : Int} (ht : txnB t = true) (k0 : 0 ≤ k) (k1 : k < 8) (hd : s.2.2.1.length < 1000000) (he : (readR s t k).2.2.2 = 0) : StoreOk (readR s t k).1 := by
  unfold readR at he ⊢
  cases e : s.2.1.findIdx? (lockB t k) with
  | some i =>
    have hi := (List.findIdx?_eq_some_iff_getElem.1 e).1
    have hx : s.2.1[i]? = some s.2.1[i] := List.getElem?_eq_getElem hi
    simp only [hx]
    exact h
  | none =>
    simp only [e] at he ⊢
    by_cases c1 : (s.2.2.2.any fun y => decide (t = y)) = true
    · simp only [c1, if_true] at he; cases he
    · by_cases c2 : s.2.1.any (busyB t k false) = true
      · simp only [c1, c2, if_true, if_false] at he; cases he
      · by_cases c3 : s.2.1.length = 24
        · simp only [c1, c2, c3, if_true, if_false] at he; cases he
        · simp only [c1, c2, c3, if_false]
          have hr := h.room
          refine addLock_ok h (x := (t, k, false, 0, 0)) ⟨k0, k1, by simp, by simp, by simp, by simp, fun _ => ⟨rfl, rfl⟩⟩ ht (fun hm => ?_) (fun y hy hk => ?_) (by omega) hd
          · have := any_false c1 t hm
            simp at this
          · have f1 := find_none e y hy
            have f2 := any_false c2 y hy
            have hk : y.2.1 = k := hk
            unfold lockB at f1
            unfold busyB at f2
            rw [decide_eq_true hk, Bool.and_true, decide_eq_false_iff_not] at f1
            rw [decide_eq_true hk, decide_eq_false f1] at f2
            exact ⟨f1, by simpa using f2, rfl⟩
theorem set_get {β : Type} {l : List β} {b x : β} {i j : Nat} (h : (l.set i b)[j]? = some x) : (j ≠ i ∧ l[j]? = some x) ∨ (j = i ∧ x = b) := by
  rw [List.getElem?_set] at h
  split at h
  · rename_i e
    split at h
    · simp only [Option.some.injEq] at h; exact .inr ⟨e.symm, h.symm⟩
    · cases h
  · rename_i e; exact .inl ⟨fun e' => e e'.symm, h⟩
theorem setLock_ok {s : Sto} (h : StoreOk s) {i : Nat} {o x : Lock} (hi : s.2.1[i]? = some o) (ho1 : o.1 = x.1) (ho2 : o.2.1 = x.2.1) (hx : lockOk x) (ht : txnB x.1 = true) (ho : x.1 ∉ s.2.2.2) (hal : ∀ (j : Nat) y, j ≠ i → s.2.1[j]? = some y → y.2.1 ≠ x.2.1) (hd : s.2.2.1.length < 1000000) :
    StoreOk (s.1, s.2.1.set i x, doubtsWith s.2.2.1 x.1, s.2.2.2) where
  short := ⟨h.short.items, by rw [List.length_set]; exact h.short.locks, by have := doubtsWith_len s.2.2.1 x.1; simp only; omega, h.short.over⟩
  sorted := h.sorted
  item := h.item
  lock := fun y hy => by
    rcases List.mem_or_eq_of_mem_set hy with e | e
    · exact h.lock y e
    · rw [e]; exact hx
  handed := fun y hy => by
    rcases List.mem_or_eq_of_mem_set hy with e | e
    · obtain ⟨d, d1, d2⟩ := h.handed y e
      exact ⟨d, doubtsWith_old d1, d2⟩
    · rw [e]; exact doubtsWith_has _ _
  alone := fun a b y z hab ha hb hk => by
    rcases set_get ha with ⟨n1, e1⟩ | ⟨n1, e1⟩ <;> rcases set_get hb with ⟨n2, e2⟩ | ⟨n2, e2⟩
    · exact h.alone a b y z hab e1 e2 hk
    · subst e2; exact absurd hk (hal a y n1 e1)
    · subst e1; exact absurd hk.symm (hal b z n2 e2)
    · omega
  room := by rw [List.length_set]; exact h.room
  doubt := fun d hd => by
    rcases doubtsWith_mem hd with e | e
    · exact h.doubt d e
    · rw [e]; exact ⟨ht, by simp, by simp, ho⟩
  why := fun d hd => by
    have hlt := (List.getElem?_eq_some_iff.mp hi).1
    have hxm : x ∈ s.2.1.set i x := List.mem_of_getElem? (i := i) (by rw [List.getElem?_set, if_pos rfl, if_pos hlt])
    rcases doubtsWith_mem hd with e | e
    · obtain ⟨y, y1, y2⟩ := h.why d e
      obtain ⟨j, hj⟩ := List.getElem?_of_mem y1
      by_cases c : j = i
      · subst c
        rw [hi] at hj
        cases hj
        exact ⟨x, hxm, by rw [← ho1]; exact y2⟩
      · exact ⟨y, List.mem_of_getElem? (i := j) (by rw [List.getElem?_set, if_neg (fun e => c e.symm)]; exact hj), y2⟩
    · rw [e]; exact ⟨x, hxm, rfl⟩
  once := doubtsWith_once h.once
  over := h.over
  ends := h.ends
theorem write_keep {s : Sto} (h : StoreOk s) {t : Txn} {k v ask : Int} (ht : txnB t = true) (k0 : 0 ≤ k) (k1 : k < 8) (v0 : 0 ≤ v) (v1 : v ≤ 1073741824) (a0 : 0 ≤ ask) (a1 : ask ≤ 1048576) (hd : s.2.2.1.length < 1000000) (he : (writeR s t k v ask).2 = 0) : StoreOk (writeR s t k v ask).1 := by
  unfold writeR at he ⊢
  have hr := h.room
  have hx : lockOk (t, k, true, v, ask) := ⟨k0, k1, v0, v1, a0, a1, fun e => by cases e⟩
  by_cases c1 : (s.2.2.2.any fun y => decide (t = y)) = true
  · simp only [c1, if_true] at he; cases he
  have hno : t ∉ s.2.2.2 := fun hm => by
    have := any_false c1 t hm
    simp at this
  cases e : s.2.1.findIdx? (lockB t k) with
  | some i =>
    obtain ⟨hi, hp, -⟩ := List.findIdx?_eq_some_iff_getElem.1 e
    have hxi : s.2.1[i]? = some s.2.1[i] := List.getElem?_eq_getElem hi
    simp only [c1, e, hxi] at he ⊢
    by_cases c2 : ask < s.2.1[i].2.2.2.2
    · simp only [c2, if_true] at he; cases he
    by_cases c3 : s.2.1.any (busyB t k true) = true
    · simp only [c2, c3, if_true, if_false] at he; cases he
    by_cases c4 : (itemOf s.1 k).2.2 = 1048576
    · simp only [c2, c3, c4, if_true, if_false] at he; cases he
    simp only [c2, c3, c4, if_false]
    unfold lockB at hp
    rw [Bool.and_eq_true, decide_eq_true_eq, decide_eq_true_eq] at hp
    refine setLock_ok h hxi hp.1 hp.2 hx ht hno (fun j y hj hy hk => ?_) hd
    have f2 := any_false c3 y (List.mem_of_getElem? hy)
    have hk : y.2.1 = k := hk
    unfold busyB at f2
    rw [decide_eq_true hk] at f2
    have hyt : y.1 = t := by simpa using f2
    have := h.alone
    by_cases c5 : j < i
    · exact (h.alone j i y _ c5 hy hxi (by rw [hk, hp.2])).1 (by rw [hyt, hp.1])
    · exact (h.alone i j _ y (by omega) hxi hy (by rw [hk, hp.2])).1 (by rw [hyt, hp.1])
  | none =>
    simp only [c1, e] at he ⊢
    by_cases c3 : s.2.1.any (busyB t k true) = true
    · simp only [c3, if_true] at he; cases he
    by_cases c2 : s.2.1.length = 24
    · simp only [c2, c3, if_true, if_false] at he; cases he
    by_cases c4 : (itemOf s.1 k).2.2 = 1048576
    · simp only [c2, c3, c4, if_true, if_false] at he; cases he
    simp only [c2, c3, c4, if_false]
    refine addLock_ok h hx ht hno (fun y hy hk => ?_) (by omega) hd
    have hk : y.2.1 = k := hk
    have f1 := find_none e y hy
    have f2 := any_false c3 y hy
    unfold lockB at f1
    unfold busyB at f2
    rw [decide_eq_true hk, Bool.and_true, decide_eq_false_iff_not] at f1
    rw [decide_eq_true hk, decide_eq_false f1] at f2
    cases f2
end Go.Hy
