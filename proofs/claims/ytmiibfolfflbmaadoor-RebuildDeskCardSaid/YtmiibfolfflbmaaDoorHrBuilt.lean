/- What records make of memory: the store's part. -/
import Derived.Test.YtmiibfolfflbmaaDoorHrEnds
import Derived.Test.YtmiibfolfflbmaaDoorHrRec
namespace Go.Hr
open Go.RowKit Go.Proofs Go.V

abbrev Conf := Int × (List (Int × Int) × Int)
abbrev Rec := Int × ((Int × Int) × (Int × (Int × (Int × (Bool × List Int)))))
abbrev Note := (Int × Int) × (Bool × Bool)
abbrev Task := Bool × (Int × (Int × (Int × (Int × (Int × (Bool × Bool))))))
abbrev Job := Int × (Int × (List Task × (List Int × (Int × Int))))
abbrev Desk := Int × List Job
abbrev Mem := Int × (Sto × (Desk × List Note))

/-- A store behind so many records. -/
structure Built (n : Nat) (s : Sto) : Prop where
  ok : StoreOk s
  items : ItemsOk s.1 (24 * n)
  doubts : s.2.2.1.length ≤ n
  over : s.2.2.2.length ≤ n

theorem Built.more {n m : Nat} {s : Sto} (h : Built n s) (hm : n ≤ m) : Built m s :=
  ⟨h.ok, ⟨h.items.sorted, fun x hx => by have := h.items.item x hx; omega⟩, by have := h.doubts; omega, by have := h.over; omega⟩

theorem built_nil : Built 0 noSto := ⟨made_nil.ok, made_nil.items, by simp [noSto], by simp [noSto]⟩

theorem write_shape {s : Sto} {t : Txn} {k v ask : Int} (he : (writeR s t k v ask).2 = 0) (_hs : StoreOk s) : (writeR s t k v ask).1.1 = s.1 ∧ (writeR s t k v ask).1.2.2.1 = doubtsWith s.2.2.1 t ∧ (writeR s t k v ask).1.2.2.2 = s.2.2.2 ∧ t ∉ s.2.2.2 ∧ ∀ y ∈ (writeR s t k v ask).1.2.1, y.1 = t ∨ y ∈ s.2.1 := by
  unfold writeR at he ⊢
  split at he
  · cases he
  · rename_i ho
    rw [if_neg ho]
    have hno : t ∉ s.2.2.2 := fun hm => ho (over_any' hm)
    cases hf : s.2.1.findIdx? (lockB t k) with
    | some i =>
      rw [hf] at he
      simp only at he ⊢
      cases hi : s.2.1[i]? with
      | none =>
        exfalso
        have := (find_split hf).1
        rw [List.getElem?_eq_getElem this] at hi
        cases hi
      | some x =>
        rw [hi] at he
        simp only at he ⊢
        split at he
        · cases he
        · rename_i c1
          rw [if_neg c1]
          split at he
          · cases he
          · rename_i c2
            rw [if_neg c2]
            split at he
            · cases he
            · rename_i c3
              rw [if_neg c3]
              refine ⟨rfl, rfl, rfl, hno, fun y hy => ?_⟩
              rcases List.mem_or_eq_of_mem_set hy with e | e
              · exact .inr e
              · exact .inl (by rw [e])
    | none =>
      rw [hf] at he
      simp only at he ⊢
      split at he
      · cases he
      · rename_i c2
        rw [if_neg c2]
        split at he
        · cases he
        · rename_i c3
          rw [if_neg c3]
          split at he
          · cases he
          · rename_i c4
            rw [if_neg c4]
            refine ⟨rfl, rfl, rfl, hno, fun y hy => ?_⟩
            rcases List.mem_append.1 hy with e | e
            · exact .inr e
            · exact .inl (by rw [List.mem_singleton.1 e])

theorem built_write {n : Nat} {s : Sto} (h : Built n s) (hn : n ≤ 1000) {t : Txn} {k v ask : Int} (ht : txnB t = true) (k0 : 0 ≤ k) (k1 : k < 8) (v0 : 0 ≤ v) (v1 : v ≤ 1073741824) (a0 : 0 ≤ ask) (a1 : ask ≤ 1048576) (he : (writeR s t k v ask).2 = 0) : Built (n + 1) (writeR s t k v ask).1 := by
  obtain ⟨e1, e2, e3, -⟩ := write_shape he h.ok
  have hd := h.doubts
  refine ⟨write_keep h.ok ht k0 k1 v0 v1 a0 a1 (by omega) he, ?_, ?_, ?_⟩
  · rw [e1]
    exact ⟨h.items.sorted, fun x hx => by have := h.items.item x hx; omega⟩
  · rw [e2]
    exact Nat.le_trans (doubtsWith_len s.2.2.1 t) (by omega)
  · rw [e3]
    exact Nat.le_trans h.over (by omega)

theorem built_ends {n : Nat} {s : Sto} (h : Built n s) (hn : n ≤ 1000) (t : Txn) (yes : Bool) : ItemsOk (endItems s t yes) (24 * (n + 1 : Nat)) := by
  have h1 := (endItems_is (a := (s, t, yes)) h.ok (m := 24 * n) (by omega) (by omega) h.items).2
  have hr := h.ok.room
  exact ⟨h1.sorted, fun x hx => by have := h1.item x hx; simp only at this; omega⟩

theorem built_end_is {n : Nat} {s : Sto} (h : Built n s) (hn : n ≤ 1000) {t : Txn} (ht : txnB t = true) (yes : Bool) : r19 (s, t, yes) = some (endR s t yes, 0) :=
  end_is h.ok (m := 24 * n) (by omega) (by omega) h.items ht yes (by have := h.over; omega)

theorem built_end {n : Nat} {s : Sto} (h : Built n s) (hn : n ≤ 1000) {t : Txn} (ht : txnB t = true) (yes : Bool) : Built (n + 1) (endR s t yes) where
  ok := by
    have h1 := built_ends h hn t yes
    exact end_keep h.ok ht ⟨h1.sorted, fun x hx => by have := h1.item x hx; omega⟩ (by have := h.over; omega)
  items := built_ends h hn t yes
  doubts := Nat.le_trans (List.length_filter_le _ _) (by have := h.doubts; omega)
  over := Nat.le_trans (overWith_len _ _) (by have := h.over; omega)

end Go.Hr
