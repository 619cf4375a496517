/- Rows behind their lengths, one behind the other. -/
import Derived.Test.YtfemngbhinlkgaaDoorHaDel
namespace Go.V
open Go.RowKit

def rowsOf (ls : List (List Int)) : List Int := ls.flatMap fun l => (l.length : Int) :: l

theorem rowsOf_nil : rowsOf [] = [] := rfl
theorem rowsOf_cons (l : List Int) (ls : List (List Int)) : rowsOf (l :: ls) = (l.length : Int) :: (l ++ rowsOf ls) := rfl
theorem rowsOf_app (as bs : List (List Int)) : rowsOf (as ++ bs) = rowsOf as ++ rowsOf bs := by simp [rowsOf]

theorem rowsOf_one (l : List Int) : rowsOf [l] = (l.length : Int) :: l := by simp [rowsOf]

theorem rowsOf_at {ls : List (List Int)} {i : Nat} (h : i < ls.length) : rowsOf (ls.take (i + 1)) = rowsOf (ls.take i) ++ (ls[i].length : Int) :: ls[i] := by
  rw [List.take_add_one, List.getElem?_eq_getElem h, rowsOf_app]
  show rowsOf _ ++ rowsOf [ls[i]] = _
  rw [rowsOf_one]

theorem rowsOf_split (ls : List (List Int)) (i : Nat) : rowsOf ls = rowsOf (ls.take i) ++ rowsOf (ls.drop i) := by
  rw [← rowsOf_app, List.take_append_drop]

theorem rowsOf_len_at {ls : List (List Int)} {i : Nat} (h : i < ls.length) : (rowsOf (ls.take (i + 1))).length = (rowsOf (ls.take i)).length + 1 + ls[i].length := by
  rw [rowsOf_at h]; simp; omega

theorem rowsOf_le {ls : List (List Int)} {m : Nat} (h : ∀ l ∈ ls, l.length ≤ m) : (rowsOf ls).length ≤ ls.length * (m + 1) := by
  induction ls with
  | nil => simp [rowsOf]
  | cons l ls ih =>
    have h1 := h l List.mem_cons_self
    have h2 := ih fun x hx => h x (List.mem_cons_of_mem _ hx)
    rw [rowsOf_cons]
    simp only [List.length_cons, List.length_append, Nat.add_mul]
    omega

theorem rowsOf_mono (ls : List (List Int)) {i j : Nat} (h : i ≤ j) : (rowsOf (ls.take i)).length ≤ (rowsOf (ls.take j)).length := by
  have : ls.take j = ls.take i ++ (ls.take j).drop i := by
    conv => lhs; rw [← List.take_append_drop i (ls.take j)]
    rw [List.take_take, Nat.min_eq_left h]
  rw [this, rowsOf_app]; simp

/-- So many rows are whole. -/
theorem whole (ls : List (List Int)) (n : Nat) : ∃ j, j ≤ ls.length ∧ (rowsOf (ls.take j)).length ≤ n ∧ (j < ls.length → n < (rowsOf (ls.take (j + 1))).length) := by
  have key : ∀ m, m ≤ ls.length → (∃ j, j ≤ ls.length ∧ (rowsOf (ls.take j)).length ≤ n ∧ (j < ls.length → n < (rowsOf (ls.take (j + 1))).length)) ∨ (rowsOf (ls.take m)).length ≤ n := by
    intro m
    induction m with
    | zero => intro _; right; simp [rowsOf]
    | succ m ih =>
      intro hm
      rcases ih (by omega) with h | h
      · exact .inl h
      · by_cases c : (rowsOf (ls.take (m + 1))).length ≤ n
        · exact .inr c
        · exact .inl ⟨m, by omega, h, fun _ => by omega⟩
  rcases key ls.length (Nat.le_refl _) with h | h
  · exact h
  · exact ⟨ls.length, Nat.le_refl _, h, fun h => by omega⟩

/-- What stands at a row's place in a tape of which so many bytes are left. -/
theorem row_at {ls : List (List Int)} {n i : Nat} (hi : i < ls.length) (hn : (rowsOf (ls.take i)).length < n) : ((rowsOf ls).take n)[(rowsOf (ls.take i)).length]? = some (ls[i].length : Int) := by
  rw [List.getElem?_take, if_pos hn, rowsOf_split ls i, List.drop_eq_getElem_cons hi, rowsOf_cons, List.getElem?_append_right (Nat.le_refl _), Nat.sub_self]; rfl

theorem row_in {ls : List (List Int)} {n i : Nat} (hi : i < ls.length) (hn : (rowsOf (ls.take (i + 1))).length ≤ n) : (((rowsOf ls).take n).drop ((rowsOf (ls.take i)).length + 1)).take ls[i].length = ls[i] := by
  have hl := rowsOf_len_at hi
  rw [List.drop_take, List.take_take, Nat.min_eq_left (by omega), rowsOf_split ls i, List.drop_eq_getElem_cons hi, rowsOf_cons, ← List.drop_drop, List.drop_left, List.drop_succ_cons, List.drop_zero, List.take_left]

theorem row_prefix {ls : List (List Int)} {n j : Nat} (hn : (rowsOf (ls.take j)).length ≤ n) : ((rowsOf ls).take n).take (rowsOf (ls.take j)).length = rowsOf (ls.take j) := by
  rw [List.take_take, Nat.min_eq_left hn, rowsOf_split ls j, List.take_left]

end Go.V
