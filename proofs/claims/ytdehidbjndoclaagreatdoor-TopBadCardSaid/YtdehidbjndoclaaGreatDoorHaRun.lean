/- Residuals run at given values. -/
import Derived.Test.YtdehidbjndoclaaGreatDoorHaLaw
namespace Go.V
open Go.RowKit
theorem idxI_nn {β : Type} (xs : List β) (n : Nat) : idxI xs (n : Int) = xs[n]? := rfl
theorem in_len {β : Type} {xs : List β} {i : Nat} {x : β} (h : xs[i]? = some x) : decide ((i : Int) < (xs.length : Int)) = true ∧ idxI xs (i : Int) = some x ∧ inB (i : Int) xs.length = true ∧ idxN xs i = some x := by
  have hl := (List.getElem?_eq_some_iff.mp h).1
  exact ⟨decide_eq_true (by omega), by rw [idxI_nn]; exact h, inB_true (by omega) (by omega), h⟩
end Go.V
