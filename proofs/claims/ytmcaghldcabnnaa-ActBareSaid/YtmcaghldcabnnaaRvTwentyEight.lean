/- What is read is read the same in a state that says more. -/
import Derived.Test.YtmcaghldcabnnaaRvTwenty
namespace Go.V
open Go.RowKit

variable {α : Type}

theorem look_app {β : Type} (l m : List (Nat × β)) (k : Nat) : look (app l m) k = match look l k with | some x => some x | none => look m k := by
  induction l with
  | nil => rfl
  | cons e l ih =>
    simp only [app, look]
    cases Nat.beq e.1 k with
    | true => rfl
    | false => exact ih

/-- The second state says what the first one says, and perhaps more. -/
structure LeX (x x' : X) : Prop where
  env : ∀ k d, look x.env k = some d → look x'.env k = some d
  roots : ∀ r row, look x.roots r = some row → look x'.roots r = some row

theorem LeX.refl (x : X) : LeX x x := ⟨fun _ _ h => h, fun _ _ h => h⟩
theorem LeX.trans {x y z : X} (h1 : LeX x y) (h2 : LeX y z) : LeX x z := ⟨fun k d h => h2.env k d (h1.env k d h), fun r row h => h2.roots r row (h1.roots r row h)⟩

end Go.V
