/- Residuals run at given values. -/
import Derived.Test.YtfemngbhinlkgaaDoorHaLaw
namespace Go.V
open Go.RowKit

noncomputable def goL {σ ρ : Type} (body : σ → Option (σ ⊕ ρ)) : Option (σ ⊕ ρ) → Option ρ := fun r => r.bind fun r => match r with
  | .inl d' => loopR body d'
  | .inr r => some r

theorem loopR_go {σ ρ : Type} (body : σ → Option (σ ⊕ ρ)) (d : σ) : loopR body d = goL body (body d) := loopR_step body d
theorem goL_inl {σ ρ : Type} (body : σ → Option (σ ⊕ ρ)) (d : σ) : goL body (some (.inl d)) = loopR body d := rfl
theorem goL_inr {σ ρ : Type} (body : σ → Option (σ ⊕ ρ)) (r : ρ) : goL body (some (.inr r)) = some r := rfl
theorem idxI_nn {β : Type} (xs : List β) (n : Nat) : idxI xs (n : Int) = xs[n]? := rfl

theorem nilR_clone {β : Type} {xs : List β} {b : Nat} (h : (2 * (0 + xs.length) + 192) * b ≤ 281474976710656) :
    (nilR xs fun (n : Bool) => bif n then some [] else bif roomOk false 0 xs.length b then some xs else none) = some xs :=
  nilR_eq (fun h => by rw [h]; rfl) (bif_t (roomOk_true h))

end Go.V
