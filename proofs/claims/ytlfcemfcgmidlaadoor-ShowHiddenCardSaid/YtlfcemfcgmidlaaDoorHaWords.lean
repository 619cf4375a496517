/- Texts: words between blanks, numbers as digits. -/
import Derived.Test.YtlfcemfcgmidlaaDoorHaRun
import Derived.Test.YtlfcemfcgmidlaaDoorLibK
namespace Go.V
open Go.Lib
abbrev Txt := List UInt8
/-! ### numbers as digits -/
theorem digit_toNat {d : Nat} (h : d < 10) : (UInt8.ofNat (48 + d)).toNat = 48 + d := by
  simp [UInt8.toNat_ofNat']; omega
theorem decDigits_digit (u : Nat) : ∀ b ∈ decDigits u, 48 ≤ b.toNat ∧ b.toNat ≤ 57 := by
  induction u using Nat.strongRecOn with
  | ind u ih =>
    intro b hb
    by_cases h : u < 10
    · rw [decDigits_one h, List.mem_singleton] at hb
      subst hb
      rw [digit_toNat h]; omega
    · rw [decDigits, dif_neg h, List.mem_append, List.mem_singleton] at hb
      rcases hb with hb | hb
      · exact ih (u / 10) (by omega) b hb
      · subst hb
        rw [digit_toNat (by omega)]; omega
theorem itoa_nat (u : Nat) : itoa (u : Int) = decDigits u := by
  unfold itoa
  rw [if_neg (by omega)]; rfl
theorem dec_no {u : Nat} {c : UInt8} (h : c.toNat < 48 ∨ 57 < c.toNat) : c ∉ decDigits u := fun hm => by
  have := decDigits_digit u c hm
  omega
end Go.V
