/- The first line that is wrong is told. -/
import Derived.Test.YtmcaghldcabnnaaDoorHlBack
namespace Go.Hl
open Go.RowKit Go.Proofs Go.V Go.Lib
theorem itoa_lit {u : Nat} {w : Txt} (h : decDigits u = w) : itoa (u : Int) = w := by rw [itoa_nat, h]
theorem n0 : NumW [48] 0 := by
  have h : itoa (0 : Int) = [48] := itoa_lit (u := 0) (by simp [decDigits])
  rw [← h]; exact (num_of (by omega) (by omega)).1
theorem n1 : NumW [49] 1 := by
  have h : itoa (1 : Int) = [49] := itoa_lit (u := 1) (by simp [decDigits])
  rw [← h]; exact (num_of (by omega) (by omega)).1
theorem n2 : NumW [50] 2 := by
  have h : itoa (2 : Int) = [50] := itoa_lit (u := 2) (by simp [decDigits])
  rw [← h]; exact (num_of (by omega) (by omega)).1
theorem nm : NumW [45, 49] (-1) := by
  have h : itoa (-1 : Int) = [45, 49] := by
    unfold itoa
    rw [if_pos (by omega)]
    have : decDigits (-1 : Int).natAbs = [49] := by
      show decDigits 1 = [49]
      simp [decDigits]
    rw [this]
  refine ⟨?_, ?_⟩
  · show some (atoiV [45, 49]) = _
    rfl
  · rw [(itoa_is (n := -1) (by unfold i64; omega)).1, h]
theorem sp (l : Txt) {ws : List Txt} (hl : l.length ≤ 1000) (h : splitC 32 l = ws) : r33 (l, [32]) = some ws := by rw [Sp.split_is 32 (by omega), h]
theorem crash_none {ws : List Txt} {r : Int × (Int × (Int × (Int × (Int × (List Int × (Int × (Int × (Int × (Int × (Int × List UInt8))))))))))} : loopR r31_L0 ((), ((), ((ws, true), r))) = some ((), ((), ((ws, true), r))) := by
  rw [loopR_go]
  unfold r31_L0
  cases decide ((0 : Int) < ((ws.length : Nat) : Int)) <;> simp only [cond_true, cond_false, Option.bind_some, Bool.not_true, goL_inr]
end Go.Hl
