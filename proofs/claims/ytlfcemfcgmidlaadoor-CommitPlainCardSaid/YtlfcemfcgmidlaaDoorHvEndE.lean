import Derived.Test.YtlfcemfcgmidlaaDoorHvSortC
namespace Go.Hv
open Go.RowKit Go.Proofs Go.V
def siteOf (c : Conf) (t : Task) : Int := Int.tmod t.2.2.1 c.1
theorem contains_is (xs : List Int) (s : Int) (hl : xs.length ≤ 1000) : r74 (xs, s) = some (decide (s ∈ xs)) := by
 have h := find_is (body := r104_L0 (xs, s)) (xs := xs) (p := fun x => decide (s = x)) (by omega) (fun i x hx => by
  obtain ⟨e1, e2, -⟩ := in_len hx
  unfold r104_L0
  simp only [e1, e2, cond_true, Option.bind_some]
  cases decide (s = x) <;> rfl) (by
  unfold r104_L0
  simp only [at_len, cond_false])
 unfold r74 r104
 rw [h]
 simp only [Option.bind_some, idxOr_any]
 congr 1
 rw [Bool.eq_iff_iff]
 simp
theorem tmod_site {c : Conf} (hc : 1 ≤ c.1) {t : Task} (h : 0 ≤ t.2.2.1) : 0 ≤ siteOf c t ∧ siteOf c t < c.1 := by
 unfold siteOf
 rw [Int.tmod_eq_emod_of_nonneg h]
 exact ⟨Int.emod_nonneg _ (by omega), Int.emod_lt_of_pos _ (by omega)⟩
end Go.Hv
