/- What a text's words are, and a number's digits: the functions for them. -/
import Derived.Test.YtmcaghldcabnnaaDoorHlOne
import Derived.Test.YtmcaghldcabnnaaDoorHaWords
namespace Go.Hl.Sp
open Go.V Go.Lib
theorem index_app {w r : Txt} {c : UInt8} (h : c ∉ w) : r58 (w ++ c :: r, [c]) = some (w.length : Int) := by
  show some (indexByte (w ++ c :: r) c) = _
  rw [indexByte_app r h]
theorem count_is (s : Txt) (c : UInt8) : r57 (s, [c]) = some ((s.count c : Nat) : Int) := rfl
theorem split_is (c : UInt8) {s : Txt} (hs : s.length ≤ 1099511627776) : r33 (s, [c]) = some (splitC c s) := by
  have hcl : s.count c ≤ s.length := List.count_le_length
  have w1 : Go.IntKind.wrap .i64 (((s.count c : Nat) : Int) + 1) = ((s.count c + 1 : Nat) : Int) := by rw [wrap_i64 (by unfold i64; omega)]; omega
  have w2 : Go.IntKind.wrap .i64 ((s.length : Int) + 1) = ((s.length + 1 : Nat) : Int) := by rw [wrap_i64 (by unfold i64; omega)]; omega
  have w3 : min ((s.count c + 1 : Nat) : Int) ((s.length + 1 : Nat) : Int) = ((s.count c + 1 : Nat) : Int) := by omega
  have w4 : Go.IntKind.wrap .i64 (((s.count c + 1 : Nat) : Int) - 1) = ((s.count c : Nat) : Int) := by rw [wrap_i64 (by unfold i64; omega)]; omega
  have hloop : ∀ (n : Nat) (t : Txt) (i : Nat) (arr : List Txt), n = t.count c → i + n = s.count c → arr.length = s.count c + 1 → t.length ≤ s.length → splitC c s = arr.take i ++ splitC c t →
      ∃ t' arr', loopR (r48_L0 ((s.count c + 1 : Nat) : Int) (s, ([c], (0, -1)))) (t, ((), ((i : Int), arr))) = some (t', ((), (((s.count c : Nat) : Int), arr'))) ∧ arr'.length = s.count c + 1 ∧ splitC c s = arr'.take (s.count c) ++ [t'] := by
    intro n
    induction n with
    | zero =>
      intro t i arr hn hi hl ht he
      refine ⟨t, arr, ?_, hl, ?_⟩
      · rw [loopR_go]
        have : i = s.count c := by omega
        subst this
        unfold r48_L0
        simp only [w2, w3, w4, bif_f (decide_eq_false (show ¬ (((s.count c : Nat) : Int) < ((s.count c : Nat) : Int)) by omega)), goL_inr]
      · have h1 : c ∉ t := List.count_eq_zero.1 hn.symm
        have : i = s.count c := by omega
        rw [he, splitC_one h1, this]
    | succ n ih =>
      intro t i arr hn hi hl ht he
      obtain ⟨w, r, rfl, hw⟩ := split_at_byte (c := c) (l := t) (List.count_pos_iff.1 (by omega))
      have hwl : w.length + (r.length + 1) ≤ s.length := by simpa using ht
      have hcr : r.count c = n := by
        rw [List.count_append, List.count_cons_self, List.count_eq_zero.2 hw] at hn
        omega
      obtain ⟨x, hx, -⟩ := idxN_is (xs := arr) (n := i) (by omega)
      have w5 : Go.IntKind.wrap .i64 ((w.length : Int) + 0) = w.length := by rw [wrap_i64 (by unfold i64; omega)]; omega
      have w6 : Go.IntKind.wrap .i64 ((w.length : Int) + ((([c] : Txt).length : Nat) : Int)) = ((w.length + 1 : Nat) : Int) := by
        rw [wrap_i64 (by unfold i64; simp; omega)]; simp
      have w7 : Go.IntKind.wrap .i64 ((i : Int) + 1) = ((i + 1 : Nat) : Int) := by rw [wrap_i64 (by unfold i64; omega)]; omega
      have hok1 : okB none (some (w.length : Int)) none (w ++ c :: r).length = true := by simp [okB]; omega
      have hok2 : okB (some ((w.length + 1 : Nat) : Int)) none none (w ++ c :: r).length = true := by simp [okB]; omega
      have htake : List.take w.length (w ++ c :: r) = w := by simp
      have hdrop : List.drop (w.length + 1) (w ++ c :: r) = r := by
        rw [← List.drop_drop]; simp
      obtain ⟨t', arr', k1, k2, k3⟩ := ih r (i + 1) (arr.set i w) hcr.symm (by omega) (by simpa using hl) (by omega) (by
        rw [he, splitC_app r hw, List.take_add_one, List.take_set_of_le (Nat.le_refl _), List.getElem?_set, if_pos rfl, if_pos (by omega)]
        simp)
      refine ⟨t', arr', ?_, k2, k3⟩
      have hlt : (i : Int) < ((s.count c : Nat) : Int) := by omega
      have hstep : r48_L0 ((s.count c + 1 : Nat) : Int) (s, ([c], (0, -1))) (w ++ c :: r, ((), ((i : Int), arr))) = some (.inl (r, ((), (((i + 1 : Nat) : Int), arr.set i w)))) := by
        unfold r48_L0
        simp only [w2, w3, w4, bif_t (decide_eq_true hlt), index_app hw, Option.bind_some, bif_f (decide_eq_false (show ¬ ((w.length : Int) < 0) by omega)), w5, w6, w7, bif_t hok1, bif_t hok2,
          bif_t (inB_true (n := (i : Int)) (l := arr.length) (by omega) (by omega)), Int.toNat_natCast, hx, htake, hdrop]
      rw [loopR_go, hstep, goL_inl]
      exact k1
  obtain ⟨t', arr', k1, k2, k3⟩ := hloop (s.count c) s 0 (List.replicate (s.count c + 1) []) rfl (by omega) (by simp) (Nat.le_refl _) (by simp)
  unfold r33 r48
  have h0 : ¬ ((-1 : Int) = 0) := by decide
  have h1 : ¬ ([c] : Txt) = [] := by simp
  have h2 : (-1 : Int) < 0 := by decide
  obtain ⟨x, hx, -⟩ := idxN_is (xs := arr') (n := s.count c) (by omega)
  have hmk : (decide ((0 : Int) ≤ ((s.count c + 1 : Nat) : Int)) && (decide (((s.count c + 1 : Nat) : Int) ≤ ((s.count c + 1 : Nat) : Int)) && (decide ((16 : Int) * ((s.count c + 1 : Nat) : Int) ≤ 281474976710656) && decide (((s.count c + 1 : Nat) : Int) ≤ 9223372036854775807)))) = true := by
    simp only [Bool.and_eq_true, decide_eq_true_eq]; omega
  have hok : okB none (some ((s.count c + 1 : Nat) : Int)) none (List.set arr' (s.count c) t').length = true := by simp [okB, k2]; omega
  simp only [bif_f (decide_eq_false h0), bif_f (decide_eq_false h1), bif_t (decide_eq_true h2), count_is, Option.bind_some, w1, w2, w3, bif_t hmk, Int.toNat_natCast]
  have k1 : loopR (r48_L0 ((s.count c + 1 : Nat) : Int) (s, ([c], (0, -1)))) (s, ((), ((0 : Int), List.replicate (s.count c + 1) []))) = _ := k1
  rw [k1]
  simp only [Option.bind_some, bif_t (inB_true (n := ((s.count c : Nat) : Int)) (l := arr'.length) (by omega) (by omega)), Int.toNat_natCast, hx, w1, bif_t hok]
  congr 1
  rw [k3]
  unfold midL
  rw [List.drop_zero, List.take_add_one, List.take_set_of_le (Nat.le_refl _), List.getElem?_set, if_pos rfl, if_pos (by omega)]
  rfl
end Go.Hl.Sp
