/- A record is read as it was written; torn, or with a byte more, it is none: the law. -/
import Derived.Test.YtfemngbhinlkgaaDoorHmDec
namespace Go.Hm
open Go.RowKit Go.Proofs Go.V

theorem u8_of {n : Int} (h : (Lit.int .u8 n).wf = true) : 0 ≤ n ∧ n < 256 := by
  simp [Lit.wf, IntKind.min, IntKind.max, IntKind.signed, IntKind.bits] at h
  omega

def zeroR : Rec := ((0 : Int), (((0 : Int), (0 : Int)), ((0 : Int), ((0 : Int), ((0 : Int), (false, []))))))

theorem fin_bad {c : Cfg} {f : RecF} : finR c ((), ((), (([], 5), f))) = some (zeroR, 5) := by
  unfold finR
  have : r58 ([], 5) = some ([], 5) := by unfold r58; rfl
  rw [this]
  rfl

theorem fin_more {c : Cfg} {f : RecF} {t : Int} : finR c ((), ((), (([t], 0), f))) = some (zeroR, 4) := by
  unfold finR
  have : r58 ([t], 0) = some ([t], 4) := by unfold r58; rfl
  rw [this]
  rfl

theorem fin_ok {c : Cfg} {f : RecF} (h : r37 (c, (f.1, (f.2.1, f.2.2.1), f.2.2.2)) = some 0) : finR c ((), ((), (([], 0), f))) = some ((f.1, (f.2.1, f.2.2.1), f.2.2.2), 0) := by
  unfold finR
  have : r58 ([], 0) = some ([], 0) := by unfold r58; rfl
  rw [this]
  simp only [Option.bind_some, decide_true, cond_true, h]
  rfl

theorem dec_full {c : Cfg} (hc : CfgOk c) {r : Rec} (h : RecOk c r) {p : Parts} (hp : idxI tab0 r.1 = some p) : r43 (c, encR p r) = some (r, 0) := by
  have hlen := enc_len p r
  have htl := tot_le h p
  obtain ⟨f, h1, h2⟩ := dec_gen hc h hp (ext := []) (fun x hx => by simp at hx) (by simp) (w := tot p r) (by omega) (by simp [hlen])
  have hs : sta (encR p r ++ []) (tot p r) (tot p r) = ([], 0) := by
    unfold sta
    rw [if_pos (Nat.le_refl _), List.append_nil, ← hlen, List.take_length, List.drop_length]
  rw [h2 (Nat.le_refl _), hs, fin_ok (rec_ok hc h), List.append_nil, ← hlen, List.take_length] at h1
  exact h1

theorem dec_more {c : Cfg} (hc : CfgOk c) {r : Rec} (h : RecOk c r) {p : Parts} (hp : idxI tab0 r.1 = some p) {t : Int} (h0 : 0 ≤ t) (h1 : t < 256) : r43 (c, encR p r ++ [t]) = some (zeroR, 4) := by
  have hlen := enc_len p r
  have htl := tot_le h p
  obtain ⟨f, h2, -⟩ := dec_gen hc h hp (ext := [t]) (fun x hx => by simp only [List.mem_singleton] at hx; rw [hx]; exact ⟨h0, h1⟩) (by simp) (w := tot p r + 1) (by omega) (by simp [hlen])
  have htk : (encR p r ++ [t]).take (tot p r + 1) = encR p r ++ [t] := List.take_of_length_le (by simp [hlen])
  have hs : sta (encR p r ++ [t]) (tot p r + 1) (tot p r) = ([t], 0) := by
    unfold sta
    rw [if_pos (by omega), htk, ← hlen, List.drop_left]
  rw [hs, fin_more, htk] at h2
  exact h2

theorem dec_torn {c : Cfg} (hc : CfgOk c) {r : Rec} (h : RecOk c r) {p : Parts} (hp : idxI tab0 r.1 = some p) {w : Nat} (hw : w < tot p r) : r43 (c, (encR p r).take w) = some (zeroR, 5) := by
  have hlen := enc_len p r
  have htl := tot_le h p
  by_cases h0 : w = 0
  · subst h0
    rw [List.take_zero]
    unfold r43
    simp only [check_ok hc, Option.bind_some, clone_is (show ([] : List Int).length ≤ 140737488351232 by simp)]
    rfl
  · obtain ⟨f, h1, -⟩ := dec_gen hc h hp (ext := []) (fun x hx => by simp at hx) (by simp) (w := w) (by omega) (by simp [hlen]; omega)
    have hs : sta (encR p r ++ []) w (tot p r) = ([], 5) := by
      unfold sta
      rw [if_neg (by omega)]
    rw [hs, fin_bad, List.append_nil] at h1
    exact h1

theorem sameInts_is {l : List Int} (hl : l.length ≤ 1000) : r44 (l, l) = some true := by
  obtain ⟨q, h1, h2⟩ := loop_rule (body := r44_L0 (l, l)) (fun i => 0 ≤ i ∧ i ≤ l.length) (fun i => l.length - i.toNat) (fun q => q = .inl ()) (fun i hi => by
    obtain ⟨g0, g1⟩ := hi
    unfold r44_L0
    simp only
    by_cases hlt : i < l.length
    · obtain ⟨x, e1, -⟩ := idxI_is (xs := l) g0 hlt
      rw [decide_eq_true hlt, e1]
      simp only [cond_true, Option.bind_some, decide_true, Bool.not_true, cond_false]
      rw [wrap_i64 (n := i + 1) (by unfold i64; omega)]
      exact .inl ⟨i + 1, rfl, by omega, by omega⟩
    · exact .inr ⟨_, by rw [decide_eq_false hlt]; rfl, rfl⟩) 0 ⟨by omega, by omega⟩
  unfold r44
  simp only [decide_true, Bool.not_true, cond_false, h1, h2, Option.bind_some, Sum.elim_inl]

theorem sameRec_is {c : Cfg} {r : Rec} (h : RecOk c r) : r29 (r, r) = some true := by
  unfold r29
  simp [sameInts_is (l := r.2.2.2.2.2.2) (by have := h.sl; omega)]

end Go.Hm
