/- A record is read as it was written; torn, or with a byte more, it is none: the law. -/
import Derived.Test.YtohfplomliampaaDoorHgDec
namespace Go.Hg
open Go.RowKit Go.Proofs Go.V

theorem u8_of {n : Int} (h : (Lit.int .u8 n).wf = true) : 0 ≤ n ∧ n < 256 := by
  simp [Lit.wf, IntKind.min, IntKind.max, IntKind.signed, IntKind.bits] at h
  omega

def zeroR : Rec := ((0 : Int), (((0 : Int), (0 : Int)), ((0 : Int), ((0 : Int), ((0 : Int), (false, []))))))

theorem fin_bad {c : Cfg} {f : RecF} : finR c ((), ((), (([], 5), f))) = some (zeroR, 5) := by
  unfold finR
  have : r54 ([], 5) = some ([], 5) := by unfold r54; rfl
  rw [this]
  rfl

theorem fin_more {c : Cfg} {f : RecF} {t : Int} : finR c ((), ((), (([t], 0), f))) = some (zeroR, 4) := by
  unfold finR
  have : r54 ([t], 0) = some ([t], 4) := by unfold r54; rfl
  rw [this]
  rfl

theorem fin_ok {c : Cfg} {f : RecF} (h : r43 (c, (f.1, (f.2.1, f.2.2.1), f.2.2.2)) = some 0) : finR c ((), ((), (([], 0), f))) = some ((f.1, (f.2.1, f.2.2.1), f.2.2.2), 0) := by
  unfold finR
  have : r54 ([], 0) = some ([], 0) := by unfold r54; rfl
  rw [this]
  simp only [Option.bind_some, decide_true, cond_true, h]
  rfl

theorem dec_full {c : Cfg} (hc : CfgOk c) {r : Rec} (h : RecOk c r) {p : Parts} (hp : idxI tab0 r.1 = some p) : r28 (c, encR p r) = some (r, 0) := by
  have hlen := enc_len p r
  have htl := tot_le h p
  obtain ⟨f, h1, h2⟩ := dec_gen hc h hp (ext := []) (fun x hx => by simp at hx) (by simp) (w := tot p r) (by omega) (by simp [hlen])
  have hs : sta (encR p r ++ []) (tot p r) (tot p r) = ([], 0) := by
    unfold sta
    rw [if_pos (Nat.le_refl _), List.append_nil, ← hlen, List.take_length, List.drop_length]
  rw [h2 (Nat.le_refl _), hs, fin_ok (rec_ok hc h), List.append_nil, ← hlen, List.take_length] at h1
  exact h1

theorem dec_more {c : Cfg} (hc : CfgOk c) {r : Rec} (h : RecOk c r) {p : Parts} (hp : idxI tab0 r.1 = some p) {t : Int} (h0 : 0 ≤ t) (h1 : t < 256) : r28 (c, encR p r ++ [t]) = some (zeroR, 4) := by
  have hlen := enc_len p r
  have htl := tot_le h p
  obtain ⟨f, h2, -⟩ := dec_gen hc h hp (ext := [t]) (fun x hx => by simp only [List.mem_singleton] at hx; rw [hx]; exact ⟨h0, h1⟩) (by simp) (w := tot p r + 1) (by omega) (by simp [hlen])
  have htk : (encR p r ++ [t]).take (tot p r + 1) = encR p r ++ [t] := List.take_of_length_le (by simp [hlen])
  have hs : sta (encR p r ++ [t]) (tot p r + 1) (tot p r) = ([t], 0) := by
    unfold sta
    rw [if_pos (by omega), htk, ← hlen, List.drop_left]
  rw [hs, fin_more, htk] at h2
  exact h2

theorem dec_torn {c : Cfg} (hc : CfgOk c) {r : Rec} (h : RecOk c r) {p : Parts} (hp : idxI tab0 r.1 = some p) {w : Nat} (hw : w < tot p r) : r28 (c, (encR p r).take w) = some (zeroR, 5) := by
  have hlen := enc_len p r
  have htl := tot_le h p
  by_cases h0 : w = 0
  · subst h0
    rw [List.take_zero]
    unfold r28
    simp only [check_ok hc, Option.bind_some, clone_is (show ([] : List Int).length ≤ 140737488351232 by simp)]
    rfl
  · obtain ⟨f, h1, -⟩ := dec_gen hc h hp (ext := []) (fun x hx => by simp at hx) (by simp) (w := w) (by omega) (by simp [hlen]; omega)
    have hs : sta (encR p r ++ []) w (tot p r) = ([], 5) := by
      unfold sta
      rw [if_neg (by omega)]
    rw [hs, fin_bad, List.append_nil] at h1
    exact h1

theorem sameInts_is {l : List Int} (hl : l.length ≤ 1000) : r55 (l, l) = some true := by
  obtain ⟨q, h1, h2⟩ := loop_rule (body := r55_L0 (l, l)) (fun i => 0 ≤ i ∧ i ≤ l.length) (fun i => l.length - i.toNat) (fun q => q = .inl ()) (fun i hi => by
    obtain ⟨g0, g1⟩ := hi
    unfold r55_L0
    simp only
    by_cases hlt : i < l.length
    · obtain ⟨x, e1, -⟩ := idxI_is (xs := l) g0 hlt
      rw [decide_eq_true hlt, e1]
      simp only [cond_true, Option.bind_some, decide_true, Bool.not_true, cond_false]
      rw [wrap_i64 (n := i + 1) (by unfold i64; omega)]
      exact .inl ⟨i + 1, rfl, by omega, by omega⟩
    · exact .inr ⟨_, by rw [decide_eq_false hlt]; rfl, rfl⟩) 0 ⟨by omega, by omega⟩
  unfold r55
  simp only [decide_true, Bool.not_true, cond_false, h1, h2, Option.bind_some, Sum.elim_inl]

theorem sameRec_is {c : Cfg} {r : Rec} (h : RecOk c r) : r29 (r, r) = some true := by
  unfold r29
  simp [sameInts_is (l := r.2.2.2.2.2.2) (by have := h.sl; omega)]

theorem recordBack {a : Int × (List Int × (Raw × (Int × Int)))} (h1 : i64 a.1) (h2 : ∀ n ∈ a.2.1, i64 n) (hl : a.2.1.length ≤ 9223372036854775807) (hr : RawOk a.2.2.1) (h3 : 0 ≤ a.2.2.2.1) (h4 : a.2.2.2.1 < 256) (h5 : i64 a.2.2.2.2) : r6 a = some true := by
  obtain ⟨c, e1, hc⟩ := cfg_is (a := (a.1, a.2.1, 1)) h1 h2 hl (by unfold i64; simp only; omega)
  obtain ⟨r, e2, h⟩ := rec_is hc hr
  obtain ⟨p, hp, -⟩ := h.form
  have hlen := enc_len p r
  have htl := tot_le h p
  obtain ⟨w, e3, f3, g3⟩ := picked_is (n := a.2.2.2.2) (m := max ((encR p r).length : Int) 1) h5 (by omega)
  have hwl : w < tot p r := by rw [hlen] at g3; omega
  have ok : okB none (some w) none (encR p r).length = true := by
    simp only [okB, Bool.and_eq_true]
    exact ⟨decide_eq_true f3, decide_eq_true (by omega)⟩
  have hd : r28 (c, midL (encR p r) 0 (Int.toNat w)) = some (zeroR, 5) := by
    unfold midL
    rw [List.drop_zero]
    exact dec_torn hc h hp (by omega)
  unfold r6
  simp only [e1, e2, e3, Option.bind_some, enc_is hc h hp, dec_full hc h hp]
  rw [roomOk_true (by omega), roomOk_true (by omega), app_eq, dec_more hc h hp h3 h4, ok, hd]
  simp [sameRec_is h]

end Go.Hg
