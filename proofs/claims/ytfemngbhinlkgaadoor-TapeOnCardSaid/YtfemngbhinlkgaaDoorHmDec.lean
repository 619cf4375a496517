/- A record is read as it was written; torn, or with a byte more, it is none. -/
import Derived.Test.YtfemngbhinlkgaaDoorHmWireRec
namespace Go.Hm
open Go.RowKit Go.Proofs Go.V

theorem dec_loop {full : List Int} {w : Nat} (hb : Byt full) (hw : w ≤ full.length) {k x N a b d : Int} {e : Bool} : ∀ (m c : Nat) (l : List Int), l.length + m ≤ 500 →
    ∃ l', loopR r43_L0 ((), ((), ((m : Int), (sta full w c, (k, (x, (N, (a, (b, (d, (e, l))))))))))) = some ((), ((), (sta full w (c + m), (k, (x, (N, (a, (b, (d, (e, l')))))))))) ∧ (c + m ≤ w → l' = l ++ (full.drop c).take m)
  | 0, c, l, _ => by
    refine ⟨l, ?_, fun _ => by simp⟩
    rw [loopR_step]
    unfold r43_L0
    rfl
  | m + 1, c, l, hl => by
    by_cases hc : c ≤ w
    · have t1 : r56 (sta full w c, (1 : Int)) = some (tv full w c 1, sta full w (c + 1)) := take_sta (k := 1) (by omega) (by omega) hb hw
      obtain ⟨l', g1, g2⟩ := dec_loop hb hw (k := k) (x := x) (N := N) (a := a) (b := b) (d := d) (e := e) m (c + 1) (l ++ [tv full w c 1]) (by simp; omega)
      have hf : (sta full w c).2 = 0 := by unfold sta; rw [if_pos hc]
      refine ⟨l', ?_, fun h => ?_⟩
      · have hbody : r43_L0 ((), ((), (((m + 1 : Nat) : Int), (sta full w c, (k, (x, (N, (a, (b, (d, (e, l))))))))))) = some (.inl ((), ((), ((m : Int), (sta full w (c + 1), (k, (x, (N, (a, (b, (d, (e, l ++ [tv full w c 1])))))))))))) := by
          unfold r43_L0
          simp only [hf, t1]
          rw [decide_eq_true (by omega : (0 : Int) < ((m + 1 : Nat) : Int)), roomOk_true (by omega), wrap_i64 (n := ((m + 1 : Nat) : Int) - 1) (by unfold i64; omega), show ((m + 1 : Nat) : Int) - 1 = (m : Int) by omega]
          simp only [decide_true, cond_true, Option.bind_some, app_eq]
        rw [loopR_step, hbody, show c + (m + 1) = c + 1 + m by omega]
        exact g1
      · rw [g2 (by omega), List.append_assoc]
        congr 1
        have hcl : c < full.length := by omega
        have h1 : (full.drop c).take 1 = [full[c]] := by rw [List.drop_eq_getElem_cons hcl]; rfl
        have h2 : tv full w c 1 = full[c] := by
          unfold tv
          rw [if_pos (by omega), h1]
          simp [nval]
        rw [h2, List.drop_eq_getElem_cons hcl]
        rfl
    · have hs : ∀ c', c ≤ c' → sta full w c' = ([], 5) := fun c' h => by unfold sta; rw [if_neg (by omega)]
      refine ⟨l, ?_, fun h => by omega⟩
      rw [hs c (Nat.le_refl _), hs (c + (m + 1)) (by omega), loopR_step]
      have hbody : r43_L0 ((), ((), (((m + 1 : Nat) : Int), (([], 5), (k, (x, (N, (a, (b, (d, (e, l))))))))))) = some (.inr ((), ((), (([], 5), (k, (x, (N, (a, (b, (d, (e, l))))))))))) := by
        unfold r43_L0
        simp only
        rw [decide_eq_true (by omega : (0 : Int) < ((m + 1 : Nat) : Int))]
        rfl
      rw [hbody]
      rfl

theorem kindsR {c : Cfg} {r : Rec} (h : RecOk c r) : r.1 = 1 ∨ r.1 = 2 ∨ r.1 = 3 ∨ r.1 = 4 ∨ r.1 = 5 ∨ r.1 = 6 := by
  have k0 := h.k0
  have k1 := h.k1
  omega

abbrev RecF := Int × (Int × (Int × (Int × (Int × (Int × (Bool × List Int))))))

def flat (r : Rec) : RecF := (r.1, r.2.1.1, r.2.1.2, r.2.2)

theorem dec_gen {c : Cfg} (hc : CfgOk c) {r : Rec} (h : RecOk c r) {p : Parts} (hp : idxI tab0 r.1 = some p) {ext : List Int} (hx : Byt ext) (hl : ext.length ≤ 10) {w : Nat} (h1 : 1 ≤ w) (hw : w ≤ (encR p r ++ ext).length) :
    ∃ f : RecF, r43 (c, (encR p r ++ ext).take w) = finR c ((), ((), (sta (encR p r ++ ext) w (tot p r), f))) ∧ (tot p r ≤ w → f = flat r) := by
  have hlen := enc_len p r
  have htl := tot_le h p
  have hb : Byt (encR p r ++ ext) := byt_app (enc_byt hc h p) hx
  have hfl : (encR p r ++ ext).length ≤ 900 := by simp [hlen]; omega
  have k0 := h.k0
  have k1 := h.k1
  have hk : tv (encR p r ++ ext) w 0 1 = r.1 := tv1 rfl h1 (by omega) (by omega)
  obtain ⟨q, hq, z1, z2, z3, z4, z5⟩ := h.form
  rw [hp, Option.some.injEq] at hq
  subst hq
  have hk9 := kindsR h
  have hs1 := hc.s1
  have hlb := sites_byt hc h
  obtain ⟨-, -, x0, x1, n0, n1, y0, y1, v0, v1, a0, a1, -, -, sl, -⟩ := h
  obtain ⟨k, ⟨s, n⟩, ke, va, ak, ye, l⟩ := r
  simp only at hk hp x0 x1 n0 n1 y0 y1 v0 v1 a0 a1 z1 z2 z3 z4 z5 hk9 sl hlb k0 k1 ⊢
  generalize hfull : encR p (k, (s, n), ke, va, ak, ye, l) ++ ext = full at *
  have t1 : ∀ c, r56 (sta full w c, (1 : Int)) = some (tv full w c 1, sta full w (c + 1)) := fun c => take_sta (k := 1) (by omega) (by omega) hb hw
  have t3 : ∀ c, r56 (sta full w c, (3 : Int)) = some (tv full w c 3, sta full w (c + 3)) := fun c => take_sta (k := 3) (by omega) (by omega) hb hw
  have t4 : ∀ c, r56 (sta full w c, (4 : Int)) = some (tv full w c 4, sta full w (c + 4)) := fun c => take_sta (k := 4) (by omega) (by omega) hb hw
  have tx : ∀ c, r55 (sta full w c) = some ((tv full w c 1, tv full w (c + 1) 3), sta full w (c + 4)) := fun c => by
    unfold r55
    simp only [t1, t3, Option.bind_some]
  have tk := kind_sta hb hw h1 (by omega) (by omega)
  rw [hk] at tk
  have h0 : (full.take w, (0 : Int)) = sta full w 0 := by unfold sta; rw [if_pos (Nat.zero_le _), List.drop_zero]
  have hle : ∀ v, bitN v ≤ 1 := fun v => by cases v <;> decide
  have hge : ∀ v, 0 ≤ bitN v := fun v => by cases v <;> decide
  unfold r43
  simp only [check_ok hc, Option.bind_some, clone_is (show (full.take w).length ≤ 140737488351232 by simp; omega)]
  rw [h0, tk]
  simp only [Option.bind_some, hp, tx, Nat.reduceAdd]
  rw [bif_f (by rfl)]
  clear h0 tk tx hk k0 k1
  rcases hk9 with rfl | rfl | rfl | rfl | rfl | rfl
  all_goals
    have hp := Option.some.inj hp
    subst hp
    subst hfull
  · refine ⟨(1, tv _ w 1 1, tv _ w 2 3, tv _ w 5 1, tv _ w 6 4, tv _ w 10 3, false, []), by simp only [cond_true, cond_false, t1, t3, t4, Option.bind_some, Nat.reduceAdd]; rfl, fun ht => ?_⟩
    have ht : 13 ≤ w := ht
    refine Prod.ext rfl (Prod.ext (tv1 (n := s) rfl (by omega) x0 (by omega)) (Prod.ext (tv3 (n := n) rfl (by omega) (by omega) (by omega)) (Prod.ext (tv1 (n := ke) rfl (by omega) y0 (by omega)) (Prod.ext (tv4 (n := va) rfl (by omega) v0 (by omega)) (Prod.ext (tv3 (n := ak) rfl (by omega) a0 (by omega)) (Prod.ext (z4 rfl).symm (z5 rfl).symm))))))
  · have tb : r57 (sta (encR (false, false, false, false, false, true, false, false) (2, (s, n), ke, va, ak, ye, l) ++ ext) w 5) = some (decide (tv (encR (false, false, false, false, false, true, false, false) (2, (s, n), ke, va, ak, ye, l) ++ ext) w 5 1 = 1), sta (encR (false, false, false, false, false, true, false, false) (2, (s, n), ke, va, ak, ye, l) ++ ext) w 6) :=
      bit_sta hb hw (Int.le_trans (tv_le (n := bitN ye) rfl (.inl rfl) (hge ye) (by rw [show (256 : Int) ^ 1 = 256 by decide]; have := hle ye; omega)) (hle ye))
    refine ⟨(2, tv _ w 1 1, tv _ w 2 3, 0, 0, 0, decide (tv _ w 5 1 = 1), []), by simp only [cond_true, cond_false, tb, Option.bind_some]; rfl, fun ht => ?_⟩
    have ht : 6 ≤ w := ht
    refine Prod.ext rfl (Prod.ext (tv1 (n := s) rfl (by omega) x0 (by omega)) (Prod.ext (tv3 (n := n) rfl (by omega) (by omega) (by omega)) (Prod.ext (z1 rfl).symm (Prod.ext (z2 rfl).symm (Prod.ext (z3 rfl).symm (Prod.ext (tvB (v := ye) rfl (by omega)) (z5 rfl).symm))))))
  · have hlp : ∃ l', loopR r43_L0 ((), ((), (tv (encR (false, false, false, false, false, false, false, true) (3, (s, n), ke, va, ak, ye, l) ++ ext) w 5 1, (sta (encR (false, false, false, false, false, false, false, true) (3, (s, n), ke, va, ak, ye, l) ++ ext) w 6, ((3 : Int), (tv (encR (false, false, false, false, false, false, false, true) (3, (s, n), ke, va, ak, ye, l) ++ ext) w 1 1, (tv (encR (false, false, false, false, false, false, false, true) (3, (s, n), ke, va, ak, ye, l) ++ ext) w 2 3, ((0 : Int), ((0 : Int), ((0 : Int), (false, []))))))))))) =
        some ((), ((), (sta (encR (false, false, false, false, false, false, false, true) (3, (s, n), ke, va, ak, ye, l) ++ ext) w (6 + l.length), ((3 : Int), (tv (encR (false, false, false, false, false, false, false, true) (3, (s, n), ke, va, ak, ye, l) ++ ext) w 1 1, (tv (encR (false, false, false, false, false, false, false, true) (3, (s, n), ke, va, ak, ye, l) ++ ext) w 2 3, ((0 : Int), ((0 : Int), ((0 : Int), (false, l')))))))))) ∧ (6 + l.length ≤ w → l' = l) := by
      by_cases h6 : 6 ≤ w
      · rw [tv1 (n := (l.length : Int)) rfl (by omega) (by omega) (by omega)]
        obtain ⟨l', g1, g2⟩ := dec_loop hb hw (k := 3) (x := tv (encR (false, false, false, false, false, false, false, true) (3, (s, n), ke, va, ak, ye, l) ++ ext) w 1 1) (N := tv (encR (false, false, false, false, false, false, false, true) (3, (s, n), ke, va, ak, ye, l) ++ ext) w 2 3) (a := 0) (b := 0) (d := 0) (e := false) l.length 6 [] (by simp; omega)
        refine ⟨l', g1, fun hh => ?_⟩
        rw [g2 hh, List.nil_append]
        have hd : (encR (false, false, false, false, false, false, false, true) (3, (s, n), ke, va, ak, ye, l) ++ ext).drop 6 = l ++ ext := rfl
        rw [hd, List.take_left]
      · have h0 : tv (encR (false, false, false, false, false, false, false, true) (3, (s, n), ke, va, ak, ye, l) ++ ext) w 5 1 = 0 := by unfold tv; rw [if_neg (by omega)]
        rw [h0]
        obtain ⟨l', g1, -⟩ := dec_loop hb hw (k := 3) (x := tv (encR (false, false, false, false, false, false, false, true) (3, (s, n), ke, va, ak, ye, l) ++ ext) w 1 1) (N := tv (encR (false, false, false, false, false, false, false, true) (3, (s, n), ke, va, ak, ye, l) ++ ext) w 2 3) (a := 0) (b := 0) (d := 0) (e := false) 0 6 [] (by simp)
        refine ⟨l', ?_, fun hh => by omega⟩
        have hs : ∀ c', 6 ≤ c' → sta (encR (false, false, false, false, false, false, false, true) (3, (s, n), ke, va, ak, ye, l) ++ ext) w c' = ([], 5) := fun c' hh => by unfold sta; rw [if_neg (by omega)]
        rw [hs (6 + l.length) (by omega), ← hs (6 + 0) (by omega)]
        exact g1
    obtain ⟨l', g1, g2⟩ := hlp
    refine ⟨(3, tv (encR (false, false, false, false, false, false, false, true) (3, (s, n), ke, va, ak, ye, l) ++ ext) w 1 1, tv (encR (false, false, false, false, false, false, false, true) (3, (s, n), ke, va, ak, ye, l) ++ ext) w 2 3, 0, 0, 0, false, l'), ?_, fun ht => ?_⟩
    · simp only [cond_true, cond_false, t1, Option.bind_some, Nat.reduceAdd]
      rw [g1]
      have htt : tot (false, false, false, false, false, false, false, true) (3, (s, n), ke, va, ak, ye, l) = 6 + l.length := by simp [tot, on]; omega
      rw [htt]
      rfl
    · have htt : tot (false, false, false, false, false, false, false, true) (3, (s, n), ke, va, ak, ye, l) = 6 + l.length := by simp [tot, on]; omega
      rw [htt] at ht
      rw [g2 ht]
      refine Prod.ext rfl (Prod.ext (tv1 (n := s) rfl (by omega) x0 (by omega)) (Prod.ext (tv3 (n := n) rfl (by omega) (by omega) (by omega)) (Prod.ext (z1 rfl).symm (Prod.ext (z2 rfl).symm (Prod.ext (z3 rfl).symm (Prod.ext (z4 rfl).symm rfl))))))
  · refine ⟨(4, tv _ w 1 1, tv _ w 2 3, 0, 0, 0, false, []), by simp only [cond_false, Option.bind_some]; rfl, fun ht => ?_⟩
    have ht : 5 ≤ w := ht
    refine Prod.ext rfl (Prod.ext (tv1 (n := s) rfl (by omega) x0 (by omega)) (Prod.ext (tv3 (n := n) rfl (by omega) (by omega) (by omega)) (Prod.ext (z1 rfl).symm (Prod.ext (z2 rfl).symm (Prod.ext (z3 rfl).symm (Prod.ext (z4 rfl).symm (z5 rfl).symm))))))
  · refine ⟨(5, tv _ w 1 1, tv _ w 2 3, 0, 0, 0, false, []), by simp only [cond_false, Option.bind_some]; rfl, fun ht => ?_⟩
    have ht : 5 ≤ w := ht
    refine Prod.ext rfl (Prod.ext (tv1 (n := s) rfl (by omega) x0 (by omega)) (Prod.ext (tv3 (n := n) rfl (by omega) (by omega) (by omega)) (Prod.ext (z1 rfl).symm (Prod.ext (z2 rfl).symm (Prod.ext (z3 rfl).symm (Prod.ext (z4 rfl).symm (z5 rfl).symm))))))
  · have tb : r57 (sta (encR (false, false, false, false, false, true, false, false) (6, (s, n), ke, va, ak, ye, l) ++ ext) w 5) = some (decide (tv (encR (false, false, false, false, false, true, false, false) (6, (s, n), ke, va, ak, ye, l) ++ ext) w 5 1 = 1), sta (encR (false, false, false, false, false, true, false, false) (6, (s, n), ke, va, ak, ye, l) ++ ext) w 6) :=
      bit_sta hb hw (Int.le_trans (tv_le (n := bitN ye) rfl (.inl rfl) (hge ye) (by rw [show (256 : Int) ^ 1 = 256 by decide]; have := hle ye; omega)) (hle ye))
    refine ⟨(6, tv _ w 1 1, tv _ w 2 3, 0, 0, 0, decide (tv _ w 5 1 = 1), []), by simp only [cond_true, cond_false, tb, Option.bind_some]; rfl, fun ht => ?_⟩
    have ht : 6 ≤ w := ht
    refine Prod.ext rfl (Prod.ext (tv1 (n := s) rfl (by omega) x0 (by omega)) (Prod.ext (tv3 (n := n) rfl (by omega) (by omega) (by omega)) (Prod.ext (z1 rfl).symm (Prod.ext (z2 rfl).symm (Prod.ext (z3 rfl).symm (Prod.ext (tvB (v := ye) rfl (by omega)) (z5 rfl).symm))))))

end Go.Hm
