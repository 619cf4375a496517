/- What is taken is gone, and was there. -/
import Derived.Test.YtfemngbhinlkgaaDoorHnTake
namespace Go.Hn
open Go.RowKit Go.Proofs Go.V

theorem total_put : ∀ {f : Fly} {i : Nat} {l l' : List Msg}, f[i]? = some l → total (f.set i l') + l.length = total f + l'.length
  | [], i, l, l', h => by simp at h
  | x :: f, 0, l, l', h => by
    simp only [List.getElem?_cons_zero, Option.some.injEq] at h
    subst h
    simp only [List.set_cons_zero, total]; omega
  | x :: f, i + 1, l, l', h => by
    have := total_put (f := f) (i := i) (l := l) (l' := l') (by simpa using h)
    simp only [List.set_cons_succ, total]; omega

theorem put_ok {c : Cfg} {fly : Fly} (h : FlyOk c fly) {i : Nat} {l l' : List Msg} (hl : fly[i]? = some l) (h30 : l'.length ≤ 30) (hs : ∀ m ∈ l', m ∈ l) : FlyOk c (fly.set i l') := by
  refine ⟨by rw [List.length_set]; exact h.len, fun x hx => ?_, fun j x hx m hm => ?_⟩
  · rcases List.mem_or_eq_of_mem_set hx with e | e
    · exact h.each _ e
    · rw [e]; exact h30
  · rw [List.getElem?_set] at hx
    split at hx
    · rename_i hi
      split at hx
      · simp only [Option.some.injEq] at hx
        subst hx
        rw [← hi]
        exact h.pos _ _ hl m (hs m hm)
      · cases hx
    · exact h.pos _ _ hx m hm

theorem takeOne {a : Int × (List Int × (List Raw × (Int × Int)))} (h1 : i64 a.1) (h2 : ∀ n ∈ a.2.1, i64 n) (hl : a.2.1.length ≤ 9223372036854775807) (hr : ∀ b ∈ a.2.2.1, RawOk b) (hl2 : a.2.2.1.length ≤ 9223372036854775807) (h3 : i64 a.2.2.2.1) (h4 : i64 a.2.2.2.2) :
    r5 a = some true := by
  obtain ⟨c, e1, hc⟩ := cfg_is (a := (a.1, a.2.1, 1)) h1 h2 hl (by unfold i64; simp only; omega)
  obtain ⟨ms, e2, e3, e4⟩ := messages_is hc hr hl2 (most := 20) (by omega) (by omega)
  obtain ⟨e5, hf0⟩ := empty_is hc
  obtain ⟨e6, hf⟩ := netSend_is hc hf0 (ms := ms) (by omega) e4
  obtain ⟨s1, s2⟩ := sent_is hc ms.length ms rfl (by omega) e4
  have hsq := sq_is hc
  have hlen := hf.len
  unfold fly0 at s1 s2
  generalize hF : ms.foldl (send1 c) (List.replicate (c.1 * c.1).toNat []) = F at *
  unfold r5
  simp only [e1, e2, e5, e6, Option.bind_some, decide_true, Bool.not_true, Bool.not_false, cond_true, cond_false, hsq.1, hlen]
  cases ms with
  | nil =>
    have hx : Go.IntKind.wrap .i64 (Go.IntKind.wrap .i64 ((0 : Int) * c.1) + 0) = ((0 : Nat) : Int) := by rw [Int.zero_mul]; decide
    have hs0 := hc.s0
    obtain ⟨w1, -⟩ := take_is hc hf (p := 0) (kind := 3) (fr := 0) (to := 0) (by omega) (by omega) (by omega) (by omega) (.inr (.inl rfl)) hx (s1 0 (by omega))
    have := w1 rfl
    rw [show ((0 : Nat) : Int) = (0 : Int) from rfl] at this
    simp only [List.length_nil, Int.natCast_zero, decide_true, cond_true, this, Option.bind_some]
  | cons m0 ms' =>
    have hne : ¬ (((m0 :: ms').length : Nat) : Int) = 0 := by simp only [List.length_cons]; omega
    have hin0 : inB (0 : Int) (m0 :: ms').length = true := inB_true (by omega) (by simp only [List.length_cons]; omega)
    have hid0 : idxN (m0 :: ms') 0 = some m0 := rfl
    have hm0 := e4 m0 List.mem_cons_self
    obtain ⟨x0, x1, x2, -⟩ := ixM_is hc hm0
    obtain ⟨i, hi⟩ := Int.eq_ofNat_of_zero_le x0
    rw [hi] at x1 x2
    have hat := s1 i x1
    obtain ⟨w, f1, f2, f3⟩ := picked_is (m := 3) h4 (by omega)
    obtain ⟨p0, g1, g2, g3⟩ := picked_is (m := 50) h3 (by omega)
    obtain ⟨p, rfl⟩ := Int.eq_ofNat_of_zero_le g2
    have hw : Go.IntKind.wrap .i64 (2 + w) = 2 + w := wrap_i64 (by unfold i64; omega)
    generalize hL : (m0 :: ms').filter (fun m => decide (ixM c m = i)) = l at *
    have hml : m0 ∈ l := by
      rw [← hL, List.mem_filter]
      exact ⟨List.mem_cons_self, by rw [decide_eq_true_eq]; exact hi⟩
    have hll : l.length ≤ (m0 :: ms').length := by rw [← hL]; exact List.length_filter_le _ _
    have hl0 : 0 < l.length := List.length_pos_of_mem hml
    have hk := Nat.mod_lt p hl0
    obtain ⟨m, hm⟩ : ∃ m, l[p % l.length]? = some m := ⟨_, List.getElem?_eq_getElem hk⟩
    have hmm : m ∈ l := List.mem_of_getElem? hm
    obtain ⟨-, w2⟩ := take_is hc hf (p := p) (kind := 2 + w) hm0.f0 hm0.f1 hm0.t0 hm0.t1 (by omega) x2 hat
    have ht := w2 m hm
    have hlF : i < F.length := (List.getElem?_eq_some_iff.mp hat).1
    have hinF : inB (i : Int) F.length = true := inB_true (by omega) (by omega)
    have hidF : idxN F i = some l := hat
    have hnl : ¬ (l.length : Int) = 0 := by omega
    have hmod : Int.tmod (p : Int) (l.length : Int) = ((p % l.length : Nat) : Int) := by
      rw [Int.tmod_eq_emod_of_nonneg (by omega)]; rfl
    have hin2 : inB ((p % l.length : Nat) : Int) l.length = true := inB_true (by omega) (by omega)
    have hid2 : idxN l (p % l.length) = some m := hm
    have h30 : ¬ l.length = 30 := by omega
    simp only [h30, if_false] at ht
    simp only [decide_eq_false hne, cond_false, hin0, hid0, cond_true, Option.bind_some, f1, g1, hw, ht, x2]
    by_cases hk4 : 2 + w = 4
    · have hok := put_ok (l' := l ++ [m]) hf hat (by simp; omega) (fun x hx => by
        rcases List.mem_append.1 hx with e | e
        · exact e
        · simp only [List.mem_singleton] at e; rw [e]; exact hmm)
      have htot := total_put (l' := l ++ [m]) hat
      have hcnt := count_is hc hok
      have hsum : (total (F.set i (l ++ [m])) : Int) = Go.IntKind.wrap .i64 (((m0 :: ms').length : Int) + 1) := by
        rw [wrap_i64 (by unfold i64; omega)]
        simp only [List.length_append, List.length_singleton] at htot
        omega
      have hin3 : inB (i : Int) (F.set i (l ++ [m])).length = true := by rw [List.length_set]; exact hinF
      have hid3 : idxN (F.set i (l ++ [m])) i = some (l ++ [m]) := by
        show (F.set i (l ++ [m]))[i]? = _
        rw [List.getElem?_set, if_pos rfl, if_pos hlF]
      have hin4 : inB (l.length : Int) (l ++ [m]).length = true := inB_true (by omega) (by rw [List.length_append, List.length_singleton]; omega)
      have hid4 : idxN (l ++ [m]) l.length = some m := by
        show (l ++ [m])[l.length]? = _
        rw [List.getElem?_append_right (Nat.le_refl _), Nat.sub_self]; rfl
      simp only [hk4, if_true, decide_true, Bool.not_true, Bool.not_false, cond_true, cond_false, Option.bind_some, hinF, Int.toNat_natCast, hidF, decide_eq_false hnl, hmod, hin2, hid2, Bool.and_self, hcnt, hsum, hin3, hid3, hin4, hid4]
    · have hok := put_ok (l' := l.take (p % l.length) ++ l.drop (p % l.length + 1)) hf hat (by simp; omega) (fun x hx => by
        rcases List.mem_append.1 hx with e | e
        · exact List.mem_of_mem_take e
        · exact List.mem_of_mem_drop e)
      have htot := total_put (l' := l.take (p % l.length) ++ l.drop (p % l.length + 1)) hat
      have hcnt := count_is hc hok
      have hsum : (total (F.set i (l.take (p % l.length) ++ l.drop (p % l.length + 1))) : Int) = Go.IntKind.wrap .i64 (((m0 :: ms').length : Int) - 1) := by
        rw [wrap_i64 (by unfold i64; omega)]
        simp only [List.length_append, List.length_take, List.length_drop] at htot
        omega
      simp only [hk4, if_false, decide_false, decide_true, Bool.not_true, Bool.not_false, cond_true, cond_false, Option.bind_some, hinF, Int.toNat_natCast, hidF, decide_eq_false hnl, hmod, hin2, hid2, Bool.and_self, hcnt, hsum]

end Go.Hn
