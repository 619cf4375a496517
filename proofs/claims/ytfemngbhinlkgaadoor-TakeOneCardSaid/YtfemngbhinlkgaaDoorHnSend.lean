/- What is sent is on its way. -/
import Derived.Test.YtfemngbhinlkgaaDoorHnNet
namespace Go.Hn
open Go.RowKit Go.Proofs Go.V

def fly0 (c : Cfg) : Fly := List.replicate (c.1 * c.1).toNat []

theorem total_set : ∀ {f : Fly} {i : Nat} {l : List Msg} {m : Msg}, f[i]? = some l → total (f.set i (l ++ [m])) = total f + 1
  | [], i, l, m, h => by simp at h
  | x :: f, 0, l, m, h => by
    simp only [List.getElem?_cons_zero, Option.some.injEq] at h
    subst h
    simp only [List.set_cons_zero, total, List.length_append, List.length_singleton]; omega
  | x :: f, i + 1, l, m, h => by
    have := total_set (f := f) (i := i) (l := l) (m := m) (by simpa using h)
    simp only [List.set_cons_succ, total, this]; omega

theorem total_none : ∀ (n : Nat), total (List.replicate n []) = 0
  | 0 => rfl
  | n + 1 => by simp only [List.replicate_succ, total, total_none n, List.length_nil]

theorem send1_at {c : Cfg} {f : Fly} {m : Msg} {l : List Msg} (h : f[(ixM c m).toNat]? = some l) (hl : l.length < 30) : send1 c f m = f.set (ixM c m).toNat (l ++ [m]) := by
  unfold send1
  rw [h]
  simp only [hl, if_true]

theorem sent_is {c : Cfg} (hc : CfgOk c) : ∀ (n : Nat) (ms : List Msg), ms.length = n → n ≤ 29 → (∀ m ∈ ms, MsgOk c m) →
    (∀ i : Nat, (i : Int) < c.1 * c.1 → (ms.foldl (send1 c) (fly0 c))[i]? = some (ms.filter fun m => decide (ixM c m = i))) ∧ total (ms.foldl (send1 c) (fly0 c)) = ms.length
  | 0, ms, hl, _, _ => by
    have : ms = [] := by simpa using hl
    subst this
    refine ⟨fun i hi => ?_, ?_⟩
    · show (fly0 c)[i]? = _
      unfold fly0
      rw [List.getElem?_replicate, if_pos (by omega)]; rfl
    · exact total_none _
  | n + 1, ms, hl, hn, hm => by
    obtain ⟨ms', m, rfl⟩ : ∃ ms' m, ms = ms' ++ [m] := by
      have hne : ms ≠ [] := fun e => by rw [e] at hl; simp at hl
      exact ⟨ms.dropLast, ms.getLast hne, (List.dropLast_concat_getLast hne).symm⟩
    have hl' : ms'.length = n := by simpa using hl
    obtain ⟨h1, h2⟩ := sent_is hc n ms' hl' (by omega) (fun x hx => hm x (List.mem_append_left _ hx))
    have hmm := hm m (List.mem_append_right _ List.mem_cons_self)
    obtain ⟨x0, x1, -⟩ := ixM_is hc hmm
    have hat := h1 (ixM c m).toNat (by omega)
    have hfl : (ms'.filter fun x => decide (ixM c x = ((ixM c m).toNat : Int))).length < 30 := by
      have := List.length_filter_le (fun x => decide (ixM c x = ((ixM c m).toNat : Int))) ms'
      omega
    have hs : (ms' ++ [m]).foldl (send1 c) (fly0 c) = (ms'.foldl (send1 c) (fly0 c)).set (ixM c m).toNat ((ms'.filter fun x => decide (ixM c x = ((ixM c m).toNat : Int))) ++ [m]) := by
      rw [List.foldl_append]
      exact send1_at hat hfl
    rw [hs]
    refine ⟨fun i hi => ?_, by rw [total_set hat, h2]; simp⟩
    rw [List.getElem?_set, List.filter_append]
    by_cases e : (ixM c m).toNat = i
    · subst e
      have hlt : (ixM c m).toNat < (ms'.foldl (send1 c) (fly0 c)).length := (List.getElem?_eq_some_iff.mp hat).1
      rw [if_pos rfl, if_pos hlt]
      congr 1
      rw [List.filter_cons_of_pos (by rw [decide_eq_true_eq]; omega)]; rfl
    · rw [if_neg e, h1 i hi, List.filter_cons_of_neg (by rw [decide_eq_true_eq]; omega)]
      simp

theorem filter_at {p : Msg → Bool} {ms : List Msg} {j : Nat} {m : Msg} (h : ms[j]? = some m) (hp : p m = true) : (ms.filter p)[((ms.take j).filter p).length]? = some m := by
  have hlt := (List.getElem?_eq_some_iff.mp h).1
  have e : ms = ms.take j ++ m :: ms.drop (j + 1) := by
    rw [← (List.getElem?_eq_some_iff.mp h).2, List.getElem_cons_drop, List.take_append_drop]
  have e2 : ms.filter p = (ms.take j).filter p ++ m :: (ms.drop (j + 1)).filter p := by
    conv => lhs; rw [e]
    rw [List.filter_append, List.filter_cons_of_pos hp]
  rw [e2, List.getElem?_append_right (Nat.le_refl _), Nat.sub_self]; rfl

theorem wayL_is {c : Cfg} (hc : CfgOk c) {ms : List Msg} (hl : ms.length ≤ 1000) (hm : ∀ m ∈ ms, MsgOk c m) {fly : Fly} {i : Nat} (hi : fly[i]? = some (ms.filter fun m => decide (ixM c m = i))) (e : Int) :
    loopR (r3_L0 ms c (i : Int) (fly, e)) ((0 : Int), (0 : Int)) = some (.inl ()) := by
  obtain ⟨r, h1, h2⟩ := loop_rule (body := r3_L0 ms c (i : Int) (fly, e)) (fun d => 0 ≤ d.2 ∧ d.2 ≤ ms.length ∧ d.1 = (((ms.take d.2.toNat).filter fun m => decide (ixM c m = i)).length : Int)) (fun d => ms.length - d.2.toNat) (fun r => r = .inl ()) (fun d hd => by
    obtain ⟨k, j⟩ := d
    obtain ⟨d0, d1, d2⟩ := hd
    simp only at d0 d1 d2
    unfold r3_L0
    by_cases g : j < ms.length
    · obtain ⟨m, e1, e2⟩ := idxN_is (xs := ms) (n := j.toNat) (by omega)
      have hmm := hm m (List.mem_of_getElem? e2)
      obtain ⟨x0, x1, x2, -⟩ := ixM_is hc hmm
      have hw : Go.IntKind.wrap .i64 (j + 1) = j + 1 := wrap_i64 (by unfold i64; omega)
      have htk : ms.take (j + 1).toNat = ms.take j.toNat ++ [m] := by rw [show (j + 1).toNat = j.toNat + 1 by omega, List.take_add_one, e2]; rfl
      simp only [decide_eq_true g, cond_true, inB_true d0 g, e1, Option.bind_some, x2]
      by_cases hx : ixM c m = i
      · have hat := filter_at (p := fun m => decide (ixM c m = i)) e2 (by rw [decide_eq_true_eq]; exact hx)
        have hkl : ((ms.take j.toNat).filter fun m => decide (ixM c m = i)).length < (ms.filter fun m => decide (ixM c m = i)).length := (List.getElem?_eq_some_iff.mp hat).1
        have hle : (ms.filter fun m => decide (ixM c m = i)).length ≤ ms.length := List.length_filter_le _ _
        have hkw : Go.IntKind.wrap .i64 (k + 1) = k + 1 := wrap_i64 (by unfold i64; omega)
        have f1 : idxN fly i = some (ms.filter fun m => decide (ixM c m = i)) := hi
        have f2 : idxN (ms.filter fun m => decide (ixM c m = i)) k.toNat = some m := by rw [d2, Int.toNat_natCast]; exact hat
        simp only [decide_eq_true hx, cond_true, Int.toNat_natCast, f1, Option.bind_some, inB_true (show 0 ≤ k by omega) (show k < ((ms.filter fun m => decide (ixM c m = i)).length : Int) by omega), f2, decide_true, Bool.and_self, Bool.not_true, cond_false, Sum.elim_inl, hkw, hw]
        refine .inl ⟨_, rfl, ⟨by simp only; omega, by simp only; omega, ?_⟩, by simp only; omega⟩
        simp only
        rw [htk, List.filter_append, List.filter_cons_of_pos (by rw [decide_eq_true_eq]; exact hx), List.length_append]
        simp [d2]
      · simp only [decide_eq_false hx, cond_false, Option.bind_some, Sum.elim_inl, hw]
        refine .inl ⟨_, rfl, ⟨by simp only; omega, by simp only; omega, ?_⟩, by simp only; omega⟩
        simp only
        rw [htk, List.filter_append, List.filter_cons_of_neg (by rw [decide_eq_true_eq]; exact hx)]
        simp [d2]
    · simp only [decide_eq_false g, cond_false]
      exact .inr ⟨_, rfl, rfl⟩) (0, 0) (by simp)
  rw [h1, h2]

theorem sendAll {a : Int × (List Int × List Raw)} (h1 : i64 a.1) (h2 : ∀ n ∈ a.2.1, i64 n) (hl : a.2.1.length ≤ 9223372036854775807) (hr : ∀ b ∈ a.2.2, RawOk b) (hl2 : a.2.2.length ≤ 9223372036854775807) : r3 a = some true := by
  obtain ⟨c, e1, hc⟩ := cfg_is (a := (a.1, a.2.1, 1)) h1 h2 hl (by unfold i64; simp only; omega)
  obtain ⟨ms, e2, e3, e4⟩ := messages_is hc hr hl2 (most := 25) (by omega) (by omega)
  obtain ⟨e5, hf0⟩ := empty_is hc
  obtain ⟨e6, hf⟩ := netSend_is hc hf0 (ms := ms) (by omega) e4
  obtain ⟨s1, s2⟩ := sent_is hc ms.length ms rfl (by omega) e4
  have hsq := sq_is hc
  have hlen := hf.len
  unfold fly0 at s1 s2
  generalize hF : ms.foldl (send1 c) (List.replicate (c.1 * c.1).toNat []) = F at *
  obtain ⟨r, k1, k2⟩ := loop_rule (body := r3_L1 (F, 0) ms c) (fun j => 0 ≤ j ∧ j ≤ F.length) (fun j => F.length - j.toNat) (fun r => r = .inl ()) (fun j hj => by
    unfold r3_L1
    by_cases g : j < F.length
    · obtain ⟨i, rfl⟩ := Int.eq_ofNat_of_zero_le hj.1
      have hi := s1 i (by omega)
      have hi' : idxN F (i : Int).toNat = some (ms.filter fun m => decide (ixM c m = i)) := hi
      have hw : Go.IntKind.wrap .i64 ((i : Int) + 1) = i + 1 := wrap_i64 (by unfold i64; omega)
      simp only [decide_eq_true g, cond_true, inB_true hj.1 g, hi', Option.bind_some, wayL_is hc (by omega) e4 hi, Sum.elim_inl, hw]
      exact .inl ⟨_, rfl, ⟨by omega, by omega⟩, by omega⟩
    · simp only [decide_eq_false g, cond_false]
      exact .inr ⟨_, rfl, rfl⟩) 0 (by simp)
  unfold r3
  simp only [e1, e2, e5, e6, Option.bind_some, decide_true, Bool.not_true, Bool.not_false, cond_true, hsq.1, hlen, count_is hc hf, s2, netCheck_is hc hf, cond_false, k1, k2, Sum.elim_inl]

end Go.Hn
