/- No record has two forms. -/
import Derived.Test.YtohfplomliampaaDoorHgLaws
namespace Go.Hg
open Go.RowKit Go.Proofs Go.V

theorem be_nval : ∀ (k : Nat) {l : List Int}, l.length = k → Byt l → be k (nval l) = l
  | 0, l, hl, _ => by
    have : l = [] := List.length_eq_zero_iff.mp hl
    subst this; rfl
  | k + 1, l, hl, hb => by
    have key : ∀ (n : Nat) (l : List Int) (a : Int), l.length = n → Byt l → be n (l.foldl (fun a x => a * 256 + x) a) = l ∧ (l.foldl (fun a x => a * 256 + x) a) / 256 ^ n = a := by
      intro n
      induction n with
      | zero =>
        intro l a hl _
        have : l = [] := List.length_eq_zero_iff.mp hl
        subst this
        exact ⟨rfl, by simp⟩
      | succ n ih =>
        intro l a hl hb
        cases l with
        | nil => simp at hl
        | cons x l =>
          have hx := hb x List.mem_cons_self
          obtain ⟨h1, h2⟩ := ih l (a * 256 + x) (by simpa using hl) (fun y hy => hb y (List.mem_cons_of_mem _ hy))
          simp only [List.foldl_cons]
          refine ⟨?_, ?_⟩
          · simp only [be]
            rw [h1, h2]
            congr 1
            omega
          · rw [Int.pow_succ, ← Int.ediv_ediv_of_nonneg (Int.pow_nonneg (by decide)), h2]
            omega
    exact (key (k + 1) l 0 hl hb).1

theorem be_tv {b : List Int} (hb : Byt b) {c k : Nat} (h : c + k ≤ b.length) : be k (tv b b.length c k) = (b.drop c).take k := by
  unfold tv
  rw [if_pos h]
  exact be_nval k (by simp; omega) (fun x hx => hb x (List.mem_of_mem_drop (List.mem_of_mem_take hx)))

theorem take_tele (b : List Int) (c k : Nat) : (b.drop c).take k ++ b.drop (c + k) = b.drop c := by
  rw [← List.drop_drop, List.take_append_drop]

theorem fin_fault {c : Cfg} {f : RecF} {l : List Int} {e : Int} (he : e ≠ 0) : finR c ((), ((), ((l, e), f))) = some (zeroR, e) := by
  unfold finR
  have : r54 (l, e) = some (l, e) := by
    unfold r54
    simp only
    rw [decide_eq_false he]
    rfl
  rw [this]
  simp only [Option.bind_some]
  rw [decide_eq_false he]
  simp only [cond_false, Option.bind_some]
  rw [decide_eq_false he]
  rfl

theorem fin_rest {c : Cfg} {f : RecF} {l : List Int} (hl : l ≠ []) : finR c ((), ((), ((l, 0), f))) = some (zeroR, 4) := by
  unfold finR
  have : r54 (l, 0) = some (l, 4) := by
    unfold r54
    have : (0 : Int) < (l.length : Int) := by
      have := List.length_pos_iff.2 hl
      omega
    simp only [decide_true, cond_true, Option.bind_some]
    rw [decide_eq_true this]
    rfl
  rw [this]
  rfl

theorem fin_check {c : Cfg} {f : RecF} {e : Int} (h : r43 (c, (f.1, (f.2.1, f.2.2.1), f.2.2.2)) = some e) (he : e ≠ 0) : finR c ((), ((), (([], 0), f))) = some (zeroR, e) := by
  unfold finR
  have : r54 ([], 0) = some ([], 0) := by unfold r54; rfl
  rw [this]
  simp only [Option.bind_some, decide_true, cond_true, h]
  rw [decide_eq_false he]
  rfl

/-- A fault that is there stays. -/
theorem take_fault {rest : List Int} {f : Int} {k : Nat} (hk : k ≤ 4) (hb : Byt rest) (hf : f ≠ 0) : ∃ v rest', r52 ((rest, f), (k : Int)) = some (v, (rest', f)) ∧ Byt rest' := by
  unfold r52
  simp only
  by_cases h : rest.length < k
  · refine ⟨0, [], ?_, fun x hx => by simp at hx⟩
    rw [decide_eq_true (by omega : (rest.length : Int) < (k : Int)), decide_eq_false hf]
    rfl
  · refine ⟨nval (rest.take k), rest.drop k, ?_, fun x hx => hb x (List.mem_of_mem_drop hx)⟩
    rw [decide_eq_false (by omega : ¬ (rest.length : Int) < (k : Int))]
    have ok1 : okB none (some (k : Int)) none rest.length = true := by
      simp only [okB, Bool.and_eq_true]
      exact ⟨decide_eq_true (by omega), decide_eq_true (by omega)⟩
    have ok2 : okB (some (k : Int)) none none rest.length = true := by
      simp only [okB, Bool.and_eq_true]
      exact ⟨decide_eq_true (by omega), decide_eq_true (by omega)⟩
    rw [ok1, ok2, take_loop hk (by omega) hb]
    simp only [cond_false, cond_true, Option.bind_some, midL, Int.toNat_natCast]
    have e : (rest.drop k).take (rest.length - k) = rest.drop k := List.take_of_length_le (by simp)
    rw [e]

theorem bit_bad {full : List Int} {w c : Nat} (hb : Byt full) (hw : w ≤ full.length) (h : 1 < tv full w c 1) : ∃ v rest, r53 (sta full w c) = some (v, (rest, 4)) := by
  have h1 : r52 (sta full w c, (1 : Int)) = some (tv full w c 1, sta full w (c + 1)) := take_sta (c := c) (k := 1) (by omega) (by omega) hb hw
  have hc : c + 1 ≤ w := by
    refine Classical.byContradiction fun e => ?_
    unfold tv at h
    rw [if_neg e] at h
    omega
  have h3 : (sta full w (c + 1)).2 = 0 := by unfold sta; rw [if_pos hc]
  refine ⟨decide (tv full w c 1 = 1), (sta full w (c + 1)).1, ?_⟩
  unfold r53
  rw [h1]
  simp only [Option.bind_some, h3]
  rw [decide_eq_true h]
  rfl


theorem dec_nil {c : Cfg} (hc : CfgOk c) : r28 (c, []) = some (zeroR, 5) := by
  unfold r28
  simp only [check_ok hc, Option.bind_some, clone_is (show ([] : List Int).length ≤ 140737488351232 by simp)]
  rfl

theorem dec_kind {c : Cfg} (hc : CfgOk c) {x : Int} {l : List Int} (hb : Byt (x :: l)) (hl : (x :: l).length ≤ 140737488351232) (hx : x < 1 ∨ 6 < x) : r28 (c, x :: l) = some (zeroR, 3) := by
  have h1 : r52 ((x :: l, 0), (1 : Int)) = some (x, (l, 0)) := by
    have := take_sta (full := x :: l) (w := (x :: l).length) (c := 0) (k := 1) (by omega) (by omega) hb (Nat.le_refl _)
    have e1 : sta (x :: l) (x :: l).length 0 = (x :: l, 0) := by unfold sta; rw [if_pos (Nat.zero_le _), List.take_length]; rfl
    have e2 : sta (x :: l) (x :: l).length (0 + 1) = (l, 0) := by unfold sta; rw [if_pos (by simp), List.take_length]; rfl
    have e3 : tv (x :: l) (x :: l).length 0 1 = x := by unfold tv; rw [if_pos (by simp)]; simp [nval]
    rw [e1, e2, e3] at this
    exact this
  have hk : r50 ((x :: l, 0), 6) = some (0, (l, 3)) := by
    unfold r50
    simp only
    rw [h1]
    simp only [Option.bind_some]
    rcases hx with hx | hx
    · rw [decide_eq_true hx]; rfl
    · rw [decide_eq_true hx, decide_eq_false (by omega : ¬ x < 1)]; rfl
  have hbl : Byt l := fun y hy => hb y (List.mem_cons_of_mem _ hy)
  obtain ⟨v3, l3, g3, b3⟩ := take_fault (k := 1) (f := 3) (by omega) hbl (by decide)
  obtain ⟨v4, l4, g4, b4⟩ := take_fault (k := 3) (f := 3) (by omega) b3 (by decide)
  have hx1 : r51 (l, 3) = some ((v3, v4), (l4, 3)) := by
    unfold r51
    have g3 : r52 ((l, 3), (1 : Int)) = some (v3, (l3, 3)) := g3
    have g4 : r52 ((l3, 3), (3 : Int)) = some (v4, (l4, 3)) := g4
    simp only [g3, g4, Option.bind_some]
  have h0 : idxI tab0 0 = some (false, (false, (false, (false, (false, (false, (false, false))))))) := rfl
  unfold r28
  simp only [check_ok hc, Option.bind_some, clone_is hl]
  rw [bif_f (by rfl), hk]
  simp only [Option.bind_some, h0, hx1, cond_false]
  exact fin_fault (c := c) (f := (0, v3, v4, 0, 0, 0, false, [])) (l := l4) (e := 3) (by decide)

theorem check_total {c : Cfg} (hc : CfgOk c) {r : Rec} (k0 : 1 ≤ r.1) (k1 : r.1 ≤ 6) (hl : r.2.2.2.2.2.2.length ≤ 1000) : ∃ e, r43 (c, r) = some e := by
  obtain ⟨q, h1, -⟩ := loop_rule (body := r43_L0 (c, r)) (fun i => 0 ≤ i ∧ i ≤ r.2.2.2.2.2.2.length) (fun i => r.2.2.2.2.2.2.length - i.toNat) (fun _ => True) (fun i hi => by
    obtain ⟨g0, g1⟩ := hi
    unfold r43_L0
    simp only
    by_cases hlt : i < r.2.2.2.2.2.2.length
    · obtain ⟨x, e1, -⟩ := idxI_is (xs := r.2.2.2.2.2.2) g0 hlt
      rw [decide_eq_true hlt, e1, wrap_i64 (n := i + 1) (by unfold i64; omega)]
      have next : ∀ d : Bool, (∃ d', (bif d then some (Sum.inr (Sum.inr (2 : Int))) else some (Sum.inl (i + 1)) : Option (Int ⊕ (Unit ⊕ Int))) = some (.inl d') ∧ (0 ≤ d' ∧ d' ≤ r.2.2.2.2.2.2.length) ∧ r.2.2.2.2.2.2.length - d'.toNat < r.2.2.2.2.2.2.length - i.toNat) ∨
          ∃ q, (bif d then some (Sum.inr (Sum.inr (2 : Int))) else some (Sum.inl (i + 1)) : Option (Int ⊕ (Unit ⊕ Int))) = some (.inr q) ∧ True := fun d => by
        cases d
        · exact .inl ⟨i + 1, rfl, ⟨by omega, by omega⟩, by omega⟩
        · exact .inr ⟨_, rfl, trivial⟩
      simp only [cond_true, Option.bind_some]
      by_cases h0 : 0 < i
      · obtain ⟨y, f1, -⟩ := idxI_is (xs := r.2.2.2.2.2.2) (n := i - 1) (by omega) (by omega)
        rw [decide_eq_true h0, wrap_i64 (n := i - 1) (by unfold i64; omega), f1]
        simp only [cond_true, Option.bind_some, bif_some]
        simpa only [bif_some] using next _
      · rw [decide_eq_false h0]
        simp only [cond_false, Option.bind_some, bif_some]
        simpa only [bif_some] using next _
    · exact .inr ⟨_, by rw [decide_eq_false hlt]; rfl, trivial⟩) 0 ⟨by omega, by omega⟩
  have hlen : (tab0).length = 7 := rfl
  obtain ⟨p, hp, -⟩ := idxI_is (xs := tab0) (n := r.1) (by omega) (by rw [hlen]; omega)
  unfold r43
  simp only [check_ok hc, Option.bind_some, txn_is, key_is, value_is, askOk_is, h1, hp, bif_some]
  rw [bif_f (by rfl)]
  cases q with
  | inl u =>
    simp only [Sum.elim_inl]
    simp only [bif_some]
    exact ⟨_, rfl⟩
  | inr v =>
    simp only [Sum.elim_inr]
    simp only [bif_some]
    exact ⟨_, rfl⟩

end Go.Hg
