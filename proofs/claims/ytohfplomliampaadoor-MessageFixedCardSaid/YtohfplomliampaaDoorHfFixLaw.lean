/- No message has two forms: the law. -/
import Derived.Test.YtohfplomliampaaDoorHfFixed
namespace Go.Hf
open Go.RowKit Go.Proofs Go.V

theorem fin_fault {c : Cfg} {f : MsgF} {l : List Int} {e : Int} (he : e ≠ 0) : finD c ((), ((), ((l, e), f))) = some (zeroM, e) := by
  unfold finD
  have : r54 (l, e) = some (l, e) := by
    unfold r54
    simp only
    rw [decide_eq_false he]
    rfl
  rw [this]
  simp only [Option.bind_some]
  rw [decide_eq_false he]
  simp only [cond_false, Option.bind_some]
  rw [decide_eq_false he]
  rfl

theorem fin_rest {c : Cfg} {f : MsgF} {l : List Int} (hl : l ≠ []) : finD c ((), ((), ((l, 0), f))) = some (zeroM, 4) := by
  unfold finD
  have : r54 (l, 0) = some (l, 4) := by
    unfold r54
    have : (0 : Int) < (l.length : Int) := by
      have := List.length_pos_iff.2 hl
      omega
    simp only [decide_true, cond_true, Option.bind_some]
    rw [decide_eq_true this]
    rfl
  rw [this]
  rfl

theorem fin_check {c : Cfg} {f : MsgF} {e : Int} (h : r33 (c, (f.1, f.2.1, f.2.2.1, (f.2.2.2.1, f.2.2.2.2.1), f.2.2.2.2.2)) = some e) (he : e ≠ 0) : finD c ((), ((), (([], 0), f))) = some (zeroM, e) := by
  unfold finD
  have : r54 ([], 0) = some ([], 0) := by unfold r54; rfl
  rw [this]
  simp only [Option.bind_some, decide_true, cond_true, h]
  rw [decide_eq_false he]
  rfl

/-- A fault that is there stays. -/
theorem take_fault {rest : List Int} {f : Int} {k : Nat} (hk : k ≤ 4) (hb : Byt rest) (hf : f ≠ 0) : ∃ v rest', r52 ((rest, f), (k : Int)) = some (v, (rest', f)) ∧ Byt rest' := by
  unfold r52
  simp only
  by_cases h : rest.length < k
  · refine ⟨0, [], ?_, fun x hx => by simp at hx⟩
    rw [decide_eq_true (by omega : (rest.length : Int) < (k : Int)), decide_eq_false hf]
    rfl
  · refine ⟨nval (rest.take k), rest.drop k, ?_, fun x hx => hb x (List.mem_of_mem_drop hx)⟩
    rw [decide_eq_false (by omega : ¬ (rest.length : Int) < (k : Int))]
    have ok1 : okB none (some (k : Int)) none rest.length = true := by
      simp only [okB, Bool.and_eq_true]
      exact ⟨decide_eq_true (by omega), decide_eq_true (by omega)⟩
    have ok2 : okB (some (k : Int)) none none rest.length = true := by
      simp only [okB, Bool.and_eq_true]
      exact ⟨decide_eq_true (by omega), decide_eq_true (by omega)⟩
    rw [ok1, ok2, take_loop hk (by omega) hb]
    simp only [cond_false, cond_true, Option.bind_some, midL, Int.toNat_natCast]
    have e : (rest.drop k).take (rest.length - k) = rest.drop k := List.take_of_length_le (by simp)
    rw [e]

theorem dec_nil {c : Cfg} (hc : CfgOk c) : r32 (c, []) = some (zeroM, 5) := by
  unfold r32
  simp only [check_ok hc, Option.bind_some, clone_is (show ([] : List Int).length ≤ 140737488351232 by simp)]
  rfl

theorem dec_kind {c : Cfg} (hc : CfgOk c) {x : Int} {l : List Int} (hb : Byt (x :: l)) (hl : (x :: l).length ≤ 140737488351232) (hx : x < 1 ∨ 9 < x) : r32 (c, x :: l) = some (zeroM, 3) := by
  have h1 : r52 ((x :: l, 0), (1 : Int)) = some (x, (l, 0)) := by
    have := take_sta (full := x :: l) (w := (x :: l).length) (c := 0) (k := 1) (by omega) (by omega) hb (Nat.le_refl _)
    have e1 : sta (x :: l) (x :: l).length 0 = (x :: l, 0) := by unfold sta; rw [if_pos (Nat.zero_le _), List.take_length]; rfl
    have e2 : sta (x :: l) (x :: l).length (0 + 1) = (l, 0) := by unfold sta; rw [if_pos (by simp), List.take_length]; rfl
    have e3 : tv (x :: l) (x :: l).length 0 1 = x := by unfold tv; rw [if_pos (by simp)]; simp [nval]
    rw [e1, e2, e3] at this
    exact this
  have hk : r50 ((x :: l, 0), 9) = some (0, (l, 3)) := by
    unfold r50
    simp only
    rw [h1]
    simp only [Option.bind_some]
    rcases hx with hx | hx
    · rw [decide_eq_true hx]; rfl
    · rw [decide_eq_true hx, decide_eq_false (by omega : ¬ x < 1)]; rfl
  have hbl : Byt l := fun y hy => hb y (List.mem_cons_of_mem _ hy)
  obtain ⟨v1, l1, g1, b1⟩ := take_fault (k := 1) (f := 3) (by omega) hbl (by decide)
  obtain ⟨v2, l2, g2, b2⟩ := take_fault (k := 1) (f := 3) (by omega) b1 (by decide)
  obtain ⟨v3, l3, g3, b3⟩ := take_fault (k := 1) (f := 3) (by omega) b2 (by decide)
  obtain ⟨v4, l4, g4, b4⟩ := take_fault (k := 3) (f := 3) (by omega) b3 (by decide)
  have hx1 : r51 (l2, 3) = some ((v3, v4), (l4, 3)) := by
    unfold r51
    have g3 : r52 ((l2, 3), (1 : Int)) = some (v3, (l3, 3)) := g3
    have g4 : r52 ((l3, 3), (3 : Int)) = some (v4, (l4, 3)) := g4
    simp only [g3, g4, Option.bind_some]
  have g1 : r52 ((l, 3), (1 : Int)) = some (v1, (l1, 3)) := g1
  have g2 : r52 ((l1, 3), (1 : Int)) = some (v2, (l2, 3)) := g2
  have h0 : idxI tab1 0 = some (false, (false, (false, (false, (false, (false, (false, false))))))) := rfl
  unfold r32
  simp only [check_ok hc, Option.bind_some, clone_is hl]
  rw [bif_f (by rfl), hk]
  simp only [Option.bind_some, h0, g1, g2, hx1, cond_false]
  exact fin_fault (c := c) (f := (0, v1, v2, v3, v4, 0, 0, 0, 0, 0, false, 0)) (l := l4) (e := 3) (by decide)

theorem check_total {c : Cfg} (hc : CfgOk c) {m : Msg} (k0 : 1 ≤ m.1) (k1 : m.1 ≤ 9) : ∃ e, r33 (c, m) = some e := by
  have hlen : (tab1).length = 10 := rfl
  obtain ⟨p, hp, -⟩ := idxI_is (xs := tab1) (n := m.1) (by omega) (by rw [hlen]; omega)
  rw [checkMsg_is hc, decide_eq_false (by omega : ¬ m.1 < 1), decide_eq_false (by omega : ¬ 9 < m.1), hp]
  simp only [Bool.or_self, cond_false, Option.bind_some]
  cases rangeBad c m <;> cases formBad p m <;> exact ⟨_, rfl⟩

theorem bit_bad {full : List Int} {w c : Nat} (hb : Byt full) (hw : w ≤ full.length) (h : 1 < tv full w c 1) : ∃ v rest, r53 (sta full w c) = some (v, (rest, 4)) := by
  have h1 : r52 (sta full w c, (1 : Int)) = some (tv full w c 1, sta full w (c + 1)) := take_sta (c := c) (k := 1) (by omega) (by omega) hb hw
  have hc : c + 1 ≤ w := by
    refine Classical.byContradiction fun e => ?_
    unfold tv at h
    rw [if_neg e] at h
    omega
  have h3 : (sta full w (c + 1)).2 = 0 := by unfold sta; rw [if_pos hc]
  refine ⟨decide (tv full w c 1 = 1), (sta full w (c + 1)).1, ?_⟩
  unfold r53
  rw [h1]
  simp only [Option.bind_some, h3]
  rw [decide_eq_true h]
  rfl

theorem dec_bit {c : Cfg} (hc : CfgOk c) {full : List Int} {w : Nat} (hb : Byt full) (hw : w ≤ full.length) (hl : full.length ≤ 140737488351232) (h1 : 1 ≤ w) {k : Int} (hk : tv full w 0 1 = k) (k47 : k = 4 ∨ k = 7) {p : Parts} (hp : idxI tab1 k = some p)
    (hbit : 1 < tv full w (cbit p) 1) : r32 (c, full.take w) = some (zeroM, 4) := by
  have t1 : ∀ c, r52 (sta full w c, (1 : Int)) = some (tv full w c 1, sta full w (c + 1)) := fun c => take_sta (k := 1) (by omega) (by omega) hb hw
  have t3 : ∀ c, r52 (sta full w c, (3 : Int)) = some (tv full w c 3, sta full w (c + 3)) := fun c => take_sta (k := 3) (by omega) (by omega) hb hw
  have tx : ∀ c, r51 (sta full w c) = some ((tv full w c 1, tv full w (c + 1) 3), sta full w (c + 4)) := fun c => by
    unfold r51
    simp only [t1, t3, Option.bind_some]
  have tk := kind_sta hb hw h1 (by omega) (by omega)
  rw [hk] at tk
  have h0 : (full.take w, (0 : Int)) = sta full w 0 := by unfold sta; rw [if_pos (Nat.zero_le _), List.drop_zero]
  unfold r32
  simp only [check_ok hc, Option.bind_some, clone_is (show (full.take w).length ≤ 140737488351232 by simp; omega)]
  rw [h0, tk]
  simp only [Option.bind_some, hp, t1, tx, Nat.reduceAdd]
  rw [bif_f (by rfl)]
  clear h0 hk tk tx
  rcases k47 with rfl | rfl
  all_goals
    have hp := Option.some.inj hp
    subst hp
  · obtain ⟨v, rest, tb⟩ := bit_bad (c := 7) hb hw hbit
    simp only [cond_true, cond_false, tb, Option.bind_some]
    exact fin_fault (c := c) (f := (4, tv full w 1 1, tv full w 2 1, tv full w 3 1, tv full w 4 3, 0, 0, 0, 0, 0, v, 0)) (l := rest) (e := 4) (by decide)
  · obtain ⟨v, rest, tb⟩ := bit_bad (c := 12) hb hw hbit
    simp only [cond_true, cond_false, t1, t3, tb, Option.bind_some, Nat.reduceAdd]
    exact fin_fault (c := c) (f := (7, tv full w 1 1, tv full w 2 1, tv full w 3 1, tv full w 4 3, tv full w 7 1, tv full w 8 1, 0, tv full w 9 3, 0, v, 0)) (l := rest) (e := 4) (by decide)

/-- Whatever bytes there are. -/
theorem dec_cases {c : Cfg} (hc : CfgOk c) {b : List Int} (hb : Byt b) (hl : b.length ≤ 140737488351232) : (∃ e, e ≠ 0 ∧ r32 (c, b) = some (zeroM, e)) ∨
    ∃ m p, idxI tab1 m.1 = some p ∧ r32 (c, b) = some (m, 0) ∧ r33 (c, m) = some 0 ∧ encM p m = b := by
  cases b with
  | nil => exact .inl ⟨5, by decide, dec_nil hc⟩
  | cons x l =>
    have h1 : 1 ≤ (x :: l).length := by simp
    have hx : tv (x :: l) (x :: l).length 0 1 = x := by unfold tv; rw [if_pos (by simp)]; simp [nval]
    have htk : (x :: l).take (x :: l).length = x :: l := List.take_length
    generalize hbb : x :: l = b at *
    by_cases hk : x < 1 ∨ 9 < x
    · subst hbb
      exact .inl ⟨3, by decide, dec_kind hc hb hl hk⟩
    · have hlen : (tab1).length = 10 := rfl
      obtain ⟨p, hp, -⟩ := idxI_is (xs := tab1) (n := x) (by omega) (by rw [hlen]; omega)
      by_cases hbit : p.2.2.2.2.2.1 = true ∧ 1 < tv b b.length (cbit p) 1
      · have k47 : x = 4 ∨ x = 7 := by
          have hk9 : x = 1 ∨ x = 2 ∨ x = 3 ∨ x = 4 ∨ x = 5 ∨ x = 6 ∨ x = 7 ∨ x = 8 ∨ x = 9 := by omega
          have hpb := hbit.1
          rcases hk9 with e | e | e | e | e | e | e | e | e
          all_goals
            rw [e] at hp
            have hp := Option.some.inj hp
            rw [← hp] at hpb
            first
            | exact .inl e
            | exact .inr e
            | exact absurd hpb (by decide)
        have := dec_bit hc hb (Nat.le_refl _) hl h1 hx k47 hp hbit.2
        rw [htk] at this
        exact .inl ⟨4, by decide, this⟩
      · have hbit' : p.2.2.2.2.2.1 = true → tv b b.length (cbit p) 1 ≤ 1 := fun h => by
          refine Classical.byContradiction fun hno => hbit ⟨h, by omega⟩
        have hd := dec_gen hc hb (Nat.le_refl _) hl h1 hx (by omega) (by omega) hp hbit'
        rw [htk] at hd
        rcases Nat.lt_trichotomy b.length (tot p) with hlt | heq | hgt
        · have hs : sta b b.length (tot p) = ([], 5) := by unfold sta; rw [if_neg (by omega)]
          rw [hs, fin_fault (by decide)] at hd
          exact .inl ⟨5, by decide, hd⟩
        · have hs : sta b b.length (tot p) = ([], 0) := by unfold sta; rw [if_pos (by omega), List.take_length, ← heq, List.drop_length]
          rw [hs] at hd
          have hm1 : (msgD p b b.length x).1 = x := rfl
          obtain ⟨e, he⟩ := check_total hc (m := ((msgD p b b.length x).1, (msgD p b b.length x).2.1, (msgD p b b.length x).2.2.1, ((msgD p b b.length x).2.2.2.1, (msgD p b b.length x).2.2.2.2.1), (msgD p b b.length x).2.2.2.2.2)) (by rw [hm1]; omega) (by rw [hm1]; omega)
          by_cases h0 : e = 0
          · subst h0
            rw [fin_ok he] at hd
            refine .inr ⟨_, p, hp, hd, he, ?_⟩
            exact enc_dec hb heq hbit' (f := msgD p b b.length x) (by rw [hx])
          · rw [fin_check he h0] at hd
            exact .inl ⟨e, h0, hd⟩
        · have hs : sta b b.length (tot p) = (b.drop (tot p), 0) := by unfold sta; rw [if_pos (by omega), List.take_length]
          rw [hs, fin_rest (by intro e; have := congrArg List.length e; simp at this; omega)] at hd
          exact .inl ⟨4, by decide, hd⟩

theorem messageFixed {a : Int × (List Int × List Int)} (h1 : i64 a.1) (h2 : ∀ n ∈ a.2.1, i64 n) (hl : a.2.1.length ≤ 9223372036854775807) (hb : Byt a.2.2) (hbl : a.2.2.length ≤ 140737488351232) : r9 a = some true := by
  obtain ⟨c, e1, hc⟩ := cfg_is (a := (a.1, a.2.1, 1)) h1 h2 hl (by unfold i64; simp only; omega)
  have hroom : roomOk true 0 a.2.2.length 1 = true := Nat.ble_eq_true_of_le (by omega)
  unfold r9
  simp only [e1, Option.bind_some]
  rw [hroom]
  rcases dec_cases hc hb hbl with ⟨e, he, hd⟩ | ⟨m, p, hp, hd, hck, henc⟩
  · rw [hd]
    simp only [cond_true, Option.bind_some, dec_nil hc]
    rw [decide_eq_false he]
    rfl
  · rw [hd]
    have hen : r31 (c, (m.1, (m.2.1, (m.2.2.1, ((m.2.2.2.1.1, m.2.2.2.1.2), m.2.2.2.2))))) = some (encM p m, 0) := enc_of hck hp
    simp only [cond_true, Option.bind_some, decide_true, Bool.not_true, cond_false, hen, henc]

end Go.Hf
