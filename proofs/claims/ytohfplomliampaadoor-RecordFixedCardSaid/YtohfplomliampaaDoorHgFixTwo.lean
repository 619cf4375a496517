/- No record has two forms: the law. -/
import Derived.Test.YtohfplomliampaaDoorHgFixed
namespace Go.Hg
open Go.RowKit Go.Proofs Go.V

theorem tv_byte {b : List Int} (hb : Byt b) {w c : Nat} (hw : w ≤ b.length) : 0 ≤ tv b w c 1 ∧ tv b w c 1 < 256 := by
  unfold tv
  by_cases h : c + 1 ≤ w
  · rw [if_pos h]
    have := nval_bound 1 (l := (b.drop c).take 1) (by simp; omega) (fun x hx => hb x (List.mem_of_mem_drop (List.mem_of_mem_take hx)))
    have h9 : (256 : Int) ^ 1 = 256 := by decide
    omega
  · rw [if_neg h]; omega

theorem bit_back {v : Int} (h0 : 0 ≤ v) (h1 : v ≤ 1) : bitN (decide (v = 1)) = v := by
  by_cases e : v = 1
  · rw [decide_eq_true e, e]; rfl
  · rw [decide_eq_false e]; show (0 : Int) = _; omega

def encOk (p : Parts) (b : List Int) (k : Int) (f : RecF) : Prop := f.1 = k ∧ f.2.2.2.2.2.2.2.length ≤ 300 ∧ Byt f.2.2.2.2.2.2.2 ∧ encR p (f.1, (f.2.1, f.2.2.1), f.2.2.2) = b

theorem dec_any {c : Cfg} (hc : CfgOk c) {b : List Int} (hb : Byt b) (hl : b.length ≤ 140737488351232) (h1 : 1 ≤ b.length) {k : Int} (hk : tv b b.length 0 1 = k) (k0 : 1 ≤ k) (k1 : k ≤ 6) {p : Parts} (hp : idxI tab0 k = some p) :
    r28 (c, b) = some (zeroR, 4) ∨ ∃ (f : RecF) (T : Nat), r28 (c, b) = finR c ((), ((), (sta b b.length T, f))) ∧ (T = b.length → encOk p b k f) := by
  generalize hw0 : b.length = w at *
  have hw : w ≤ b.length := by omega
  have t1 : ∀ c, r52 (sta b w c, (1 : Int)) = some (tv b w c 1, sta b w (c + 1)) := fun c => take_sta (k := 1) (by omega) (by omega) hb hw
  have t3 : ∀ c, r52 (sta b w c, (3 : Int)) = some (tv b w c 3, sta b w (c + 3)) := fun c => take_sta (k := 3) (by omega) (by omega) hb hw
  have t4 : ∀ c, r52 (sta b w c, (4 : Int)) = some (tv b w c 4, sta b w (c + 4)) := fun c => take_sta (k := 4) (by omega) (by omega) hb hw
  have tx : ∀ c, r51 (sta b w c) = some ((tv b w c 1, tv b w (c + 1) 3), sta b w (c + 4)) := fun c => by
    unfold r51
    simp only [t1, t3, Option.bind_some]
  have tk := kind_sta hb hw h1 (by omega) (by omega)
  have hbt : ∀ {c k : Nat}, c + k ≤ w → be k (tv b w c k) = (b.drop c).take k := fun h => by
    subst hw0
    exact be_tv hb h
  have hk0 : be 1 k = (b.drop 0).take 1 := by rw [← hk]; exact hbt (by omega)
  rw [hk] at tk
  have h0 : (b, (0 : Int)) = sta b w 0 := by unfold sta; rw [if_pos (Nat.zero_le _), List.drop_zero, ← hw0, List.take_length]
  have hnil : Byt [] := fun x hx => by simp at hx
  have d1 := take_tele b 0 1
  have d2 := take_tele b 1 1
  have d3 := take_tele b 2 3
  simp only [Nat.reduceAdd, List.drop_zero] at d1 d2 d3 hk0
  unfold r28
  simp only [check_ok hc, Option.bind_some, clone_is (show b.length ≤ 140737488351232 by omega)]
  rw [h0, tk]
  simp only [Option.bind_some, hp, tx, Nat.reduceAdd]
  rw [bif_f (by rfl)]
  have hk9 : k = 1 ∨ k = 2 ∨ k = 3 ∨ k = 4 ∨ k = 5 ∨ k = 6 := by omega
  clear h0 tk tx hk k0 k1
  rcases hk9 with rfl | rfl | rfl | rfl | rfl | rfl
  all_goals
    have hp := Option.some.inj hp
    subst hp
  · refine .inr ⟨(1, tv b w 1 1, tv b w 2 3, tv b w 5 1, tv b w 6 4, tv b w 10 3, false, []), 13, by simp only [cond_true, cond_false, t1, t3, t4, Option.bind_some, Nat.reduceAdd]; rfl, fun ht => ⟨rfl, by simp, hnil, ?_⟩⟩
    have d4 := take_tele b 5 1
    have d5 := take_tele b 6 4
    have d6 := take_tele b 10 3
    have d7 : b.drop 13 = [] := by rw [ht, ← hw0]; exact List.drop_length
    simp only [Nat.reduceAdd] at d4 d5 d6
    unfold encR
    simp only [opt, cond_true, cond_false, List.append_nil]
    rw [hk0, hbt (by omega), hbt (by omega), hbt (by omega), hbt (by omega), hbt (by omega)]
    rw [d7, List.append_nil] at d6
    rw [← d6] at d5
    rw [← d5] at d4
    rw [← d4] at d3
    rw [← d3] at d2
    rw [← d2] at d1
    simp only [List.append_assoc]
    exact d1
  · by_cases hbit : tv b w 5 1 ≤ 1
    · have tb : r53 (sta b w 5) = some (decide (tv b w 5 1 = 1), sta b w 6) := bit_sta hb hw hbit
      refine .inr ⟨(2, tv b w 1 1, tv b w 2 3, 0, 0, 0, decide (tv b w 5 1 = 1), []), 6, by simp only [cond_true, cond_false, tb, Option.bind_some]; rfl, fun ht => ⟨rfl, by simp, hnil, ?_⟩⟩
      have d4 := take_tele b 5 1
      have d7 : b.drop 6 = [] := by rw [ht, ← hw0]; exact List.drop_length
      simp only [Nat.reduceAdd] at d4
      unfold encR
      simp only [opt, cond_true, cond_false, List.append_nil]
      rw [bit_back (tv_byte hb hw).1 hbit, hk0, hbt (by omega), hbt (by omega), hbt (by omega)]
      rw [d7, List.append_nil] at d4
      rw [← d4] at d3
      rw [← d3] at d2
      rw [← d2] at d1
      simp only [List.append_assoc]
      exact d1
    · obtain ⟨v, rest, tb⟩ := bit_bad (c := 5) hb hw (by omega)
      refine .inl ?_
      simp only [cond_true, cond_false, tb, Option.bind_some]
      exact fin_fault (c := c) (f := (2, tv b w 1 1, tv b w 2 3, 0, 0, 0, v, [])) (l := rest) (e := 4) (by decide)
  · have hn := tv_byte hb hw (c := 5)
    obtain ⟨n, hne⟩ := Int.eq_ofNat_of_zero_le hn.1
    obtain ⟨l', g1, g2⟩ := dec_loop hb hw (k := 3) (x := tv b w 1 1) (N := tv b w 2 3) (a := 0) (b := 0) (d := 0) (e := false) n 6 [] (by simp; omega)
    refine .inr ⟨(3, tv b w 1 1, tv b w 2 3, 0, 0, 0, false, l'), 6 + n, ?_, fun ht => ?_⟩
    · simp only [cond_true, cond_false, t1, Option.bind_some, Nat.reduceAdd]
      rw [hne, g1]
      rfl
    · have hl' := g2 (by omega)
      rw [List.nil_append] at hl'
      have hll : l'.length = n := by rw [hl']; simp; omega
      refine ⟨rfl, by simp only; omega, fun x hx => hb x (by rw [hl'] at hx; exact List.mem_of_mem_drop (List.mem_of_mem_take hx)), ?_⟩
      have d4 := take_tele b 5 1
      have d5 := take_tele b 6 n
      have d7 : b.drop (6 + n) = [] := by rw [ht, ← hw0]; exact List.drop_length
      simp only [Nat.reduceAdd] at d4
      unfold encR
      simp only [opt, cond_true, cond_false, List.append_nil]
      rw [hll, ← hne, hk0, hbt (by omega), hbt (by omega), hbt (by omega), hl']
      rw [d7, List.append_nil] at d5
      rw [← d5] at d4
      rw [← d4] at d3
      rw [← d3] at d2
      rw [← d2] at d1
      simp only [List.append_assoc]
      exact d1
  · refine .inr ⟨(4, tv b w 1 1, tv b w 2 3, 0, 0, 0, false, []), 5, by simp only [cond_false, Option.bind_some]; rfl, fun ht => ⟨rfl, by simp, hnil, ?_⟩⟩
    have d7 : b.drop 5 = [] := by rw [ht, ← hw0]; exact List.drop_length
    unfold encR
    simp only [opt, cond_false, List.append_nil]
    rw [hk0, hbt (by omega), hbt (by omega)]
    rw [d7, List.append_nil] at d3
    rw [← d3] at d2
    rw [← d2] at d1
    simp only [List.append_assoc]
    exact d1
  · refine .inr ⟨(5, tv b w 1 1, tv b w 2 3, 0, 0, 0, false, []), 5, by simp only [cond_false, Option.bind_some]; rfl, fun ht => ⟨rfl, by simp, hnil, ?_⟩⟩
    have d7 : b.drop 5 = [] := by rw [ht, ← hw0]; exact List.drop_length
    unfold encR
    simp only [opt, cond_false, List.append_nil]
    rw [hk0, hbt (by omega), hbt (by omega)]
    rw [d7, List.append_nil] at d3
    rw [← d3] at d2
    rw [← d2] at d1
    simp only [List.append_assoc]
    exact d1
  · by_cases hbit : tv b w 5 1 ≤ 1
    · have tb : r53 (sta b w 5) = some (decide (tv b w 5 1 = 1), sta b w 6) := bit_sta hb hw hbit
      refine .inr ⟨(6, tv b w 1 1, tv b w 2 3, 0, 0, 0, decide (tv b w 5 1 = 1), []), 6, by simp only [cond_true, cond_false, tb, Option.bind_some]; rfl, fun ht => ⟨rfl, by simp, hnil, ?_⟩⟩
      have d4 := take_tele b 5 1
      have d7 : b.drop 6 = [] := by rw [ht, ← hw0]; exact List.drop_length
      simp only [Nat.reduceAdd] at d4
      unfold encR
      simp only [opt, cond_true, cond_false, List.append_nil]
      rw [bit_back (tv_byte hb hw).1 hbit, hk0, hbt (by omega), hbt (by omega), hbt (by omega)]
      rw [d7, List.append_nil] at d4
      rw [← d4] at d3
      rw [← d3] at d2
      rw [← d2] at d1
      simp only [List.append_assoc]
      exact d1
    · obtain ⟨v, rest, tb⟩ := bit_bad (c := 5) hb hw (by omega)
      refine .inl ?_
      simp only [cond_true, cond_false, tb, Option.bind_some]
      exact fin_fault (c := c) (f := (6, tv b w 1 1, tv b w 2 3, 0, 0, 0, v, [])) (l := rest) (e := 4) (by decide)

theorem dec_cases {c : Cfg} (hc : CfgOk c) {b : List Int} (hb : Byt b) (hl : b.length ≤ 140737488351232) : (∃ e, e ≠ 0 ∧ r28 (c, b) = some (zeroR, e)) ∨
    ∃ r, r28 (c, b) = some (r, 0) ∧ r22 (c, r) = some (b, 0) := by
  cases b with
  | nil => exact .inl ⟨5, by decide, dec_nil hc⟩
  | cons x l =>
    have h1 : 1 ≤ (x :: l).length := by simp
    have hx : tv (x :: l) (x :: l).length 0 1 = x := by unfold tv; rw [if_pos (by simp)]; simp [nval]
    generalize hbb : x :: l = b at *
    by_cases hk : x < 1 ∨ 6 < x
    · subst hbb
      exact .inl ⟨3, by decide, dec_kind hc hb hl hk⟩
    · have hlen : (tab0).length = 7 := rfl
      obtain ⟨p, hp, -⟩ := idxI_is (xs := tab0) (n := x) (by omega) (by rw [hlen]; omega)
      rcases dec_any hc hb hl h1 hx (by omega) (by omega) hp with hd | ⟨f, T, hd, hf⟩
      · exact .inl ⟨4, by decide, hd⟩
      · rcases Nat.lt_trichotomy b.length T with hlt | heq | hgt
        · have hs : sta b b.length T = ([], 5) := by unfold sta; rw [if_neg (by omega)]
          rw [hs, fin_fault (by decide)] at hd
          exact .inl ⟨5, by decide, hd⟩
        · have hs : sta b b.length T = ([], 0) := by unfold sta; rw [if_pos (by omega), List.take_length, ← heq, List.drop_length]
          rw [hs] at hd
          obtain ⟨m1, m2, m3, m4⟩ := hf heq.symm
          obtain ⟨e, he⟩ := check_total hc (r := (f.1, (f.2.1, f.2.2.1), f.2.2.2)) (by simp only [m1]; omega) (by simp only [m1]; omega) (by simp only; omega)
          by_cases h0 : e = 0
          · subst h0
            rw [fin_ok he] at hd
            refine .inr ⟨_, hd, ?_⟩
            have := enc_of he m3 (by simp only; omega) (p := p) (by simp only [m1]; exact hp)
            rw [m4] at this
            exact this
          · rw [fin_check he h0] at hd
            exact .inl ⟨e, h0, hd⟩
        · have hs : sta b b.length T = (b.drop T, 0) := by unfold sta; rw [if_pos (by omega), List.take_length]
          rw [hs, fin_rest (by intro e; have := congrArg List.length e; simp at this; omega)] at hd
          exact .inl ⟨4, by decide, hd⟩

theorem recordFixed {a : Int × (List Int × List Int)} (h1 : i64 a.1) (h2 : ∀ n ∈ a.2.1, i64 n) (hl : a.2.1.length ≤ 9223372036854775807) (hb : Byt a.2.2) (hbl : a.2.2.length ≤ 140737488351232) : r7 a = some true := by
  obtain ⟨c, e1, hc⟩ := cfg_is (a := (a.1, a.2.1, 1)) h1 h2 hl (by unfold i64; simp only; omega)
  have hroom : roomOk true 0 a.2.2.length 1 = true := Nat.ble_eq_true_of_le (by omega)
  unfold r7
  simp only [e1, Option.bind_some]
  rw [hroom]
  rcases dec_cases hc hb hbl with ⟨e, he, hd⟩ | ⟨r, hd, hen⟩
  · rw [hd]
    simp only [cond_true, Option.bind_some, dec_nil hc]
    rw [decide_eq_false he]
    rfl
  · rw [hd]
    have hen : r22 (c, (r.1, ((r.2.1.1, r.2.1.2), r.2.2))) = some (a.2.2, 0) := hen
    simp only [cond_true, Option.bind_some, decide_true, Bool.not_true, cond_false, hen]

end Go.Hg
