/- The laws of tapes. -/
import Derived.Test.YtfemngbhinlkgaaDoorHmTape
namespace Go.Hm
open Go.RowKit Go.Proofs Go.V

theorem made {s : Int} {l : List Int} (h1 : i64 s) (h2 : ∀ n ∈ l, i64 n) (hl : l.length ≤ 9223372036854775807) : ∃ c, r11 (s, l, 1) = some c ∧ CfgOk c :=
  cfg_is (a := (s, l, 1)) h1 h2 hl (by unfold i64; simp only; omega)

theorem tape_ok {c : Cfg} {rs : List Rec} (h : ∀ r ∈ rs, RecOk c r) (hl : rs.length ≤ 100) {syn : Int} (s0 : 0 ≤ syn) (s1 : syn ≤ (tapeOf rs).length) : TapeOk (tapeOf rs, syn) :=
  ⟨s0, s1, by have := tapeOf_len h; simp only; omega⟩

theorem upto_ok {i n : Nat} (h : i ≤ n) : okB none (some (i : Int)) none n = true := by
  unfold okB
  simp only
  rw [decide_eq_true (show (0 : Int) ≤ (i : Int) by omega), decide_eq_true (show (i : Int) ≤ (n : Int) by omega)]; rfl

theorem crashJust {a : Int × (List Int × (List Raw × (Int × Int)))} (h1 : i64 a.1) (h2 : ∀ n ∈ a.2.1, i64 n) (hl : a.2.1.length ≤ 9223372036854775807) (hr : ∀ r ∈ a.2.2.1, RawOk r) (h3 : i64 a.2.2.2.1) (h4 : i64 a.2.2.2.2) : r7 a = some true := by
  obtain ⟨c, e1, hc⟩ := made h1 h2 hl
  obtain ⟨rs, e2, hm, hok⟩ := records_is hc hr (m := 20) (by omega)
  have htl := tapeOf_len hok
  obtain ⟨k, e3, k0, k1⟩ := picked_is (n := a.2.2.2.2) (m := 200) h4 (by omega)
  have hw : Go.IntKind.wrap .i64 (((tapeOf rs).length : Int) + 1) = ((tapeOf rs).length : Int) + 1 := wrap_i64 (by unfold i64; omega)
  obtain ⟨y, e4, y0, y1⟩ := picked_is (n := a.2.2.2.1) (m := ((tapeOf rs).length : Int) + 1) h3 (by omega)
  have hto := tape_ok hok (by omega) y0 (show y ≤ (tapeOf rs).length by omega)
  have hw2 : Go.IntKind.wrap .i64 (-1 - k) = -1 - k := wrap_i64 (by unfold i64; omega)
  have hw3 : Go.IntKind.wrap .i64 (y + k) = y + k := wrap_i64 (by unfold i64; omega)
  have hlf : min (y + k) ((tapeOf rs).length : Int) = (left (tapeOf rs, y) k : Int) := by unfold left; simp only; omega
  have hle : left (tapeOf rs, y) k ≤ (tapeOf rs).length := Nat.min_le_right _ _
  have hlen : (((tapeOf rs).take (left (tapeOf rs, y) k)).length : Int) = (left (tapeOf rs, y) k : Int) := by rw [List.length_take]; omega
  rw [show ((20 : Nat) : Int) = (20 : Int) from rfl] at e2
  unfold r7
  simp only [e1, e2, e3, e4, hw, hw2, hw3, taped_is hc hok (by omega), Option.bind_some, crash_is hto k0 (by omega), crash_bad hto (show -1 - k < 0 by omega), hlf, hlen, decide_true, cond_true, upto_ok hle, midL, List.drop_zero, Int.toNat_natCast]

theorem tapeRoom {a : Int × (List Int × (Raw × Int))} (h1 : i64 a.1) (h2 : ∀ n ∈ a.2.1, i64 n) (hl : a.2.1.length ≤ 9223372036854775807) (hr : RawOk a.2.2.1) (h3 : i64 a.2.2.2) : r6 a = some true := by
  obtain ⟨c, e1, hc⟩ := made h1 h2 hl
  obtain ⟨r, e2, hok⟩ := rec_is hc hr
  obtain ⟨k, e3, k0, k1⟩ := picked_is (n := a.2.2.2) (m := 40) h3 (by omega)
  have hle := encO_len hok
  have hw : Go.IntKind.wrap .i64 (6000 - k) = 6000 - k := wrap_i64 (by unfold i64; omega)
  have hto : TapeOk (List.replicate (Int.toNat (6000 - k)) (0 : Int), (0 : Int)) := ⟨by simp, by simp only [List.length_replicate]; omega, by simp only [List.length_replicate]; omega⟩
  have hlen : (List.replicate (Int.toNat (6000 - k)) (0 : Int)).length = Int.toNat (6000 - k) := List.length_replicate
  have hw2 : Go.IntKind.wrap .i64 (1 + ((encO r).length : Int)) = 1 + (encO r).length := wrap_i64 (by unfold i64; omega)
  have hap := append_is hto (encO_is hc hok) (by omega)
  rw [hlen] at hap
  have hrm := room_is hto
  rw [hlen] at hrm
  unfold r6
  simp only [e1, e2, e3, hw, hw2, Option.bind_some, encO_is hc hok, hrm, hap, decide_eq_true (show (0 : Int) ≤ 6000 - k by omega), decide_eq_true (show 6000 - k ≤ 6000 - k by omega), decide_eq_true (show (1 : Int) * (6000 - k) ≤ 281474976710656 by omega), decide_eq_true (show 6000 - k ≤ 9223372036854775807 by omega), Bool.and_self, cond_true, decide_true, Bool.not_true, Bool.not_false, cond_false,
    decide_eq_true (show (6000 : Int) - ((Int.toNat (6000 - k) : Nat) : Int) = k by omega), decide_eq_false (show ¬ ((encO r).length : Int) = 0 by omega)]
  by_cases g : 6000 < Int.toNat (6000 - k) + 1 + (encO r).length
  · rw [if_pos g, decide_eq_false (show ¬ (1 : Int) + ((encO r).length : Int) ≤ k by omega)]; rfl
  · rw [if_neg g, decide_eq_true (show (1 : Int) + ((encO r).length : Int) ≤ k by omega)]; rfl

theorem tapeTorn {a : Int × (List Int × (List Raw × Int))} (h1 : i64 a.1) (h2 : ∀ n ∈ a.2.1, i64 n) (hl : a.2.1.length ≤ 9223372036854775807) (hr : ∀ r ∈ a.2.2.1, RawOk r) (h3 : i64 a.2.2.2) : r8 a = some true := by
  obtain ⟨c, e1, hc⟩ := made h1 h2 hl
  obtain ⟨rs, e2, hm, hok⟩ := records_is hc hr (m := 20) (by omega)
  have htl := tapeOf_len hok
  have hw : Go.IntKind.wrap .i64 (((tapeOf rs).length : Int) + 1) = ((tapeOf rs).length : Int) + 1 := wrap_i64 (by unfold i64; omega)
  obtain ⟨y, e4, y0, y1⟩ := picked_is (n := a.2.2.2) (m := ((tapeOf rs).length : Int) + 1) h3 (by omega)
  obtain ⟨n, rfl⟩ := Int.eq_ofNat_of_zero_le y0
  obtain ⟨j, j1, j2, j3, j4⟩ := recover_is hc hok (by omega) (n := n) (by omega) (syn := 0) (by omega) (by omega)
  have hokj : ∀ r ∈ rs.take j, RecOk c r := fun r hr => hok r (List.mem_of_mem_take hr)
  have hlj : (rs.take j).length = j := by rw [List.length_take]; omega
  have htj := tapeOf_len hokj
  rw [hlj] at htj
  have hagain := recover_whole hc hokj (by omega) (syn := min (0 : Int) ((tapeOf (rs.take j)).length : Int)) (by omega) (by omega)
  have hiff : decide (decide (((rs.take j).length : Int) = (rs.length : Int)) = decide ((n : Int) = ((tapeOf rs).length : Int))) = true := by
    rw [decide_eq_true_eq, decide_eq_decide, hlj]
    constructor
    · intro e
      have : j = rs.length := by omega
      rw [this, List.take_length] at j2
      omega
    · intro e
      rcases Nat.lt_or_ge j rs.length with hlt | hge
      · have := j3 hlt
        have hmo := rowsOf_mono (rs.map encO) (show j + 1 ≤ (rs.map encO).length by rw [List.length_map]; omega)
        rw [List.take_length] at hmo
        simp only [← List.map_take] at hmo
        have hmo : (tapeOf (rs.take (j + 1))).length ≤ (tapeOf rs).length := hmo
        omega
      · omega
  rw [show ((20 : Nat) : Int) = (20 : Int) from rfl] at e2
  unfold r8
  simp only [e1, e2, e4, hw, taped_is hc hok (by omega), Option.bind_some, ok_mid (show (0 : Int) ≤ (n : Int) by omega) (show ((n : Nat) : Int) ≤ ((tapeOf rs).length : Nat) by omega), cond_true, midL, List.drop_zero, Int.toNat_natCast, j4, hagain, recover_bad, decide_true, begins_take hok (by omega), hiff,
    decide_eq_true (show ((tapeOf (rs.take j)).length : Int) ≤ (n : Int) by omega)]

theorem tapeOn {a : Int × (List Int × (List Raw × (Int × Raw)))} (h1 : i64 a.1) (h2 : ∀ n ∈ a.2.1, i64 n) (hl : a.2.1.length ≤ 9223372036854775807) (hr : ∀ r ∈ a.2.2.1, RawOk r) (h3 : i64 a.2.2.2.1) (hx : RawOk a.2.2.2.2) : r9 a = some true := by
  obtain ⟨c, e1, hc⟩ := made h1 h2 hl
  obtain ⟨rs, e2, hm, hok⟩ := records_is hc hr (m := 20) (by omega)
  have htl := tapeOf_len hok
  obtain ⟨k, e3, k0, k1⟩ := picked_is (n := a.2.2.2.1) (m := 200) h3 (by omega)
  obtain ⟨r, e5, hro⟩ := rec_is hc hx
  have hto := tape_ok hok (by omega) (syn := 0) (by omega) (by omega)
  have hle : left (tapeOf rs, 0) k ≤ (tapeOf rs).length := Nat.min_le_right _ _
  obtain ⟨j, j1, j2, j3, j4⟩ := recover_is hc hok (by omega) (n := left (tapeOf rs, 0) k) hle (syn := (left (tapeOf rs, 0) k : Int)) (by omega) (by omega)
  have hokj : ∀ r ∈ rs.take j, RecOk c r := fun r hr => hok r (List.mem_of_mem_take hr)
  have hlj : (rs.take j).length = j := by rw [List.length_take]; omega
  have htj := tapeOf_len hokj
  rw [hlj] at htj
  have hmin : min ((left (tapeOf rs, 0) k : Nat) : Int) ((tapeOf (rs.take j)).length : Int) = ((tapeOf (rs.take j)).length : Int) := by omega
  rw [hmin] at j4
  have hap := append_rec hc (t := (tapeOf (rs.take j), ((tapeOf (rs.take j)).length : Int))) ⟨by simp, by simp, by simp only; omega⟩ hro (by simp only; omega)
  rw [← tapeOf_app] at hap
  have hoka : ∀ z ∈ rs.take j ++ [r], RecOk c z := fun z hz => by
    rcases List.mem_append.1 hz with h | h
    · exact hokj z h
    · simp only [List.mem_singleton] at h; rw [h]; exact hro
  have hall := recover_whole hc hoka (by simp; omega) (syn := ((tapeOf (rs.take j)).length : Int)) (by omega) (by rw [tapeOf_app, List.length_append]; omega)
  have hbg := begins_is (b := [r]) hokj (by omega)
  have hw : Go.IntKind.wrap .i64 (((rs.take j).length : Int) + 1) = ((rs.take j).length : Int) + 1 := wrap_i64 (by unfold i64; omega)
  have hget : (rs.take j ++ [r])[(rs.take j).length]? = some r := List.getElem?_concat_length
  obtain ⟨-, -, g3, g4⟩ := in_len hget
  have hlen : (((rs.take j ++ [r]).length : Nat) : Int) = ((rs.take j).length : Int) + 1 := by simp
  rw [show ((20 : Nat) : Int) = (20 : Int) from rfl] at e2
  unfold r9
  simp only [e1, e2, e3, e5, taped_is hc hok (by omega), Option.bind_some, crash_is hto k0 (by omega), j4, hap, hall, decide_true, cond_true, hw, hlen, hbg, g3, g4, Int.toNat_natCast, sameRec_is hro]

theorem tapeKeeps {a : Int × (List Int × (List Raw × (Int × Int)))} (h1 : i64 a.1) (h2 : ∀ n ∈ a.2.1, i64 n) (hl : a.2.1.length ≤ 9223372036854775807) (hr : ∀ r ∈ a.2.2.1, RawOk r) (h3 : i64 a.2.2.2.1) (h4 : i64 a.2.2.2.2) : r10 a = some true := by
  obtain ⟨c, e1, hc⟩ := made h1 h2 hl
  obtain ⟨rs, e2, hm, hok⟩ := records_is hc hr (m := 25) (by omega)
  have htl := tapeOf_len hok
  have hw : Go.IntKind.wrap .i64 ((rs.length : Int) + 1) = (rs.length : Int) + 1 := wrap_i64 (by unfold i64; omega)
  obtain ⟨y, e3, y0, y1⟩ := picked_is (n := a.2.2.2.1) (m := (rs.length : Int) + 1) h3 (by omega)
  obtain ⟨k, rfl⟩ := Int.eq_ofNat_of_zero_le y0
  obtain ⟨p, e4, p0, p1⟩ := picked_is (n := a.2.2.2.2) (m := 200) h4 (by omega)
  have hokk : ∀ r ∈ rs.take k, RecOk c r := fun r hr => hok r (List.mem_of_mem_take hr)
  have hlk : (rs.take k).length = k := by rw [List.length_take]; omega
  have htk := tapeOf_len hokk
  rw [hlk] at htk
  have hmo : (tapeOf (rs.take k)).length ≤ (tapeOf rs).length := by
    have := rowsOf_mono (rs.map encO) (show k ≤ (rs.map encO).length by rw [List.length_map]; omega)
    rw [List.take_length] at this
    simp only [← List.map_take] at this
    exact this
  have hsy := sync_is (tape_ok hokk (by omega) (syn := 0) (by omega) (by omega))
  have hlp : loopR (r10_L0 rs c) ((), ((k : Int), (tapeOf (rs.take k), ((tapeOf (rs.take k)).length : Int)))) = some (.inl ((), (tapeOf rs, ((tapeOf (rs.take k)).length : Int)))) := by
    obtain ⟨q, g1, rfl⟩ := loop_rule (body := r10_L0 rs c) (fun d => ∃ i : Nat, i ≤ rs.length ∧ k ≤ i ∧ d = ((), ((i : Int), (tapeOf (rs.take i), ((tapeOf (rs.take k)).length : Int))))) (fun d => rs.length - d.2.1.toNat) (fun q => q = .inl ((), (tapeOf rs, ((tapeOf (rs.take k)).length : Int)))) (fun d hd => by
      obtain ⟨i, hi, hki, rfl⟩ := hd
      unfold r10_L0
      by_cases g : i < rs.length
      · left
        have hx : rs[i]? = some rs[i] := List.getElem?_eq_getElem g
        obtain ⟨g1, -, g3, g4⟩ := in_len hx
        have hoki := hok _ (List.mem_of_getElem? hx)
        have hti := tapeOf_len (rs := rs.take i) fun r hr => hok r (List.mem_of_mem_take hr)
        rw [List.length_take] at hti
        have hmi : (tapeOf (rs.take k)).length ≤ (tapeOf (rs.take i)).length := by
          have := rowsOf_mono (rs.map encO) hki
          simp only [← List.map_take] at this
          exact this
        have hap := append_rec hc (t := (tapeOf (rs.take i), ((tapeOf (rs.take k)).length : Int))) ⟨by simp, by simp only; omega, by simp only; omega⟩ hoki (by simp only; omega)
        have hw : Go.IntKind.wrap .i64 ((i : Int) + 1) = ((i + 1 : Nat) : Int) := wrap_i64 (by unfold i64; omega)
        have htk1 : tapeOf (rs.take (i + 1)) = tapeOf (rs.take i) ++ tapeOf [rs[i]] := by rw [List.take_add_one, hx, tapeOf_app]; rfl
        refine ⟨_, ?_, ⟨i + 1, g, by omega, rfl⟩, by simp only; omega⟩
        simp only [g1, g3, g4, cond_true, Int.toNat_natCast, Option.bind_some, hap, decide_true, Bool.not_true, cond_false, hw, htk1]
      · right
        have : i = rs.length := by omega
        subst this
        refine ⟨_, ?_, rfl⟩
        rw [List.take_length]
        simp only [at_len, cond_false]) ((), ((k : Int), (tapeOf (rs.take k), ((tapeOf (rs.take k)).length : Int)))) ⟨k, by omega, by omega, rfl⟩
    exact g1
  have hto := tape_ok hok (by omega) (syn := ((tapeOf (rs.take k)).length : Int)) (by omega) (by omega)
  have hle : left (tapeOf rs, ((tapeOf (rs.take k)).length : Int)) p ≤ (tapeOf rs).length := Nat.min_le_right _ _
  have hge : (tapeOf (rs.take k)).length ≤ left (tapeOf rs, ((tapeOf (rs.take k)).length : Int)) p := by unfold left; simp only; omega
  generalize hL : left (tapeOf rs, ((tapeOf (rs.take k)).length : Int)) p = L at hle hge
  obtain ⟨j, j1, j2, j3, j4⟩ := recover_is hc hok (by omega) (n := L) hle (syn := (L : Int)) (by omega) (by omega)
  have hkj : k ≤ j := by
    rcases Nat.lt_or_ge j k with hlt | hge2
    · have := j3 (by omega)
      have hm2 := rowsOf_mono (rs.map encO) (show j + 1 ≤ k by omega)
      simp only [← List.map_take] at hm2
      have hm2 : (tapeOf (rs.take (j + 1))).length ≤ (tapeOf (rs.take k)).length := hm2
      omega
    · exact hge2
  have hlj : (rs.take j).length = j := by rw [List.length_take]; omega
  have hmj : (tapeOf (rs.take k)).length ≤ (tapeOf (rs.take j)).length := by
    have := rowsOf_mono (rs.map encO) hkj
    simp only [← List.map_take] at this
    exact this
  have hmin : min ((L : Nat) : Int) ((tapeOf (rs.take j)).length : Int) = ((tapeOf (rs.take j)).length : Int) := by omega
  rw [hmin] at j4
  have hcr := crash_is hto p0 (by omega)
  rw [hL] at hcr
  rw [show ((25 : Nat) : Int) = (25 : Int) from rfl] at e2
  unfold r10
  simp only [e1, e2, e3, e4, hw, Option.bind_some, ok_mid (show (0 : Int) ≤ (k : Int) by omega) (show ((k : Nat) : Int) ≤ (rs.length : Nat) by omega), cond_true, midL, List.drop_zero, Int.toNat_natCast, taped_is hc hokk (by omega), hsy, hlp, Sum.elim_inl, hcr, j4, decide_true, begins_take hok (by omega), hlj,
    decide_eq_true (show (k : Int) ≤ (j : Int) by omega), decide_eq_true (show ((tapeOf (rs.take k)).length : Int) ≤ ((tapeOf (rs.take j)).length : Int) by omega)]
  by_cases hz : k = 0
  · subst hz; rfl
  · rw [decide_eq_false (show ¬ (k : Int) = 0 by omega)]
    have hpos : (0 : Int) < ((tapeOf (rs.take k)).length : Int) := by
      have hlt : 0 < (rs.map encO).length := by rw [List.length_map]; omega
      have h5 := rowsOf_len_at hlt
      simp only [← List.map_take] at h5
      have h6 := rowsOf_mono (rs.map encO) (show 0 + 1 ≤ k by omega)
      simp only [← List.map_take] at h6
      have h6 : (tapeOf (rs.take (0 + 1))).length ≤ (tapeOf (rs.take k)).length := h6
      have h5 : (tapeOf (rs.take (0 + 1))).length = (tapeOf (rs.take 0)).length + 1 + _ := h5
      omega
    rw [decide_eq_true hpos]; rfl

end Go.Hm
