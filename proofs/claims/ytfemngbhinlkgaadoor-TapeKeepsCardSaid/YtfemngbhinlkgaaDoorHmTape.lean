/- Tapes: what their calls come to. -/
import Derived.Test.YtfemngbhinlkgaaDoorHmBack
import Derived.Test.YtfemngbhinlkgaaDoorHaRows
namespace Go.Hm
open Go.RowKit Go.Proofs Go.V

abbrev Tape := List Int × Int

structure TapeOk (t : Tape) : Prop where
  s0 : 0 ≤ t.2
  s1 : t.2 ≤ t.1.length
  l : t.1.length ≤ 6000

theorem open_is {t : Tape} (h : TapeOk t) : r41 t = some (t, true) := by
  have h1 := h.s0; have h2 := h.s1; have h3 := h.l
  unfold r41
  rw [decide_eq_false (show ¬ t.2 < 0 by omega), decide_eq_false (show ¬ (t.1.length : Int) < t.2 by omega), decide_eq_false (show ¬ (6000 : Int) < (t.1.length : Int) by omega)]
  simp only [Bool.not_false, cond_true, Option.bind_some, cond_false, clone_is (show t.1.length ≤ 140737488351232 by omega)]

theorem open_bad {t : Tape} (h : ¬ (0 ≤ t.2 ∧ t.2 ≤ t.1.length)) : r41 t = some (([], 0), false) := by
  unfold r41
  by_cases h1 : t.2 < 0
  · rw [decide_eq_true h1]; rfl
  · rw [decide_eq_false h1, decide_eq_true (show (t.1.length : Int) < t.2 by omega)]; rfl

theorem concat_is {a b c : List Int} (ha : a.length ≤ 6000) (hb : b.length ≤ 6000) (hc : c.length ≤ 6000) : r42 [a, b, c] = some (a ++ b ++ c) := by
  have hle : ∀ x ∈ [a, b, c], x.length ≤ 6000 := fun x hx => by
    simp only [List.mem_cons, List.not_mem_nil, or_false] at hx
    rcases hx with e | e | e <;> rw [e] <;> assumption
  have l0 := fold_loop (body := r42_L0 [a, b, c]) (xs := [a, b, c]) (emb := fun j (s : Int) => (s, j)) (out := fun s => s) (fun s x => s + x.length) (fun i s => 0 ≤ s ∧ s ≤ 6000 * i ∧ i ≤ 3) (by simp) (fun i x s hx hI => by
    obtain ⟨h1, h2, -⟩ := in_len hx
    have hx1 := hle x (List.mem_of_getElem? hx)
    have hi3 := (List.getElem?_eq_some_iff.mp hx).1
    simp only [List.length_cons, List.length_nil] at hi3
    have hw : Go.IntKind.wrap .i64 (s + (x.length : Int)) = s + x.length := wrap_i64 (by unfold i64; omega)
    refine ⟨?_, by omega, by omega, by omega⟩
    unfold r42_L0
    simp only [h1, h2, cond_true, Option.bind_some, hw, decide_eq_false (show ¬ s + (x.length : Int) < 0 by omega), cond_false]) (fun s hI => by
    unfold r42_L0
    simp only [at_len, cond_false]) (s0 := 0) ⟨by omega, by omega, by omega⟩
  have l1 : ∀ l0 : List Int, l0.length = 0 → loopR (r42_L1 [a, b, c]) ((), ((0 : Int), l0)) = some ((), [a, b, c].foldl (fun l x => l ++ x) l0) := fun l0 hl0 =>
    (fold_loop (body := r42_L1 [a, b, c]) (xs := [a, b, c]) (emb := fun j (l : List Int) => ((), (j, l))) (out := fun l => ((), l)) (fun l x => l ++ x) (fun i l => l.length ≤ 6000 * i ∧ i ≤ 3) (by simp) (fun i x l hx hI => by
      obtain ⟨h1, h2, -⟩ := in_len hx
      have hx1 := hle x (List.mem_of_getElem? hx)
      have hi3 := (List.getElem?_eq_some_iff.mp hx).1
      simp only [List.length_cons, List.length_nil] at hi3
      refine ⟨?_, by rw [List.length_append]; omega, by omega⟩
      unfold r42_L1
      simp only [h1, h2, cond_true, Option.bind_some, roomOk_true (show (2 * (l.length + x.length) + 192) * 1 ≤ 281474976710656 by omega), app_eq]) (fun l hI => by
      unfold r42_L1
      simp only [at_len, cond_false]) (s0 := l0) ⟨by omega, by omega⟩).1
  obtain ⟨e1, e2, e3, -⟩ := l0
  have hsum : [a, b, c].foldl (fun (s : Int) x => s + x.length) 0 = (a.length : Int) + b.length + c.length := by simp
  rw [hsum] at e1 e2 e3
  generalize hS : (a.length : Int) + b.length + c.length = S at e1 e2 e3
  have hS1 : S ≤ 18000 := by omega
  unfold r42
  rw [e1]
  simp only [Option.bind_some, decide_eq_false (show ¬ S < 0 by omega), cond_false, Int.sub_zero, wrap_i64 (show i64 S by unfold i64; omega)]
  by_cases hz : 0 < S
  · rw [decide_eq_true hz]
    have ok1 : okB none (some (0 : Int)) none 0 = true := rfl
    have ok2 : okB none (some (0 : Int)) none ((List.replicate (Int.toNat S) (0 : Int)).length) = true := by
      rw [List.length_replicate]
      show (decide ((0 : Int) ≤ 0) && decide ((0 : Int) ≤ ((Int.toNat S : Nat) : Int))) = true
      rw [decide_eq_true (show (0 : Int) ≤ ((Int.toNat S : Nat) : Int) by omega)]; rfl
    simp only [cond_true, ok1, ok2, decide_eq_true (show (1 : Int) ≤ S by omega), roomOk_true (show (2 * (0 + Int.toNat S) + 192) * 1 ≤ 281474976710656 by omega), Bool.and_self, Option.bind_some]
    rw [l1 _ (by simp [midL])]
    simp [midL]
  · rw [decide_eq_false hz]
    simp only [cond_false, Option.bind_some]
    rw [l1 _ rfl]
    simp

theorem wrap_u8 {n : Int} (h0 : 0 ≤ n) (h1 : n < 256) : Go.IntKind.wrap .u8 n = n := by
  have hw : ∀ n : Int, Go.IntKind.wrap .u8 n = n % 256 := fun n => rfl
  rw [hw]; omega

theorem append_is {c : Cfg} {t : Tape} (h : TapeOk t) {r : Rec} {b : List Int} (he : r21 (c, r) = some (b, 0)) (hb : b.length ≤ 255) :
    r23 (c, t, r) = some (if 6000 < t.1.length + 1 + b.length then (([], 0), 8) else ((t.1 ++ (b.length : Int) :: b, t.2), 0)) := by
  have h3 := h.l
  have w1 : Go.IntKind.wrap .i64 ((t.1.length : Int) + 1) = (t.1.length : Int) + 1 := wrap_i64 (by unfold i64; omega)
  have w2 : Go.IntKind.wrap .i64 ((t.1.length : Int) + 1 + (b.length : Int)) = (t.1.length : Int) + 1 + b.length := wrap_i64 (by unfold i64; omega)
  unfold r23
  simp only [open_is h, he, Option.bind_some, Bool.not_true, cond_false, decide_true, w1, w2, wrap_u8 (show (0 : Int) ≤ (b.length : Int) by omega) (show (b.length : Int) < 256 by omega), concat_is h3 (show ([(b.length : Int)]).length ≤ 6000 by simp) (show b.length ≤ 6000 by omega)]
  by_cases hg : 6000 < t.1.length + 1 + b.length
  · rw [if_pos hg, decide_eq_true (show (6000 : Int) < (t.1.length : Int) + 1 + (b.length : Int) by omega)]; rfl
  · rw [if_neg hg, decide_eq_false (show ¬ (6000 : Int) < (t.1.length : Int) + 1 + (b.length : Int) by omega)]
    simp

theorem sync_is {t : Tape} (h : TapeOk t) : r30 t = some ((t.1, (t.1.length : Int)), 0) := by
  unfold r30
  simp only [open_is h, Option.bind_some, Bool.not_true, cond_false]

theorem room_is {t : Tape} (h : TapeOk t) : r22 t = some (6000 - (t.1.length : Int), 0) := by
  have h3 := h.l
  unfold r22
  simp only [open_is h, Option.bind_some, Bool.not_true, cond_false, wrap_i64 (show i64 (6000 - (t.1.length : Int)) by unfold i64; omega)]

/-- So many bytes are left behind a crash. -/
def left (t : Tape) (k : Int) : Nat := min (t.2.toNat + k.toNat) t.1.length

theorem ok_mid {n : Int} {l : Nat} (h0 : 0 ≤ n) (h1 : n ≤ l) : okB none (some n) (some n) l = true := by
  unfold okB
  simp only
  rw [decide_eq_true h0, decide_eq_true h1, decide_eq_true (show n ≤ n by omega)]; rfl

theorem crash_is {t : Tape} (h : TapeOk t) {k : Int} (hk : 0 ≤ k) (hk1 : k ≤ 1000000) : r26 (t, k) = some ((t.1.take (left t k), (left t k : Int)), 0) := by
  have h1 := h.s0; have h2 := h.s1; have h3 := h.l
  have w1 : Go.IntKind.wrap .i64 ((t.1.length : Int) - t.2) = (t.1.length : Int) - t.2 := wrap_i64 (by unfold i64; omega)
  have e : Go.IntKind.wrap .i64 (t.2 + min k ((t.1.length : Int) - t.2)) = (left t k : Int) := by
    rw [wrap_i64 (by unfold i64; omega)]
    unfold left
    omega
  have hl : left t k ≤ t.1.length := Nat.min_le_right _ _
  unfold r26
  simp only [open_is h, Option.bind_some, Bool.not_true, cond_false, decide_eq_false (show ¬ k < 0 by omega), w1, e, ok_mid (show (0 : Int) ≤ (left t k : Int) by omega) (show ((left t k : Nat) : Int) ≤ (t.1.length : Nat) by omega), cond_true, midL, List.drop_zero, Int.toNat_natCast]

theorem crash_bad {t : Tape} (h : TapeOk t) {k : Int} (hk : k < 0) : r26 (t, k) = some (([], 0), 2) := by
  unfold r26
  simp only [open_is h, Option.bind_some, Bool.not_true, cond_false, decide_eq_true hk, cond_true]

theorem crash_ok {t : Tape} (h : TapeOk t) (k : Int) : TapeOk (t.1.take (left t k), (left t k : Int)) := by
  have h3 := h.l
  have hl : left t k ≤ t.1.length := Nat.min_le_right _ _
  refine ⟨by simp only; omega, by simp only [List.length_take]; omega, by simp only [List.length_take]; omega⟩

/-! ### records on a tape -/
noncomputable def part (k : Int) : Parts := (idxI tab0 k).getD (false, false, false, false, false, false, false, false)

theorem part_is {c : Cfg} {r : Rec} (h : RecOk c r) : idxI tab0 r.1 = some (part r.1) := by
  obtain ⟨p, hp, -⟩ := h.form
  unfold part
  rw [hp]; rfl

noncomputable def encO (r : Rec) : List Int := encR (part r.1) r

theorem encO_is {c : Cfg} (hc : CfgOk c) {r : Rec} (h : RecOk c r) : r21 (c, r) = some (encO r, 0) := enc_is hc h (part_is h)

theorem encO_len {c : Cfg} {r : Rec} (h : RecOk c r) : 5 ≤ (encO r).length ∧ (encO r).length ≤ 20 := by
  unfold encO
  rw [enc_len]
  exact tot_le h _

theorem encO_dec {c : Cfg} (hc : CfgOk c) {r : Rec} (h : RecOk c r) : r43 (c, encO r) = some (r, 0) := dec_full hc h (part_is h)

noncomputable def tapeOf (rs : List Rec) : List Int := rowsOf (rs.map encO)

theorem tapeOf_len {c : Cfg} {rs : List Rec} (h : ∀ r ∈ rs, RecOk c r) : (tapeOf rs).length ≤ rs.length * 21 := by
  have := rowsOf_le (ls := rs.map encO) (m := 20) (fun l hl => by
    obtain ⟨r, hr, rfl⟩ := List.mem_map.1 hl
    exact (encO_len (h r hr)).2)
  rwa [List.length_map] at this

theorem tapeOf_app (a b : List Rec) : tapeOf (a ++ b) = tapeOf a ++ tapeOf b := by unfold tapeOf; rw [List.map_append, rowsOf_app]

theorem tapeOf_one (r : Rec) : tapeOf [r] = ((encO r).length : Int) :: encO r := rowsOf_one _

theorem append_rec {c : Cfg} (hc : CfgOk c) {t : Tape} (h : TapeOk t) {r : Rec} (hr : RecOk c r) (hl : t.1.length + 21 ≤ 6000) : r23 (c, t, r) = some ((t.1 ++ tapeOf [r], t.2), 0) := by
  have he := encO_len hr
  rw [append_is h (encO_is hc hr) (by omega), if_neg (by omega), tapeOf_one]

theorem records_is {c : Cfg} (hc : CfgOk c) {l : List Raw} (hl : ∀ r ∈ l, RawOk r) {m : Nat} (hm : m ≤ 100) : ∃ rs, r25 (c, l, (m : Int)) = some rs ∧ rs.length ≤ m ∧ ∀ r ∈ rs, RecOk c r := by
  obtain ⟨q, h1, rs, rfl, h2, h3⟩ := loop_rule (body := r25_L0 (c, l, (m : Int))) (fun d => ∃ i : Nat, d.2.1 = i ∧ i ≤ m ∧ d.2.2.length = i ∧ ∀ r ∈ d.2.2, RecOk c r) (fun d => m - d.2.1.toNat) (fun q => ∃ rs, q = ((), rs) ∧ rs.length ≤ m ∧ ∀ r ∈ rs, RecOk c r) (fun d hd => by
    obtain ⟨⟨⟩, j, rs⟩ := d
    obtain ⟨i, hi, him, hlen, hok⟩ := hd
    simp only at hi hlen hok
    subst hi
    unfold r25_L0
    by_cases g : i < l.length
    · by_cases g2 : i < m
      · left
        have hx : l[i]? = some l[i] := List.getElem?_eq_getElem g
        obtain ⟨e1, e2, -⟩ := in_len hx
        obtain ⟨r, e3, e4⟩ := rec_is hc (hl _ (List.mem_of_getElem? hx))
        have hw : Go.IntKind.wrap .i64 ((i : Int) + 1) = ((i + 1 : Nat) : Int) := wrap_i64 (by unfold i64; omega)
        refine ⟨((), (((i + 1 : Nat) : Int), rs ++ [r])), ?_, ⟨i + 1, rfl, g2, by simp [hlen], fun x hx => ?_⟩, by simp only; omega⟩
        · simp only [e1, cond_true, Option.bind_some, decide_eq_true (show (i : Int) < (m : Int) by omega), e2, e3, roomOk_true (show (2 * (rs.length + 1) + 192) * 80 ≤ 281474976710656 by omega), app_eq, hw]
        · rcases List.mem_append.1 hx with h | h
          · exact hok x h
          · simp only [List.mem_singleton] at h; rw [h]; exact e4
      · right
        refine ⟨((), rs), ?_, rs, rfl, by omega, hok⟩
        simp only [decide_eq_true (show (i : Int) < (l.length : Int) by omega), decide_eq_false (show ¬ (i : Int) < (m : Int) by omega), cond_true, cond_false, Option.bind_some]
    · right
      refine ⟨((), rs), ?_, rs, rfl, by omega, hok⟩
      simp only [decide_eq_false (show ¬ (i : Int) < (l.length : Int) by omega), cond_false, Option.bind_some]) ((), (0, [])) ⟨0, rfl, by omega, rfl, by simp⟩
  refine ⟨rs, ?_, h2, h3⟩
  unfold r25
  rw [h1]
  rfl

theorem taped_is {c : Cfg} (hc : CfgOk c) {rs : List Rec} (h : ∀ r ∈ rs, RecOk c r) (hl : rs.length ≤ 100) : r24 (c, rs) = some ((tapeOf rs, 0), true) := by
  obtain ⟨q, h1, h2⟩ := loop_rule (body := r24_L0 (c, rs)) (fun d => ∃ (i : Nat) (z : Tape), i ≤ rs.length ∧ d = ((), ((), ((i : Int), (z, ((tapeOf (rs.take i), 0) : Tape)))))) (fun d => rs.length - d.2.2.1.toNat) (fun q => ∃ z : Tape, q = .inl ((), ((), (z, ((tapeOf rs, 0) : Tape))))) (fun d hd => by
    obtain ⟨i, z, hi, rfl⟩ := hd
    unfold r24_L0
    by_cases g : i < rs.length
    · left
      have hx : rs[i]? = some rs[i] := List.getElem?_eq_getElem g
      obtain ⟨e1, e2, -⟩ := in_len hx
      have hok := h _ (List.mem_of_getElem? hx)
      have hle := encO_len hok
      have htl := tapeOf_len (rs := rs.take i) fun r hr => h r (List.mem_of_mem_take hr)
      rw [List.length_take] at htl
      have hap := append_rec hc (t := (tapeOf (rs.take i), 0)) ⟨by simp, by simp, by simp only; omega⟩ hok (by simp only; omega)
      have hw : Go.IntKind.wrap .i64 ((i : Int) + 1) = ((i + 1 : Nat) : Int) := wrap_i64 (by unfold i64; omega)
      have htk : tapeOf (rs.take (i + 1)) = tapeOf (rs.take i) ++ tapeOf [rs[i]] := by rw [List.take_add_one, hx, tapeOf_app]; rfl
      refine ⟨((), ((), (((i + 1 : Nat) : Int), (z, (tapeOf (rs.take (i + 1)), 0))))), ?_, ⟨i + 1, z, g, rfl⟩, by simp only; omega⟩
      have hlt : ¬ ((tapeOf (rs.take i) ++ tapeOf [rs[i]]).length : Int) ≤ ((tapeOf (rs.take i)).length : Int) := by
        rw [List.length_append, tapeOf_one]; simp only [List.length_cons]; omega
      simp only [e1, e2, cond_true, Option.bind_some, hap, decide_true, Bool.not_true, Bool.not_false, decide_eq_false hlt, cond_false, hw, htk]
    · right
      have : i = rs.length := by omega
      subst this
      refine ⟨_, ?_, z, rfl⟩
      rw [List.take_length]
      simp only [at_len, cond_false]) ((), ((), ((0 : Int), (([], (0 : Int)), ([], (0 : Int)))))) ⟨0, ([], 0), by omega, rfl⟩
  obtain ⟨z, rfl⟩ := h2
  unfold r24
  rw [h1]
  rfl

theorem begins_is {c : Cfg} {a b : List Rec} (h : ∀ r ∈ a, RecOk c r) (hl : a.length ≤ 1000) : r28 (a, a ++ b) = some true := by
  unfold r28
  rw [decide_eq_false (show ¬ (((a ++ b).length : Nat) : Int) < (a.length : Int) by rw [List.length_append]; omega)]
  simp only [cond_false]
  rw [all_loop (xs := a) (by omega) (fun i x hx => ?_) ?_]
  · rfl
  · unfold r28_L0
    simp only [at_len, cond_false]
  · obtain ⟨e1, e2, -⟩ := in_len hx
    have hlt := (List.getElem?_eq_some_iff.mp hx).1
    have hx2 : (a ++ b)[i]? = some x := by rw [List.getElem?_append_left hlt]; exact hx
    obtain ⟨-, g2, -⟩ := in_len hx2
    unfold r28_L0
    simp only [e1, e2, g2, cond_true, Option.bind_some, sameRec_is (h x (List.mem_of_getElem? hx)), Bool.not_true, cond_false]

theorem begins_take {c : Cfg} {a : List Rec} (h : ∀ r ∈ a, RecOk c r) (hl : a.length ≤ 1000) (j : Nat) : r28 (a.take j, a) = some true := by
  have := begins_is (c := c) (a := a.take j) (b := a.drop j) (fun r hr => h r (List.mem_of_mem_take hr)) (by rw [List.length_take]; omega)
  rwa [List.take_append_drop] at this

theorem dec_nothing {c : Cfg} (hc : CfgOk c) : r43 (c, []) = some (zeroR, 5) := by
  unfold r43
  simp only [check_ok hc, Option.bind_some, clone_is (show ([] : List Int).length ≤ 140737488351232 by simp)]
  rfl

/-- What is recovered of so many bytes of a tape. -/
theorem recover_is {c : Cfg} (hc : CfgOk c) {rs : List Rec} (h : ∀ r ∈ rs, RecOk c r) (hl : rs.length ≤ 100) {n : Nat} (hn : n ≤ (tapeOf rs).length) {syn : Int} (s0 : 0 ≤ syn) (s1 : syn ≤ n) :
    ∃ j, j ≤ rs.length ∧ (tapeOf (rs.take j)).length ≤ n ∧ (j < rs.length → n < (tapeOf (rs.take (j + 1))).length) ∧ r27 (c, ((tapeOf rs).take n, syn)) = some (rs.take j, (tapeOf (rs.take j), min syn ((tapeOf (rs.take j)).length : Int)), 0) := by
  obtain ⟨j, j1, j2, j3⟩ := whole (rs.map encO) n
  rw [List.length_map] at j1 j3
  simp only [← List.map_take] at j2 j3
  have j2 : (tapeOf (rs.take j)).length ≤ n := j2
  have htl := tapeOf_len h
  have hdl : ((tapeOf rs).take n).length = n := by rw [List.length_take]; omega
  refine ⟨j, j1, j2, j3, ?_⟩
  obtain ⟨q, h1, rfl⟩ := loop_rule (body := r27_L0 (((tapeOf rs).take n, syn), true) (c, ((tapeOf rs).take n, syn))) (fun d => ∃ i : Nat, i ≤ j ∧ d = ((), (((tapeOf (rs.take i)).length : Int), rs.take i))) (fun d => j - d.2.2.length) (fun q => q = ((), (((tapeOf (rs.take j)).length : Int), rs.take j))) (fun d hd => by
    obtain ⟨i, hij, rfl⟩ := hd
    have hmono : (tapeOf (rs.take i)).length ≤ (tapeOf (rs.take j)).length := by
      have := rowsOf_mono (rs.map encO) hij
      simp only [← List.map_take] at this
      exact this
    unfold r27_L0
    by_cases g : i < j
    · left
      have hir : i < (rs.map encO).length := by rw [List.length_map]; omega
      have hx : rs[i]? = some rs[i] := List.getElem?_eq_getElem (by omega)
      have hok := h _ (List.mem_of_getElem? hx)
      have hle := encO_len hok
      have hget : (rs.map encO)[i] = encO rs[i] := by rw [List.getElem_map]
      have hla := rowsOf_len_at hir
      simp only [← List.map_take, hget] at hla
      have hmono1 : (tapeOf (rs.take (i + 1))).length ≤ (tapeOf (rs.take j)).length := by
        have := rowsOf_mono (rs.map encO) (show i + 1 ≤ j by omega)
        simp only [← List.map_take] at this
        exact this
      have hla2 : (tapeOf (rs.take (i + 1))).length = (tapeOf (rs.take i)).length + 1 + (encO rs[i]).length := hla
      have hat := row_at (n := n) hir (by simp only [← List.map_take]; show (tapeOf (rs.take i)).length < n; omega)
      simp only [← List.map_take, hget] at hat
      have hat : ((tapeOf rs).take n)[(tapeOf (rs.take i)).length]? = some ((encO rs[i]).length : Int) := hat
      obtain ⟨e1, -, e3, e4⟩ := in_len hat
      have hin := row_in (n := n) hir (by simp only [← List.map_take]; show (tapeOf (rs.take (i + 1))).length ≤ n; omega)
      simp only [← List.map_take, hget] at hin
      have hin : (((tapeOf rs).take n).drop ((tapeOf (rs.take i)).length + 1)).take (encO rs[i]).length = encO rs[i] := hin
      have w1 : Go.IntKind.wrap .i64 (((tapeOf (rs.take i)).length : Int) + 1) = (((tapeOf (rs.take i)).length + 1 : Nat) : Int) := wrap_i64 (by unfold i64; omega)
      have w2 : Go.IntKind.wrap .i64 ((encO rs[i]).length : Int) = (encO rs[i]).length := wrap_i64 (by unfold i64; omega)
      have w3 : Go.IntKind.wrap .i64 ((((tapeOf (rs.take i)).length + 1 : Nat) : Int) + ((encO rs[i]).length : Int)) = (((tapeOf (rs.take i)).length + 1 + (encO rs[i]).length : Nat) : Int) := by rw [wrap_i64 (by unfold i64; omega)]; omega
      have w4 : Go.IntKind.wrap .i64 ((1 : Int) + ((encO rs[i]).length : Int)) = 1 + (encO rs[i]).length := wrap_i64 (by unfold i64; omega)
      have w5 : Go.IntKind.wrap .i64 (((tapeOf (rs.take i)).length : Int) + (1 + ((encO rs[i]).length : Int))) = ((tapeOf (rs.take (i + 1))).length : Int) := by rw [wrap_i64 (by unfold i64; omega)]; omega
      have ok : okB (some ((((tapeOf (rs.take i)).length + 1 : Nat) : Int))) (some (((tapeOf (rs.take i)).length + 1 + (encO rs[i]).length : Nat) : Int)) none ((tapeOf rs).take n).length = true := by
        unfold okB
        simp only [hdl]
        rw [decide_eq_true (show (0 : Int) ≤ ((((tapeOf (rs.take i)).length + 1 : Nat) : Int)) by omega), decide_eq_true (show ((((tapeOf (rs.take i)).length + 1 : Nat) : Int)) ≤ (((tapeOf (rs.take i)).length + 1 + (encO rs[i]).length : Nat) : Int) by omega), decide_eq_true (show (((tapeOf (rs.take i)).length + 1 + (encO rs[i]).length : Nat) : Int) ≤ (n : Int) by omega)]; rfl
      have hdec := encO_dec hc hok
      have htk : rs.take (i + 1) = rs.take i ++ [rs[i]] := by rw [List.take_add_one, hx]; rfl
      have hng : ¬ ((((tapeOf rs).take n).length : Nat) : Int) < (((tapeOf (rs.take i)).length + 1 + (encO rs[i]).length : Nat) : Int) := by rw [hdl]; omega
      refine ⟨((), (((tapeOf (rs.take (i + 1))).length : Int), rs.take (i + 1))), ?_, ⟨i + 1, g, rfl⟩, by simp only [List.length_take]; omega⟩
      simp only [e1, e3, e4, cond_true, Int.toNat_natCast, Option.bind_some, w1, w2, w3, w4, w5, decide_eq_false hng, cond_false, ok, Nat.add_sub_cancel_left, midL, hin, hdec, decide_true, Bool.not_true, roomOk_true (show (2 * ((rs.take i).length + 1) + 192) * 80 ≤ 281474976710656 by rw [List.length_take]; omega), app_eq, htk]
    · right
      have : i = j := by omega
      subst this
      refine ⟨_, ?_, rfl⟩
      by_cases g2 : (tapeOf (rs.take i)).length < n
      · have hlt : i < rs.length := by
          rcases Nat.lt_or_ge i rs.length with h | h
          · exact h
          · rw [List.take_of_length_le h] at g2; omega
        have hir : i < (rs.map encO).length := by rw [List.length_map]; omega
        have hx : rs[i]? = some rs[i] := List.getElem?_eq_getElem hlt
        have hok := h _ (List.mem_of_getElem? hx)
        have hle := encO_len hok
        have hget : (rs.map encO)[i] = encO rs[i] := by rw [List.getElem_map]
        have hla := rowsOf_len_at hir
        simp only [← List.map_take, hget] at hla
        have hla2 : (tapeOf (rs.take (i + 1))).length = (tapeOf (rs.take i)).length + 1 + (encO rs[i]).length := hla
        have hat := row_at (n := n) hir (by simp only [← List.map_take]; exact g2)
        simp only [← List.map_take, hget] at hat
        have hat : ((tapeOf rs).take n)[(tapeOf (rs.take i)).length]? = some ((encO rs[i]).length : Int) := hat
        obtain ⟨e1, -, e3, e4⟩ := in_len hat
        have hbig := j3 hlt
        have hbig : n < (tapeOf (rs.take (i + 1))).length := hbig
        have w1 : Go.IntKind.wrap .i64 (((tapeOf (rs.take i)).length : Int) + 1) = (((tapeOf (rs.take i)).length + 1 : Nat) : Int) := wrap_i64 (by unfold i64; omega)
        have w2 : Go.IntKind.wrap .i64 ((encO rs[i]).length : Int) = (encO rs[i]).length := wrap_i64 (by unfold i64; omega)
        have w3 : Go.IntKind.wrap .i64 ((((tapeOf (rs.take i)).length + 1 : Nat) : Int) + ((encO rs[i]).length : Int)) = (((tapeOf (rs.take i)).length + 1 + (encO rs[i]).length : Nat) : Int) := by rw [wrap_i64 (by unfold i64; omega)]; omega
        have hng : ((((tapeOf rs).take n).length : Nat) : Int) < (((tapeOf (rs.take i)).length + 1 + (encO rs[i]).length : Nat) : Int) := by rw [hdl]; omega
        simp only [e1, e3, e4, cond_true, Int.toNat_natCast, Option.bind_some, w1, w2, w3, decide_eq_true hng]
      · simp only [decide_eq_false (show ¬ ((tapeOf (rs.take i)).length : Int) < ((((tapeOf rs).take n).length : Nat) : Int) by rw [hdl]; omega), cond_false]) ((), ((0 : Int), [])) ⟨0, by omega, by simp [tapeOf, rowsOf]⟩
  have ht : TapeOk ((tapeOf rs).take n, syn) := ⟨s0, by simp only [hdl]; exact s1, by simp only [hdl]; omega⟩
  have hpre := row_prefix (ls := rs.map encO) (n := n) (j := j) (by simp only [← List.map_take]; exact j2)
  simp only [← List.map_take] at hpre
  have hpre : ((tapeOf rs).take n).take (tapeOf (rs.take j)).length = tapeOf (rs.take j) := hpre
  have hdn : r43 (c, []) = some (zeroR, 5) := dec_nothing hc
  unfold r27
  simp only [open_is ht, Option.bind_some, Bool.not_true, cond_false, hdn, decide_true, h1, ok_mid (show (0 : Int) ≤ ((tapeOf (rs.take j)).length : Int) by omega) (show (((tapeOf (rs.take j)).length : Nat) : Int) ≤ ((((tapeOf rs).take n).length : Nat) : Int) by rw [hdl]; omega), cond_true, midL, List.drop_zero, Int.toNat_natCast, hpre]

theorem recover_whole {c : Cfg} (hc : CfgOk c) {rs : List Rec} (h : ∀ r ∈ rs, RecOk c r) (hl : rs.length ≤ 100) {syn : Int} (s0 : 0 ≤ syn) (s1 : syn ≤ (tapeOf rs).length) :
    r27 (c, (tapeOf rs, syn)) = some (rs, (tapeOf rs, syn), 0) := by
  obtain ⟨j, j1, j2, j3, j4⟩ := recover_is hc h hl (n := (tapeOf rs).length) (Nat.le_refl _) s0 s1
  have hj : j = rs.length := by
    rcases Nat.lt_or_ge j rs.length with hlt | hge
    · have := j3 hlt
      have hm := rowsOf_mono (rs.map encO) (show j + 1 ≤ rs.length by omega)
      simp only [← List.map_take, List.take_length] at hm
      have hm : (tapeOf (rs.take (j + 1))).length ≤ (tapeOf rs).length := hm
      omega
    · omega
  subst hj
  rw [List.take_length, List.take_length] at j4
  rw [j4, show min syn ((tapeOf rs).length : Int) = syn by omega]

theorem recover_bad {c : Cfg} : r27 (c, ([], 1)) = some ([], ([], 0), 9) := by
  unfold r27
  rw [open_bad (by simp)]
  rfl

end Go.Hm
