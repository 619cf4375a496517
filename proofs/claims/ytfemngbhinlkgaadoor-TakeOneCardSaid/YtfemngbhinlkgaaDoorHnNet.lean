/- Messages on their way. -/
import Derived.Test.YtfemngbhinlkgaaDoorHnMsg
import Derived.Test.YtfemngbhinlkgaaDoorHaRun
namespace Go.Hn
open Go.RowKit Go.Proofs Go.V

abbrev Fly := List (List Msg)

/-- Between which sites a message is on its way. -/
def ixM (c : Cfg) (m : Msg) : Int := m.2.1 * c.1 + m.2.2.1

theorem sites3 {c : Cfg} (hc : CfgOk c) : c.1 = 1 ∨ c.1 = 2 ∨ c.1 = 3 := by
  have := hc.s0; have := hc.s1; omega

theorem wrap2 {a b : Int} (h1 : i64 a) (h2 : i64 (a + b)) : Go.IntKind.wrap .i64 (Go.IntKind.wrap .i64 a + b) = a + b := by
  rw [wrap_i64 h1, wrap_i64 h2]

theorem ixM_is {c : Cfg} (hc : CfgOk c) {m : Msg} (hm : MsgOk c m) :
    0 ≤ ixM c m ∧ ixM c m < c.1 * c.1 ∧ Go.IntKind.wrap .i64 (Go.IntKind.wrap .i64 (m.2.1 * c.1) + m.2.2.1) = ixM c m ∧ Int.tdiv (ixM c m) c.1 = m.2.1 ∧ Int.tmod (ixM c m) c.1 = m.2.2.1 := by
  have f0 := hm.f0; have f1 := hm.f1; have t0 := hm.t0; have t1 := hm.t1
  unfold ixM
  have key : ∀ s : Int, (s = 1 ∨ s = 2 ∨ s = 3) → m.2.1 < s → m.2.2.1 < s → 0 ≤ m.2.1 * s + m.2.2.1 ∧ m.2.1 * s + m.2.2.1 < s * s ∧ Go.IntKind.wrap .i64 (Go.IntKind.wrap .i64 (m.2.1 * s) + m.2.2.1) = m.2.1 * s + m.2.2.1 ∧ Int.tdiv (m.2.1 * s + m.2.2.1) s = m.2.1 ∧ Int.tmod (m.2.1 * s + m.2.2.1) s = m.2.2.1 := by
    intro s hs h1 h2
    rcases hs with rfl | rfl | rfl <;> refine ⟨by omega, by omega, ?_, ?_, ?_⟩ <;> first | exact wrap2 (by unfold i64; omega) (by unfold i64; omega) | (rw [Int.tdiv_eq_ediv_of_nonneg (by omega)]; omega) | (rw [Int.tmod_eq_emod_of_nonneg (by omega)]; omega)
  exact key c.1 (sites3 hc) f1 t1

theorem sq_is {c : Cfg} (hc : CfgOk c) : Go.IntKind.wrap .i64 (c.1 * c.1) = c.1 * c.1 ∧ 1 ≤ c.1 * c.1 ∧ c.1 * c.1 ≤ 9 := by
  rcases sites3 hc with e | e | e <;> rw [e] <;> exact ⟨by decide, by decide, by decide⟩

structure FlyOk (c : Cfg) (fly : Fly) : Prop where
  len : (fly.length : Int) = c.1 * c.1
  each : ∀ l ∈ fly, l.length ≤ 30
  pos : ∀ (i : Nat) l, fly[i]? = some l → ∀ m ∈ l, MsgOk c m ∧ ixM c m = i

theorem checkL_is {c : Cfg} (hc : CfgOk c) {fly : Fly} {i : Nat} {l : List Msg} (hl : l.length ≤ 30) (hi : (i : Int) < c.1 * c.1) (h : ∀ m ∈ l, MsgOk c m ∧ ixM c m = i) : loopR (r16_L0 l (c, fly) (i : Int)) (0 : Int) = some (.inl ()) := by
  have hs0 := hc.s0
  obtain ⟨r, h1, h2⟩ := loop_rule (body := r16_L0 l (c, fly) (i : Int)) (fun j => 0 ≤ j ∧ j ≤ l.length) (fun j => l.length - j.toNat) (fun r => r = .inl ()) (fun j hj => by
    unfold r16_L0
    by_cases g : j < l.length
    · obtain ⟨m, e1, e2⟩ := idxI_is hj.1 g
      obtain ⟨hm, hx⟩ := h m (List.mem_of_getElem? e2)
      have hw : Go.IntKind.wrap .i64 (j + 1) = j + 1 := wrap_i64 (by unfold i64; omega)
      obtain ⟨x0, x1, _, x3, x4⟩ := ixM_is hc hm
      rw [hx] at x3 x4
      have hsq := sq_is hc
      have hd : Go.IntKind.wrap .i64 (Int.tdiv (i : Int) c.1) = m.2.1 := by
        rw [x3]; have := hm.f0; have := hm.f1; have := hc.s1; exact wrap_i64 (by unfold i64; omega)
      have hz : ¬ c.1 = 0 := by omega
      rw [decide_eq_true g]
      simp only [cond_true, e1, Option.bind_some, msg_ok hc hm, decide_true, Bool.not_true, Bool.not_false, decide_eq_false hz, cond_false, hd, x4, hw]
      exact .inl ⟨_, rfl, ⟨by omega, by omega⟩, by omega⟩
    · rw [decide_eq_false g]
      exact .inr ⟨_, rfl, rfl⟩) 0 (by simp)
  rw [h1, h2]

theorem netCheck_is {c : Cfg} (hc : CfgOk c) {fly : Fly} (h : FlyOk c fly) : r16 (c, fly) = some 0 := by
  have hsq := sq_is hc
  have hlen := h.len
  obtain ⟨r, h1, h2⟩ := loop_rule (body := r16_L1 (c, fly)) (fun j => 0 ≤ j ∧ j ≤ fly.length) (fun j => fly.length - j.toNat) (fun r => r = .inl ()) (fun j hj => by
    unfold r16_L1
    by_cases g : j < fly.length
    · obtain ⟨l, e1, e2⟩ := idxI_is hj.1 g
      have hl := h.each l (List.mem_of_getElem? e2)
      have hw : Go.IntKind.wrap .i64 (j + 1) = j + 1 := wrap_i64 (by unfold i64; omega)
      obtain ⟨i, rfl⟩ := Int.eq_ofNat_of_zero_le hj.1
      have hck := checkL_is hc (fly := fly) hl (by omega) (h.pos i l (by simpa using e2))
      rw [decide_eq_true g]
      simp only [cond_true, e1, Option.bind_some, decide_eq_false (by omega : ¬ (30 : Int) < (l.length : Int)), cond_false, hck, Sum.elim_inl, hw]
      exact .inl ⟨_, rfl, ⟨by omega, by omega⟩, by omega⟩
    · rw [decide_eq_false g]
      exact .inr ⟨_, rfl, rfl⟩) 0 (by simp)
  unfold r16
  simp only [check_ok hc, Option.bind_some, decide_true, Bool.not_true, cond_false, hsq.1]
  rw [decide_eq_true hlen, h1, h2]
  rfl

theorem netOwn_is {c : Cfg} (hc : CfgOk c) {fly : Fly} (h : FlyOk c fly) : r34 fly = some fly := by
  have hsq := sq_is hc
  have hlen := h.len
  obtain ⟨r, h1, h2⟩ := loop_rule (body := r34_L0 fly) (fun d => 0 ≤ d.2.1 ∧ d.2.1 ≤ fly.length ∧ d.2.2 = fly.take d.2.1.toNat) (fun d => fly.length - d.2.1.toNat) (fun r => r.2 = fly) (fun d hd => by
    obtain ⟨u, j, out⟩ := d
    obtain ⟨d0, d1, d2⟩ := hd
    simp only at d0 d1 d2
    unfold r34_L0
    by_cases g : j < fly.length
    · obtain ⟨l, e1, e2⟩ := idxI_is d0 g
      have hl := h.each l (List.mem_of_getElem? e2)
      have hw : Go.IntKind.wrap .i64 (j + 1) = j + 1 := wrap_i64 (by unfold i64; omega)
      have hcl : r51 l = some l := nilR_clone (by omega)
      have hol : out.length ≤ 9 := by rw [d2, List.length_take]; omega
      simp only [decide_eq_true g, cond_true, e1, Option.bind_some, hcl, roomOk_true (show (2 * (out.length + 1) + 192) * 24 ≤ 281474976710656 by omega), hw]
      refine .inl ⟨_, rfl, ⟨by simp only; omega, by simp only; omega, ?_⟩, by simp only; omega⟩
      simp only [app_eq]
      rw [show (j + 1).toNat = j.toNat + 1 by omega, List.take_add_one, e2, d2]; rfl
    · simp only [decide_eq_false g]
      refine .inr ⟨_, rfl, ?_⟩
      simp only
      rw [d2, List.take_of_length_le (by omega)]) ((), 0, []) (by simp)
  unfold r34
  rw [h1]
  simp only [Option.bind_some, h2]

/-- Sending one message. -/
def send1 (c : Cfg) (fly : Fly) (m : Msg) : Fly := match fly[(ixM c m).toNat]? with
  | some l => if l.length < 30 then fly.set (ixM c m).toNat (l ++ [m]) else fly
  | none => fly

theorem send1_ok {c : Cfg} (hc : CfgOk c) {fly : Fly} (h : FlyOk c fly) {m : Msg} (hm : MsgOk c m) : FlyOk c (send1 c fly m) := by
  unfold send1
  obtain ⟨x0, x1, -⟩ := ixM_is hc hm
  split
  · rename_i l hl
    split
    · rename_i hlt
      refine ⟨by rw [List.length_set]; exact h.len, fun l' hl' => ?_, fun i l' hl' m' hm' => ?_⟩
      · rcases List.mem_or_eq_of_mem_set hl' with e | e
        · exact h.each _ e
        · rw [e]; simp; omega
      · rw [List.getElem?_set] at hl'
        split at hl'
        · rename_i hi
          split at hl'
          · simp only [Option.some.injEq] at hl'
            subst hl'
            rcases List.mem_append.1 hm' with e | e
            · have := h.pos _ _ hl m' e
              exact ⟨this.1, by rw [this.2, hi]⟩
            · simp only [List.mem_singleton] at e
              subst e
              exact ⟨hm, by omega⟩
          · cases hl'
        · exact h.pos _ _ hl' m' hm'
    · exact h
  · exact h

theorem netSend_is {c : Cfg} (hc : CfgOk c) {fly : Fly} (h : FlyOk c fly) {ms : List Msg} (hl : ms.length ≤ 1000) (hm : ∀ m ∈ ms, MsgOk c m) : r14 (c, fly, ms) = some (ms.foldl (send1 c) fly, 0) ∧ FlyOk c (ms.foldl (send1 c) fly) := by
  have hsq := sq_is hc
  obtain ⟨r, h1, h2⟩ := loop_rule (body := r14_L0 (c, fly, ms)) (fun j => 0 ≤ j ∧ j ≤ ms.length) (fun j => ms.length - j.toNat) (fun r => r = .inl ()) (fun j hj => by
    unfold r14_L0
    by_cases g : j < ms.length
    · obtain ⟨m, e1, e2⟩ := idxI_is hj.1 g
      have hw : Go.IntKind.wrap .i64 (j + 1) = j + 1 := wrap_i64 (by unfold i64; omega)
      rw [decide_eq_true g]
      simp only [cond_true, e1, Option.bind_some, msg_ok hc (hm m (List.mem_of_getElem? e2)), decide_true, Bool.not_true, cond_false, hw]
      exact .inl ⟨_, rfl, ⟨by omega, by omega⟩, by omega⟩
    · rw [decide_eq_false g]
      exact .inr ⟨_, rfl, rfl⟩) 0 (by simp)
  obtain ⟨q, k1, k2, k3⟩ := loop_rule (body := r14_L1 (c, fly, ms)) (fun d => 0 ≤ d.2.1 ∧ d.2.1 ≤ ms.length ∧ d.2.2 = (ms.take d.2.1.toNat).foldl (send1 c) fly ∧ FlyOk c d.2.2) (fun d => ms.length - d.2.1.toNat) (fun r => r.2 = ms.foldl (send1 c) fly ∧ FlyOk c r.2) (fun d hd => by
    obtain ⟨u, j, out⟩ := d
    obtain ⟨d0, d1, d2, d3⟩ := hd
    simp only at d0 d1 d2 d3
    unfold r14_L1
    by_cases g : j < ms.length
    · obtain ⟨m, e1, e2⟩ := idxI_is d0 g
      have hmm := hm m (List.mem_of_getElem? e2)
      obtain ⟨x0, x1, x2, -⟩ := ixM_is hc hmm
      have hw : Go.IntKind.wrap .i64 (j + 1) = j + 1 := wrap_i64 (by unfold i64; omega)
      have hlen := d3.len
      have hin : inB (ixM c m) out.length = true := inB_true x0 (by omega)
      obtain ⟨l, f1, f2⟩ := idxN_is (xs := out) (n := (ixM c m).toNat) (by omega)
      have hl30 := d3.each l (List.mem_of_getElem? f2)
      have hroom : roomOk false l.length 1 96 = true := roomOk_true (by omega)
      have hbq : Nat.beq (ixM c m).toNat (ixM c m).toNat = true := Nat.beq_refl _
      have hnext : ∀ o, o = send1 c out m → (∃ d', (some (Sum.inl ((), (j + 1, o))) : Option ((Unit × (Int × Fly)) ⊕ (Unit × Fly))) = some (.inl d') ∧ (0 ≤ d'.2.1 ∧ d'.2.1 ≤ ms.length ∧ d'.2.2 = (ms.take d'.2.1.toNat).foldl (send1 c) fly ∧ FlyOk c d'.2.2) ∧ ms.length - d'.2.1.toNat < ms.length - j.toNat) := by
        intro o ho
        refine ⟨_, rfl, ⟨by simp only; omega, by simp only; omega, ?_, by simp only [ho]; exact send1_ok hc d3 hmm⟩, by simp only; omega⟩
        simp only [ho]
        rw [show (j + 1).toNat = j.toNat + 1 by omega, List.take_add_one, e2, d2, List.foldl_append]; rfl
      simp only [decide_eq_true g, cond_true, e1, Option.bind_some, x2, hin, f1, hw]
      by_cases h30 : (l.length : Int) < 30
      · simp only [decide_eq_true h30, cond_true, hroom, hbq, Option.bind_some]
        refine .inl (hnext _ ?_)
        unfold send1
        rw [f2, app_eq]
        simp only [show l.length < 30 by omega, if_true]
      · simp only [decide_eq_false h30, cond_false, Option.bind_some]
        refine .inl (hnext _ ?_)
        unfold send1
        rw [f2]
        simp only [show ¬ l.length < 30 by omega, if_false]
    · simp only [decide_eq_false g]
      refine .inr ⟨_, rfl, ?_, d3⟩
      simp only
      rw [d2, List.take_of_length_le (by omega)]) ((), 0, fly) ⟨by simp, by simp, by simp, h⟩
  refine ⟨?_, by rw [← k2]; exact k3⟩
  unfold r14
  simp only [netCheck_is hc h, Option.bind_some, decide_true, Bool.not_true, cond_false, h1, h2, Sum.elim_inl, netOwn_is hc h, k1, k2]

theorem empty_is {c : Cfg} (hc : CfgOk c) : r13 c = some (List.replicate (c.1 * c.1).toNat [], 0) ∧ FlyOk c (List.replicate (c.1 * c.1).toNat []) := by
  have hsq := sq_is hc
  refine ⟨?_, ⟨by rw [List.length_replicate]; omega, fun l hl => ?_, fun i l hl m hm => ?_⟩⟩
  · unfold r13
    simp only [check_ok hc, Option.bind_some, decide_true, Bool.not_true, cond_false, hsq.1]
    rw [decide_eq_true (show (0 : Int) ≤ c.1 * c.1 by omega), decide_eq_true (Int.le_refl _), decide_eq_true (show (24 : Int) * (c.1 * c.1) ≤ 281474976710656 by omega), decide_eq_true (show c.1 * c.1 ≤ 9223372036854775807 by omega)]
    rfl
  · rw [List.mem_replicate] at hl
    rw [hl.2]; simp
  · rw [List.getElem?_replicate] at hl
    split at hl
    · simp only [Option.some.injEq] at hl
      subst hl
      cases hm
    · cases hl

theorem messages_is {c : Cfg} (hc : CfgOk c) {raws : List Raw} (hr : ∀ b ∈ raws, RawOk b) (hl : raws.length ≤ 9223372036854775807) {most : Int} (hm : 0 ≤ most) (hm' : most ≤ 1000) :
    ∃ ms, r12 (c, raws, most) = some ms ∧ (ms.length : Int) ≤ most ∧ ∀ m ∈ ms, MsgOk c m := by
  obtain ⟨r, h1, h2, h3⟩ := loop_rule (body := r12_L0 (c, raws, most)) (fun d => 0 ≤ d.2.1 ∧ d.2.1 ≤ raws.length ∧ d.2.1 ≤ most ∧ (d.2.2.length : Int) = d.2.1 ∧ ∀ m ∈ d.2.2, MsgOk c m) (fun d => raws.length - d.2.1.toNat) (fun r => (r.2.length : Int) ≤ most ∧ ∀ m ∈ r.2, MsgOk c m) (fun d hd => by
    obtain ⟨u, j, out⟩ := d
    obtain ⟨d0, d1, d2, d3, d4⟩ := hd
    simp only at d0 d1 d2 d3 d4
    unfold r12_L0
    simp only [bif_some, and_bif, Option.bind_some]
    by_cases g : j < raws.length ∧ j < most
    · obtain ⟨b, e1, e2⟩ := idxI_is d0 g.1
      obtain ⟨m, f1, f2⟩ := msg_is hc (hr b (List.mem_of_getElem? e2))
      have hw : Go.IntKind.wrap .i64 (j + 1) = j + 1 := wrap_i64 (by unfold i64; omega)
      simp only [decide_eq_true g.1, decide_eq_true g.2, Bool.and_self, cond_true, e1, f1, Option.bind_some, roomOk_true (show (2 * (out.length + 1) + 192) * 96 ≤ 281474976710656 by omega), hw]
      refine .inl ⟨_, rfl, ⟨by simp only; omega, by simp only; omega, by simp only; omega, by simp only [app_eq, List.length_append, List.length_singleton]; omega, fun m' hm' => ?_⟩, by simp only; omega⟩
      simp only [app_eq, List.mem_append, List.mem_singleton] at hm'
      rcases hm' with e | rfl
      · exact d4 _ e
      · exact f2
    · have : (decide (j < (raws.length : Int)) && decide (j < most)) = false := by
        rw [Bool.and_eq_false_iff]
        by_cases c1 : j < raws.length
        · exact .inr (decide_eq_false (fun c2 => g ⟨c1, c2⟩))
        · exact .inl (decide_eq_false c1)
      rw [this]
      exact .inr ⟨_, rfl, by simp only; omega, d4⟩) ((), 0, []) ⟨by simp, by simp, hm, by simp, by simp⟩
  refine ⟨r.2, ?_, h2, h3⟩
  unfold r12
  rw [h1]; rfl

def total : Fly → Nat
  | [] => 0
  | l :: f => l.length + total f

theorem total_app : ∀ (a b : Fly), total (a ++ b) = total a + total b
  | [], b => by simp [total]
  | l :: a, b => by simp only [List.cons_append, total, total_app a b]; omega

theorem total_le : ∀ (f : Fly), (∀ l ∈ f, l.length ≤ 30) → total f ≤ 30 * f.length
  | [], _ => by simp [total]
  | l :: f, h => by
    have := total_le f (fun l hl => h l (List.mem_cons_of_mem _ hl))
    have := h l List.mem_cons_self
    simp only [total, List.length_cons]; omega

theorem count_is {c : Cfg} (hc : CfgOk c) {fly : Fly} (h : FlyOk c fly) : r15 fly = some (total fly : Int) := by
  have hsq := sq_is hc
  have hlen := h.len
  obtain ⟨r, h1, h2⟩ := loop_rule (body := r15_L0 fly) (fun d => 0 ≤ d.2 ∧ d.2 ≤ fly.length ∧ d.1 = (total (fly.take d.2.toNat) : Int)) (fun d => fly.length - d.2.toNat) (fun r => r = (total fly : Int)) (fun d hd => by
    obtain ⟨n, j⟩ := d
    obtain ⟨d0, d1, d2⟩ := hd
    simp only at d0 d1 d2
    unfold r15_L0
    by_cases g : j < fly.length
    · obtain ⟨l, e1, e2⟩ := idxI_is d0 g
      have hl := h.each l (List.mem_of_getElem? e2)
      have hw : Go.IntKind.wrap .i64 (j + 1) = j + 1 := wrap_i64 (by unfold i64; omega)
      have ht := total_le (fly.take j.toNat) (fun l hl => h.each l (List.mem_of_mem_take hl))
      rw [List.length_take] at ht
      have hn : Go.IntKind.wrap .i64 (n + (l.length : Int)) = n + l.length := wrap_i64 (by unfold i64; omega)
      simp only [decide_eq_true g, cond_true, e1, Option.bind_some, hw, hn]
      refine .inl ⟨_, rfl, ⟨by simp only; omega, by simp only; omega, ?_⟩, by simp only; omega⟩
      simp only
      rw [show (j + 1).toNat = j.toNat + 1 by omega, List.take_add_one, e2, total_app, d2]
      simp [total]
    · simp only [decide_eq_false g]
      refine .inr ⟨_, rfl, ?_⟩
      rw [d2, List.take_of_length_le (by omega)]) (0, 0) ⟨by simp, by simp, by simp [total]⟩
  unfold r15
  rw [h1, h2]; rfl

end Go.Hn
