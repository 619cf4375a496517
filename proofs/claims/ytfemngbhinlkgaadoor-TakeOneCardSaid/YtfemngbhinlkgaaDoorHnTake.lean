/- One message is taken. -/
import Derived.Test.YtfemngbhinlkgaaDoorHnSend
namespace Go.Hn
open Go.RowKit Go.Proofs Go.V

def noMsg : Msg := ((0 : Int), ((0 : Int), ((0 : Int), (((0 : Int), (0 : Int)), ((0 : Int), ((0 : Int), ((0 : Int), ((0 : Int), ((0 : Int), (false, (0 : Int)))))))))))

theorem del1_is {l : List Msg} {k : Nat} (h : k < l.length) (hl : l.length ≤ 1000) : r36 (l, ((k : Int), Go.IntKind.wrap .i64 ((k : Int) + 1))) = some (l.take k ++ l.drop (k + 1)) := by
  have hw : Go.IntKind.wrap .i64 ((k : Int) + 1) = ((k + 1 : Nat) : Int) := by rw [wrap_i64 (by unfold i64; omega)]; omega
  unfold r36 delR
  rw [hw]
  simp only [decide_eq_true (show (0 : Int) ≤ (k : Int) by omega), decide_eq_true (show (k : Int) ≤ ((k + 1 : Nat) : Int) by omega), decide_eq_true (show ((k + 1 : Nat) : Int) ≤ (l.length : Int) by omega), Bool.and_self, cond_true, Int.toNat_natCast, app_eq]

/-- What comes of a taking. -/
theorem take_is {c : Cfg} (hc : CfgOk c) {fly : Fly} (h : FlyOk c fly) {fr to : Int} {p i : Nat} {kind : Int} {l : List Msg} (f0 : 0 ≤ fr) (f1 : fr < c.1) (t0 : 0 ≤ to) (t1 : to < c.1) (hk : kind = 2 ∨ kind = 3 ∨ kind = 4)
    (hx : Go.IntKind.wrap .i64 (Go.IntKind.wrap .i64 (fr * c.1) + to) = (i : Int)) (hl : fly[i]? = some l) :
    (l = [] → r19 (c, fly, fr, to, (p : Int), kind) = some ([], noMsg, 6)) ∧
    ∀ m, l[p % l.length]? = some m → r19 (c, fly, fr, to, (p : Int), kind) =
      some (if kind = 4 then (if l.length = 30 then ([], noMsg, 8) else (fly.set i (l ++ [m]), m, 0)) else (fly.set i (l.take (p % l.length) ++ l.drop (p % l.length + 1)), m, 0)) := by
  have hil : i < fly.length := (List.getElem?_eq_some_iff.mp hl).1
  have hin : inB (i : Int) fly.length = true := inB_true (by omega) (by omega)
  have hid : idxN fly i = some l := hl
  have hl30 := h.each l (List.mem_of_getElem? hl)
  have b1 : ¬ fr < 0 := by omega
  have b2 : ¬ c.1 ≤ fr := by omega
  have b3 : ¬ to < 0 := by omega
  have b4 : ¬ c.1 ≤ to := by omega
  have b5 : ¬ (p : Int) < 0 := by omega
  have hbq : Nat.beq i i = true := Nat.beq_refl _
  constructor
  · intro he
    subst he
    unfold r19
    simp only [netCheck_is hc h, netOwn_is hc h, Option.bind_some, decide_true, Bool.not_true, cond_false, decide_eq_false b1, decide_eq_false b2, decide_eq_false b3, decide_eq_false b4, decide_eq_false b5, Bool.not_false, cond_true, hx, hin, Int.toNat_natCast, hid, List.length_nil, Int.natCast_zero]
    rcases hk with rfl | rfl | rfl <;> rfl
  · intro m hm
    have hkl : p % l.length < l.length := (List.getElem?_eq_some_iff.mp hm).1
    have hne : ¬ (l.length : Int) = 0 := by omega
    have hmod : Int.tmod (p : Int) (l.length : Int) = ((p % l.length : Nat) : Int) := by
      rw [Int.tmod_eq_emod_of_nonneg (by omega)]; rfl
    have hin2 : inB ((p % l.length : Nat) : Int) l.length = true := inB_true (by omega) (by omega)
    have hid2 : idxN l (p % l.length) = some m := hm
    have hroom : roomOk false l.length 1 96 = true := roomOk_true (by omega)
    have hdel := del1_is hkl (show l.length ≤ 1000 by omega)
    have e30 : decide ((l.length : Int) = 30) = decide (l.length = 30) := by rw [decide_eq_decide]; omega
    unfold r19
    simp only [netCheck_is hc h, netOwn_is hc h, Option.bind_some, decide_true, Bool.not_true, cond_false, decide_eq_false b1, decide_eq_false b2, decide_eq_false b3, decide_eq_false b4, decide_eq_false b5, Bool.not_false, cond_true, hx, hin, Int.toNat_natCast, hid, decide_eq_false hne, hmod, hin2, hid2, hroom, hbq, hdel, e30, app_eq]
    rcases hk with rfl | rfl | rfl
    · rfl
    · rfl
    · by_cases g : l.length = 30
      · simp only [decide_eq_true g, g, if_true]; rfl
      · simp only [decide_eq_false g, g, if_true, if_false]; rfl

/-- Many times the same. -/
theorem same_sent {c : Cfg} (hc : CfgOk c) {m : Msg} (hm : MsgOk c m) : ∀ k : Nat, ((List.replicate k m).foldl (send1 c) (fly0 c))[(ixM c m).toNat]? = some (List.replicate (min k 30) m) ∧ total ((List.replicate k m).foldl (send1 c) (fly0 c)) = min k 30
  | 0 => by
    obtain ⟨x0, x1, -⟩ := ixM_is hc hm
    refine ⟨?_, total_none _⟩
    show (fly0 c)[_]? = _
    unfold fly0
    rw [List.getElem?_replicate, if_pos (by omega)]; rfl
  | k + 1 => by
    obtain ⟨h1, h2⟩ := same_sent hc hm k
    rw [List.replicate_succ', List.foldl_append]
    show (send1 c _ m)[_]? = _ ∧ total (send1 c _ m) = _
    by_cases g : k < 30
    · have hmin : min k 30 = k := by omega
      rw [hmin] at h1 h2
      have hlt := (List.getElem?_eq_some_iff.mp h1).1
      rw [send1_at h1 (by rw [List.length_replicate]; exact g), total_set h1, h2, List.getElem?_set, if_pos rfl, if_pos hlt]
      have hmin2 : min (k + 1) 30 = k + 1 := by omega
      rw [hmin2, List.replicate_succ']
      exact ⟨rfl, rfl⟩
    · have hmin : min k 30 = 30 := by omega
      have hmin2 : min (k + 1) 30 = 30 := by omega
      rw [hmin] at h1 h2
      have hs : send1 c ((List.replicate k m).foldl (send1 c) (fly0 c)) m = (List.replicate k m).foldl (send1 c) (fly0 c) := by
        generalize (List.replicate k m).foldl (send1 c) (fly0 c) = F at *
        unfold send1
        rw [h1]
        simp
      rw [hs, hmin2]
      exact ⟨h1, h2⟩

theorem sendFull {a : Int × (List Int × (Raw × Int))} (h1 : i64 a.1) (h2 : ∀ n ∈ a.2.1, i64 n) (hl : a.2.1.length ≤ 9223372036854775807) (hr : RawOk a.2.2.1) (h3 : i64 a.2.2.2) : r4 a = some true := by
  obtain ⟨c, e1, hc⟩ := cfg_is (a := (a.1, a.2.1, 1)) h1 h2 hl (by unfold i64; simp only; omega)
  obtain ⟨m, e2, hm⟩ := msg_is hc hr
  obtain ⟨k0, e3, e4, e5⟩ := picked_is (m := 90) h3 (by omega)
  obtain ⟨k, rfl⟩ := Int.eq_ofNat_of_zero_le e4
  obtain ⟨q, k1, k2⟩ := loop_rule (body := r4_L0 (k : Int) m) (fun d => 0 ≤ d.2.1 ∧ d.2.1 ≤ k ∧ d.2.2 = List.replicate d.2.1.toNat m) (fun d => k - d.2.1.toNat) (fun r => r.2 = List.replicate k m) (fun d hd => by
    obtain ⟨u, j, out⟩ := d
    obtain ⟨d0, d1, d2⟩ := hd
    simp only at d0 d1 d2
    unfold r4_L0
    by_cases g : j < (k : Int)
    · have hw : Go.IntKind.wrap .i64 (j + 1) = j + 1 := wrap_i64 (by unfold i64; omega)
      have hol : out.length ≤ 90 := by rw [d2, List.length_replicate]; omega
      simp only [decide_eq_true g, cond_true, roomOk_true (show (2 * (out.length + 1) + 192) * 96 ≤ 281474976710656 by omega), hw]
      refine .inl ⟨_, rfl, ⟨by simp only; omega, by simp only; omega, ?_⟩, by simp only; omega⟩
      simp only [app_eq, d2]
      rw [show (j + 1).toNat = j.toNat + 1 by omega, List.replicate_succ']
    · simp only [decide_eq_false g, cond_false]
      refine .inr ⟨_, rfl, ?_⟩
      simp only [d2]
      congr 1; omega) ((), 0, []) ⟨by simp, by simp, by simp⟩
  obtain ⟨e7, hf0⟩ := empty_is hc
  obtain ⟨e8, hf⟩ := netSend_is hc hf0 (ms := List.replicate k m) (by rw [List.length_replicate]; omega) (fun x hx => by rw [List.mem_replicate] at hx; rw [hx.2]; exact hm)
  obtain ⟨s1, s2⟩ := same_sent hc hm k
  unfold fly0 at s1 s2
  obtain ⟨x0, x1, x2, -⟩ := ixM_is hc hm
  generalize hF : (List.replicate k m).foldl (send1 c) (List.replicate (c.1 * c.1).toNat []) = F at *
  have hx : Go.IntKind.wrap .i64 (Go.IntKind.wrap .i64 (m.2.1 * c.1) + m.2.2.1) = ((ixM c m).toNat : Int) := by rw [x2]; omega
  obtain ⟨w1, w2⟩ := take_is hc hf (p := 0) (kind := 4) hm.f0 hm.f1 hm.t0 hm.t1 (.inr (.inr rfl)) hx s1
  have hmin : (min (k : Int) 30) = ((min k 30 : Nat) : Int) := by omega
  unfold r4
  simp only [e1, e2, e3, k1, k2, e7, e8, Option.bind_some, decide_true, Bool.not_true, Bool.not_false, cond_true, count_is hc hf, s2, hmin, cond_false]
  by_cases g0 : k = 0
  · subst g0
    rw [show ((0 : Nat) : Int) = 0 from rfl] at *
    have := w1 (by simp)
    rw [this]
    rfl
  · have hlen : (List.replicate (min k 30) m).length = min k 30 := List.length_replicate
    have hm0 : (List.replicate (min k 30) m)[0 % (List.replicate (min k 30) m).length]? = some m := by
      rw [Nat.zero_mod, List.getElem?_replicate, if_pos (by omega)]
    have := w2 m hm0
    rw [show ((0 : Nat) : Int) = (0 : Int) from rfl] at this
    rw [this, hlen]
    have gk : ¬ (k : Int) = 0 := by omega
    simp only [Option.bind_some, decide_eq_false gk, cond_false, if_true]
    by_cases g : 30 ≤ k
    · have h30 : min k 30 = 30 := by omega
      simp only [h30, if_true, decide_eq_true (show (30 : Int) ≤ (k : Int) by omega), cond_true, decide_true]
    · have h30 : ¬ min k 30 = 30 := by omega
      simp only [h30, if_false, decide_eq_false (show ¬ (30 : Int) ≤ (k : Int) by omega), cond_false, decide_true]

end Go.Hn
