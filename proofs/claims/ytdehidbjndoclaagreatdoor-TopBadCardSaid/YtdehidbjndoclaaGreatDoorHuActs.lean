/- Acts made of raw numbers. -/
import Derived.Test.YtdehidbjndoclaaGreatDoorHuCfg
namespace Go.Hu
open Go.RowKit Go.Proofs Go.V
abbrev Act := Int × (Int × (Int × (Int × (Int × (List Int × ((Int × (Int × (Int × (Int × Int)))) × List UInt8))))))
abbrev Cfg := Int × (List (Int × Int) × Int)
abbrev Raw := Int × (Int × (Int × (Int × (Int × Int))))
structure RawOk (x : Raw) : Prop where
  k : i64 x.1
  a : i64 x.2.1
  b : i64 x.2.2.1
  c : i64 x.2.2.2.1
  d : i64 x.2.2.2.2.1
  e : i64 x.2.2.2.2.2
/-- A client's call that may be. -/
structure CallOk (x : Int × (Int × (Int × (Int × Int)))) : Prop where
  k0 : 1 ≤ x.1
  k1 : x.1 ≤ 5
  n0 : 0 ≤ x.2.1
  n1 : x.2.1 ≤ 4
  n : x.1 = 1 → x.2.1 = 0
  l0 : 0 ≤ x.2.2.1
  l1 : x.2.2.1 ≤ 2
  l : x.1 ≠ 2 → x.2.2.1 = 0
  y0 : 0 ≤ x.2.2.2.1
  y1 : x.2.2.2.1 ≤ 3
  y : x.1 ≠ 2 → x.1 ≠ 3 → x.2.2.2.1 = 0
  v0 : 0 ≤ x.2.2.2.2
  v1 : x.2.2.2.2 ≤ 98
  v : x.1 ≠ 3 → x.2.2.2.2 = 0
theorem ask_is {b : Raw} (h : RawOk b) : ∃ x, r10 b = some x ∧ CallOk x := by
  obtain ⟨p1, e1, f1, g1⟩ := picked_is (m := 5) h.k (by omega)
  obtain ⟨p2, e2, f2, g2⟩ := picked_is (m := 4) h.a (by omega)
  obtain ⟨p3, e3, f3, g3⟩ := picked_is (m := 3) h.b (by omega)
  obtain ⟨p4, e4, f4, g4⟩ := picked_is (m := 4) h.c (by omega)
  obtain ⟨p5, e5, f5, g5⟩ := picked_is (m := 99) h.d (by omega)
  have w1 : Go.IntKind.wrap .i64 (1 + p1) = 1 + p1 := wrap_i64 (by unfold i64; omega)
  have w2 : Go.IntKind.wrap .i64 (1 + p2) = 1 + p2 := wrap_i64 (by unfold i64; omega)
  unfold r10
  simp only [e1, e2, e3, e4, e5, w1, w2, Option.bind_some]
  by_cases c1 : 1 + p1 = 1
  · rw [decide_eq_true c1]
    simp only [Bool.not_true, cond_false, Option.bind_some]
    rw [decide_eq_false (by omega : ¬ 1 + p1 = 2), decide_eq_false (by omega : ¬ 1 + p1 = 3)]
    refine ⟨_, rfl, ?_⟩
    constructor <;> simp only [cond_false, ne_eq] <;> intros <;> first | omega | trivial
  · rw [decide_eq_false c1]
    simp only [Bool.not_false, cond_true, Option.bind_some]
    by_cases c2 : 1 + p1 = 2
    · rw [decide_eq_true c2]
      refine ⟨_, rfl, ?_⟩
      constructor <;> simp only [ne_eq] <;> intros <;> first | omega | trivial
    · rw [decide_eq_false c2]
      by_cases c3 : 1 + p1 = 3
      · rw [decide_eq_true c3]
        refine ⟨_, rfl, ?_⟩
        constructor <;> simp only [ne_eq] <;> intros <;> first | omega | trivial
      · rw [decide_eq_false c3]
        refine ⟨_, rfl, ?_⟩
        constructor <;> simp only [ne_eq] <;> intros <;> first | omega | trivial
/-- One digit. -/
theorem dec_is {n : Int} (h0 : 0 ≤ n) (h1 : n < 10) : ∃ d, R19 n = some [d] := by
  refine ⟨_, limR_eq (n := 1) (by unfold r19; rw [decide_eq_true h1]; rfl) (fun m c hm => ?_)⟩
  cases m with
  | zero => cases hm
  | succ m =>
    unfold r19 at hm
    rw [decide_eq_true h1] at hm
    simp only [cond_true, Option.some.injEq] at hm
    rw [← hm]; rfl
theorem typed_is {b : Raw} (h : RawOk b) (f : Bool) : ∃ s, r11 (b, f) = some s ∧ s.length ≤ 60 := by
  obtain ⟨p1, e1, f1, g1⟩ := picked_is (m := 4) h.a (by omega)
  obtain ⟨p2, e2, f2, g2⟩ := picked_is (m := 3) h.b (by omega)
  obtain ⟨p3, e3, f3, g3⟩ := picked_is (m := 4) h.c (by omega)
  obtain ⟨p4, e4, f4, g4⟩ := picked_is (m := 8) h.d (by omega)
  obtain ⟨p5, e5, f5, g5⟩ := picked_is (m := 2) h.e (by omega)
  obtain ⟨p6, e6, f6, g6⟩ := picked_is (m := 6) h.e (by omega)
  have w : Go.IntKind.wrap .i64 (1 + p3) = 1 + p3 := wrap_i64 (by unfold i64; omega)
  obtain ⟨d1, k1⟩ := dec_is (n := p1) f1 (by omega)
  obtain ⟨d2, k2⟩ := dec_is (n := p2) f2 (by omega)
  obtain ⟨d3, k3⟩ := dec_is (n := 1 + p3) (by omega) (by omega)
  unfold r11
  simp only [e1, e2, e3, e4, e5, e6, w, k1, k2, k3, Option.bind_some, List.length_append, List.length_cons, List.length_nil, bif_some, and_bif]
  have hin : inB p5 2 = true := inB_true f5 g5
  have hin6 : inB p6 6 = true := inB_true f6 g6
  simp only [Nat.reduceAdd, Nat.reduceLeDiff, decide_true, cond_true, hin, hin6]
  by_cases c1 : p4 < 3
  · rw [decide_eq_true c1]; exact ⟨_, rfl, by simp⟩
  rw [decide_eq_false c1]
  by_cases c2 : p4 < 5
  · rw [decide_eq_true c2]; exact ⟨_, rfl, by simp⟩
  rw [decide_eq_false c2]
  by_cases c3 : p4 = 5
  · rw [decide_eq_true c3]; exact ⟨_, rfl, by simp⟩
  rw [decide_eq_false c3]
  simp only [cond_false]
  cases decide (p4 = 6) && f with
  | true =>
    simp only [cond_true]
    have : p5 = 0 ∨ p5 = 1 := by omega
    rcases this with rfl | rfl <;> exact ⟨_, rfl, by simp⟩
  | false =>
    simp only [cond_false]
    have : p6 = 0 ∨ p6 = 1 ∨ p6 = 2 ∨ p6 = 3 ∨ p6 = 4 ∨ p6 = 5 := by omega
    rcases this with rfl | rfl | rfl | rfl | rfl | rfl <;> exact ⟨_, rfl, by simp⟩
/-- An act as its kind has it. -/
structure ActOk (c : Cfg) (x : Act) : Prop where
  k0 : 1 ≤ x.1
  k1 : x.1 ≤ 8
  s0 : 0 ≤ x.2.1
  s1 : x.2.1 < c.1
  t0 : 0 ≤ x.2.2.1
  t1 : x.2.2.1 < c.1
  l0 : 0 ≤ x.2.2.2.1
  l1 : x.2.2.2.1 < c.2.1.length
  p0 : 0 ≤ x.2.2.2.2.1
  p1 : x.2.2.2.2.1 ≤ 2
  kl : x.2.2.2.2.2.1.length ≤ c.2.1.length
  ke : ∀ n ∈ x.2.2.2.2.2.1, 0 ≤ n ∧ n < 40
  ln : x.2.2.2.2.2.2.2.length ≤ 60
  path : x.1 ≠ 2 → x.1 ≠ 3 → x.1 ≠ 4 → x.2.2.1 = 0 ∧ x.2.2.2.2.1 = 0
  site : x.1 = 5 → x.2.1 = 0
  lab : x.1 = 5 ∨ x.1 = 6 ∨ x.1 = 7 → x.2.2.2.1 = 0
  keep : x.1 ≠ 6 → x.2.2.2.2.2.1 = []
  call : x.1 ≠ 1 → x.2.2.2.2.2.2.1 = (0, 0, 0, 0, 0)
  ask : x.1 = 1 → CallOk x.2.2.2.2.2.2.1
  line : x.1 ≠ 8 → x.2.2.2.2.2.2.2 = []
/-- What the box holds is this act. -/
abbrev Flat := Unit × (Int × (Int × (Int × (Int × (Int × (List Int × (Int × (Int × (Int × (Int × (Int × List UInt8)))))))))))
def unflat (d : Flat) : Act := (d.2.1, d.2.2.1, d.2.2.2.1, d.2.2.2.2.1, d.2.2.2.2.2.1, d.2.2.2.2.2.2.1, (d.2.2.2.2.2.2.2.1, d.2.2.2.2.2.2.2.2.1, d.2.2.2.2.2.2.2.2.2.1, d.2.2.2.2.2.2.2.2.2.2.1, d.2.2.2.2.2.2.2.2.2.2.2.1), d.2.2.2.2.2.2.2.2.2.2.2.2)
theorem keep_is {a : Cfg × (List Raw × (Int × Bool))} {b : Raw} {s : Int} (hl : a.1.2.1.length ≤ 8) :
    ∃ k : List Int, loopR (r5_L0 a b) ((), ((0 : Int), ((6 : Int), (s, ((0 : Int), ((0 : Int), ((0 : Int), ([], ((0 : Int), ((0 : Int), ((0 : Int), ((0 : Int), ((0 : Int), ([] : List UInt8)))))))))))))) = some ((), 6, s, 0, 0, 0, k, 0, 0, 0, 0, 0, []) ∧
      k.length = a.1.2.1.length ∧ ∀ n ∈ k, 0 ≤ n ∧ n < 40 := by
  obtain ⟨r, h1, k, h2, h3, h4⟩ := loop_rule (body := r5_L0 a b) (fun d => ∃ i : Int, ∃ k : List Int, d = ((), (i, (6, (s, (0, (0, (0, (k, (0, (0, (0, (0, (0, []))))))))))))) ∧ 0 ≤ i ∧ i ≤ a.1.2.1.length ∧ (k.length : Int) = i ∧ ∀ n ∈ k, 0 ≤ n ∧ n < 40)
    (fun d => a.1.2.1.length - d.2.1.toNat) (fun r => ∃ k : List Int, r = ((), 6, s, 0, 0, 0, k, 0, 0, 0, 0, 0, []) ∧ k.length = a.1.2.1.length ∧ ∀ n ∈ k, 0 ≤ n ∧ n < 40) (fun d hd => by
      obtain ⟨i, k, rfl, i0, i1, i2, i3⟩ := hd
      unfold r5_L0
      simp only
      by_cases c : i < a.1.2.1.length
      · refine .inl ?_
        have hw : Go.IntKind.wrap .i64 (i + 1) = i + 1 := wrap_i64 (by unfold i64; omega)
        rw [hw]
        obtain ⟨p, e1, f1, g1⟩ := picked_is (n := Go.IntKind.wrap .i64 (Int.tdiv b.2.2.2.2.1 (i + 1))) (m := 40) (i64_wrap _) (by omega)
        rw [decide_eq_true c, decide_eq_false (by omega : ¬ i + 1 = 0), e1, roomOk_true (by omega)]
        refine ⟨_, rfl, ⟨i + 1, app k [p], rfl, by omega, by omega, by simp only [app_eq, List.length_append, List.length_singleton]; omega, ?_⟩, by simp only; omega⟩
        intro n hn
        simp only [app_eq, List.mem_append, List.mem_singleton] at hn
        rcases hn with hn | rfl
        · exact i3 n hn
        · exact ⟨f1, g1⟩
      · rw [decide_eq_false c]
        exact .inr ⟨_, rfl, k, rfl, by omega, i3⟩) _ ⟨0, [], rfl, by omega, by omega, rfl, by simp⟩
  exact ⟨k, by rw [h1, h2], h3, h4⟩
/-- The act that a raw one is made to. -/
theorem act_is {c : Cfg} (hc : CfgOk c) {b : Raw} (hb : RawOk b) {raws : List Raw} {most : Int} {force : Bool} {y1 y2 : Int} (h1 : 0 ≤ y1) (h1' : y1 < c.1) (h2 : 0 ≤ y2) (h2' : y2 < c.2.1.length) :
    ∃ d : Flat, (Option.bind (r8 (b.1, (20 : Int))) fun (y270 : Int) =>
                  bif decide (y270 < (8 : Int)) then
                    Option.bind (r10 ((Go.IntKind.wrap .i64 (Int.tdiv b.2.2.2.1 (9 : Int))), (b.2.1, (b.2.2.1, (b.2.2.2.1, (b.2.2.2.2.1, (0 : Int))))))) fun (y271 : (Int × (Int × (Int × (Int × Int))))) =>
                      some ((), ((1 : Int), (y1, ((0 : Int), (y2, ((0 : Int), ([], (y271.1, (y271.2.1, (y271.2.2.1, (y271.2.2.2.1, (y271.2.2.2.2, ([] : List UInt8)))))))))))))
                  else
                    bif decide (y270 < (15 : Int)) then
                      Option.bind (r8 (b.2.2.2.1, c.1)) fun (y272 : Int) =>
                        Option.bind (r8 (b.2.2.2.2.1, (3 : Int))) fun (y273 : Int) =>
                          some ((), ((2 : Int), (y1, (y272, (y2, (y273, ([], ((0 : Int), ((0 : Int), ((0 : Int), ((0 : Int), ((0 : Int), ([] : List UInt8)))))))))))))
                    else
                      bif decide (y270 = (15 : Int)) then
                        Option.bind (r8 (b.2.2.2.2.2, (2 : Int))) fun (y274 : Int) =>
                          Option.bind (r8 (b.2.2.2.1, c.1)) fun (y275 : Int) =>
                            Option.bind (r8 (b.2.2.2.2.1, (3 : Int))) fun (y276 : Int) =>
                              some ((), ((Go.IntKind.wrap .i64 ((4 : Int) - y274)), (y1, (y275, (y2, (y276, ([], ((0 : Int), ((0 : Int), ((0 : Int), ((0 : Int), ((0 : Int), ([] : List UInt8)))))))))))))
                      else
                        bif decide (y270 = (16 : Int)) then
                          some ((), ((5 : Int), ((0 : Int), ((0 : Int), ((0 : Int), ((0 : Int), ([], ((0 : Int), ((0 : Int), ((0 : Int), ((0 : Int), ((0 : Int), ([] : List UInt8)))))))))))))
                        else
                          bif decide (y270 = (17 : Int)) then
                            Option.bind (loopR (r5_L0 (c, raws, most, force) b) ((), ((0 : Int), ((6 : Int), (y1, ((0 : Int), ((0 : Int), ((0 : Int), ([], ((0 : Int), ((0 : Int), ((0 : Int), ((0 : Int), ((0 : Int), ([] : List UInt8))))))))))))))) fun (q281 : Flat) =>
                              some ((), q281.2)
                          else
                            bif decide (y270 = (18 : Int)) then
                              some ((), ((7 : Int), (y1, ((0 : Int), ((0 : Int), ((0 : Int), ([], ((0 : Int), ((0 : Int), ((0 : Int), ((0 : Int), ((0 : Int), ([] : List UInt8)))))))))))))
                            else
                              Option.bind (r11 (b, force)) fun (y282 : List UInt8) =>
                                some ((), ((8 : Int), (y1, ((0 : Int), (y2, ((0 : Int), ([], ((0 : Int), ((0 : Int), ((0 : Int), ((0 : Int), ((0 : Int), y282)))))))))))))
      = some d ∧ ActOk c (unflat d) := by
  have s0 := hc.s0
  have l0 := hc.l0
  obtain ⟨p, e1, f1, g1⟩ := picked_is (m := 20) hb.k (by omega)
  rw [e1, Option.bind_some]
  by_cases c1 : p < 8
  · obtain ⟨x, e2, hx⟩ := ask_is (b := (Go.IntKind.wrap .i64 (Int.tdiv b.2.2.2.1 9), b.2.1, b.2.2.1, b.2.2.2.1, b.2.2.2.2.1, 0)) ⟨i64_wrap _, hb.a, hb.b, hb.c, hb.d, by unfold i64; simp only; omega⟩
    rw [decide_eq_true c1, e2]
    refine ⟨_, rfl, ?_⟩
    constructor <;> simp only [unflat, List.length_nil, ne_eq] <;> first | omega | (intros; first | omega | trivial) | (intro n hn; simp at hn; done) | simp | exact fun _ => hx
  rw [decide_eq_false c1]
  by_cases c2 : p < 15
  · obtain ⟨t, e2, t0, t1⟩ := picked_is (n := b.2.2.2.1) (m := c.1) hb.c (by omega)
    obtain ⟨k, e3, k0, k1⟩ := picked_is (n := b.2.2.2.2.1) (m := 3) hb.d (by omega)
    rw [decide_eq_true c2, e2, e3]
    refine ⟨_, rfl, ?_⟩
    constructor <;> simp only [unflat, List.length_nil, ne_eq] <;> first | omega | (intros; first | omega | trivial) | (intro n hn; simp at hn; done) | simp
  rw [decide_eq_false c2]
  by_cases c3 : p = 15
  · obtain ⟨u, e0, u0, u1⟩ := picked_is (n := b.2.2.2.2.2) (m := 2) hb.e (by omega)
    obtain ⟨t, e2, t0, t1⟩ := picked_is (n := b.2.2.2.1) (m := c.1) hb.c (by omega)
    obtain ⟨k, e3, k0, k1⟩ := picked_is (n := b.2.2.2.2.1) (m := 3) hb.d (by omega)
    have hw : Go.IntKind.wrap .i64 (4 - u) = 4 - u := wrap_i64 (by unfold i64; omega)
    rw [decide_eq_true c3, e0, e2, e3]
    refine ⟨_, rfl, ?_⟩
    constructor <;> simp only [unflat, List.length_nil, ne_eq, hw] <;> first | omega | (intros; first | omega | trivial) | (intro n hn; simp at hn; done) | simp
  rw [decide_eq_false c3]
  by_cases c4 : p = 16
  · rw [decide_eq_true c4]
    refine ⟨_, rfl, ?_⟩
    constructor <;> simp only [unflat, List.length_nil, ne_eq] <;> first | omega | (intros; first | omega | trivial) | (intro n hn; simp at hn; done) | simp
  rw [decide_eq_false c4]
  by_cases c5 : p = 17
  · obtain ⟨k, e2, k1, k2⟩ := keep_is (a := (c, raws, most, force)) (b := b) (s := y1) (by have := hc.l1; simp only; omega)
    rw [decide_eq_true c5, e2]
    refine ⟨_, rfl, ?_⟩
    simp only at k1
    constructor <;> simp only [unflat, List.length_nil, ne_eq] <;> first | omega | exact k2 | simp
  rw [decide_eq_false c5]
  by_cases c6 : p = 18
  · rw [decide_eq_true c6]
    refine ⟨_, rfl, ?_⟩
    constructor <;> simp only [unflat, List.length_nil, ne_eq] <;> first | omega | (intros; first | omega | trivial) | (intro n hn; simp at hn; done) | simp
  · obtain ⟨l, e2, l2⟩ := typed_is hb force
    rw [decide_eq_false c6, e2]
    refine ⟨_, rfl, ?_⟩
    constructor <;> simp only [unflat, List.length_nil, ne_eq] <;> first | omega | (intros; first | omega | trivial) | (intro n hn; simp at hn; done) | simp
theorem acts_is {c : Cfg} (hc : CfgOk c) {raws : List Raw} (hr : ∀ b ∈ raws, RawOk b) (hl : raws.length ≤ 9223372036854775807) {most : Int} (hm : 0 ≤ most) (hm' : most ≤ 1000) {force : Bool} :
    ∃ l, r5 (c, raws, most, force) = some l ∧ (l.length : Int) ≤ most + 2 ∧ ∀ x ∈ l, ActOk c x := by
  have s0 := hc.s0
  have l0 := hc.l0
  obtain ⟨r, h1, h2, h3⟩ := loop_rule (body := r5_L1 (c, raws, most, force)) (fun d => 0 ≤ d.2.1 ∧ d.2.1 ≤ raws.length ∧ (d.2.2.length : Int) ≤ most + 2 ∧ ∀ x ∈ d.2.2, ActOk c x) (fun d => raws.length - d.2.1.toNat)
    (fun r => (r.2.length : Int) ≤ most + 2 ∧ ∀ x ∈ r.2, ActOk c x) (fun d hd => by
      obtain ⟨u, i, out⟩ := d
      obtain ⟨i0, i1, i2, i3⟩ := hd
      simp only at i0 i1 i2 i3
      unfold r5_L1
      simp only [bif_some, and_bif, Option.bind_some]
      by_cases k : i < raws.length ∧ (out.length : Int) < most
      · refine .inl ?_
        obtain ⟨b, e1, e2⟩ := idxI_is i0 k.1
        have hb := hr b (List.mem_of_getElem? e2)
        obtain ⟨y1, e3, f3, g3⟩ := picked_is (n := Go.IntKind.wrap .i64 (Int.tdiv b.2.1 31)) (m := c.1) (i64_wrap _) (by omega)
        obtain ⟨y2, e4, f4, g4⟩ := picked_is (n := Go.IntKind.wrap .i64 (Int.tdiv b.2.2.1 31)) (m := (c.2.1.length : Int)) (i64_wrap _) (by omega)
        obtain ⟨d, e5, hd⟩ := act_is hc hb (raws := raws) (most := most) (force := force) f3 g3 f4 g4
        obtain ⟨y3, e6, f6, g6⟩ := picked_is (n := b.2.2.2.2.2) (m := 4) hb.e (by omega)
        have hw : Go.IntKind.wrap .i64 (i + 1) = i + 1 := wrap_i64 (by unfold i64; omega)
        rw [decide_eq_true k.1, decide_eq_true k.2]
        simp only [Bool.and_self, cond_true, e1, Option.bind_some, e3, e4, e5, e6, hw, bif_some, and_bif]
        rw [roomOk_true (by omega)]
        simp only [cond_true]
        have hone : ∀ x ∈ app out [unflat d], ActOk c x := by
          intro x hx
          simp only [app_eq, List.mem_append, List.mem_singleton] at hx
          rcases hx with hx | rfl
          · exact i3 x hx
          · exact hd
        by_cases g : (decide (d.2.1 = 1) && decide (0 < y3)) = true
        · have hask : d.2.1 = 1 := by
            simp only [Bool.and_eq_true, decide_eq_true_eq] at g; exact g.1
          have hcall := hd.ask hask
          have hy0 : 0 ≤ d.2.2.2.2.2.2.2.2.2.2.1 := hcall.y0
          rw [g, decide_eq_false (by omega : ¬ c.1 = 0), roomOk_true (by simp only [app_eq, List.length_append, List.length_singleton]; omega)]
          have ht0 : 0 ≤ Int.tmod d.2.2.2.2.2.2.2.2.2.2.1 c.1 := by rw [Int.tmod_eq_emod_of_nonneg hy0]; exact Int.emod_nonneg _ (by omega)
          have ht1 : Int.tmod d.2.2.2.2.2.2.2.2.2.2.1 c.1 < c.1 := by rw [Int.tmod_eq_emod_of_nonneg hy0]; exact Int.emod_lt_of_pos _ (by omega)
          refine ⟨_, rfl, ⟨by simp only; omega, by simp only; omega, ?_, ?_⟩, by simp only; omega⟩
          · simp only [app_eq, List.length_append, List.length_singleton, List.length_cons, List.length_nil]; omega
          · intro x hx
            simp only [app_eq] at hx
            rcases List.mem_append.1 hx with hx | hx
            · exact hone x (by simp only [app_eq]; exact hx)
            · have a1 : 0 ≤ d.2.2.1 := hd.s0
              have a2 : d.2.2.1 < c.1 := hd.s1
              have a3 : 0 ≤ d.2.2.2.2.1 := hd.l0
              have a4 : d.2.2.2.2.1 < c.2.1.length := hd.l1
              simp only [List.mem_cons, List.not_mem_nil, or_false] at hx
              rcases hx with rfl | rfl <;> constructor <;> simp only [List.length_nil, ne_eq] <;> first | omega | (intros; first | omega | trivial) | (intro n hn; simp at hn; done) | simp
        · rw [Bool.not_eq_true] at g
          rw [g]
          refine ⟨_, rfl, ⟨by simp only; omega, by simp only; omega, ?_, hone⟩, by simp only; omega⟩
          simp only [app_eq, List.length_append, List.length_singleton]; omega
      · refine .inr ⟨_, by
          have : (decide (i < ↑raws.length) && decide ((out.length : Int) < most)) = false := by
            rw [Bool.and_eq_false_iff]
            by_cases c1 : i < raws.length
            · exact .inr (decide_eq_false (fun c2 => k ⟨c1, c2⟩))
            · exact .inl (decide_eq_false c1)
          rw [this]; rfl, i2, i3⟩) ((), 0, []) ⟨by simp, by simp, by simp only [List.length_nil]; omega, by simp⟩
  refine ⟨r.2, ?_, h2, h3⟩
  unfold r5
  rw [h1]; rfl
end Go.Hu
