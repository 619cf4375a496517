/- Acts are read as they were shown: the law. -/
import Derived.Test.YtmcaghldcabnnaaDoorHlBack
namespace Go.Hl
open Go.RowKit Go.Proofs Go.V Go.Lib

theorem same_ints (l : List Int) (hl : l.length ≤ 100000) : r32 (l, l) = some true := by
  obtain ⟨r, h1, h2⟩ := loop_rule (body := r32_L0 (l, l)) (fun i => 0 ≤ i ∧ i ≤ l.length) (fun i => l.length - i.toNat) (fun r => r = .inl ()) (fun i hi => by
    unfold r32_L0
    by_cases c : i < l.length
    · obtain ⟨x, e1, e2⟩ := idxI_is hi.1 c
      have hw : Go.IntKind.wrap .i64 (i + 1) = i + 1 := wrap_i64 (by unfold i64; omega)
      rw [decide_eq_true c]
      simp only [cond_true, e1, Option.bind_some, decide_true, Bool.not_true, cond_false, hw]
      exact .inl ⟨_, rfl, ⟨by omega, by omega⟩, by omega⟩
    · rw [decide_eq_false c]
      exact .inr ⟨_, rfl, rfl⟩) 0 (by simp)
  subst h2
  unfold r32
  simp only [decide_true, Bool.not_true, cond_false, h1, Option.bind_some, Sum.elim_inl]

theorem same_acts (l : List Act) (hl : l.length ≤ 100000) (hk : ∀ x ∈ l, x.2.2.2.2.2.1.length ≤ 100000) : r14 (l, l) = some true := by
  obtain ⟨r, h1, h2⟩ := loop_rule (body := r14_L0 (l, l)) (fun i => 0 ≤ i ∧ i ≤ l.length) (fun i => l.length - i.toNat) (fun r => r = .inl ()) (fun i hi => by
    unfold r14_L0
    by_cases c : i < l.length
    · obtain ⟨x, e1, e2⟩ := idxI_is hi.1 c
      have hw : Go.IntKind.wrap .i64 (i + 1) = i + 1 := wrap_i64 (by unfold i64; omega)
      rw [decide_eq_true c]
      simp only [cond_true, e1, Option.bind_some, decide_true, Bool.not_true, Bool.not_false, Bool.and_self, cond_false, same_ints _ (hk x (List.mem_of_getElem? e2)), hw]
      exact .inl ⟨_, rfl, ⟨by omega, by omega⟩, by omega⟩
    · rw [decide_eq_false c]
      exact .inr ⟨_, rfl, rfl⟩) 0 (by simp)
  subst h2
  unfold r14
  simp only [decide_true, Bool.not_true, cond_false, h1, Option.bind_some, Sum.elim_inl]

abbrev crashA : Act := ((6 : Int), ((0 : Int), ((0 : Int), ((0 : Int), ((0 : Int), ([(20 : Int)], (((0 : Int), ((0 : Int), ((0 : Int), ((0 : Int), (0 : Int))))), ([] : List UInt8))))))))

theorem crash_ok {c : Cfg} (hc : CfgOk c) : ActOk c crashA := by
  have s0 := hc.s0; have l0 := hc.l0
  constructor <;> simp only [List.length_nil, List.length_cons, ne_eq] <;> first | omega | (intros; first | omega | trivial) | (intro n hn; simp at hn; omega) | simp

theorem crash_show : showT [crashA] = ([99, 114, 97, 115, 104, 32, 48, 32, 50, 48, 10] : List UInt8) := by
  have h0 : itoa (0 : Int) = [48] := by
    have := itoa_nat 0
    rw [show ((0 : Nat) : Int) = 0 from rfl] at this
    rw [this]; simp [decDigits]
  have h20 : itoa (20 : Int) = [50, 48] := by
    have := itoa_nat 20
    rw [show ((20 : Nat) : Int) = 20 from rfl] at this
    rw [this]; simp [decDigits]
  have hv : valuesOf crashA = [0, 20] := rfl
  have hw : wordOf crashA.1 = [99, 114, 97, 115, 104] := rfl
  have ht : tailOf crashA = [] := rfl
  simp only [showT, List.flatMap_cons, List.flatMap_nil, lineOf, hv, hw, ht, nums, h0, h20]
  rfl

theorem linesBack {s : Int} {labels : List Int} {p : Int} {l : List Raw} (hs : i64 s) (hlab : ∀ n ∈ labels, i64 n) (hlab' : labels.length ≤ 9223372036854775807) (hp : i64 p) (hl : ∀ b ∈ l, RawOk b) (hl' : l.length ≤ 9223372036854775807) :
    r4 (s, (labels, (p, l))) = some true := by
  obtain ⟨c, e0, hc⟩ := cfg_is (a := (s, (labels, p))) hs hlab hlab' hp
  obtain ⟨xa, e1, a1, a2⟩ := acts_is hc hl hl' (most := 30) (by omega) (by omega) (force := true)
  have good : ∀ x, ActOk c x → r21 (c, x) = some 0 ∧ ShowOk x := fun x h => ⟨act_good hc h, act_show hc h⟩
  have hck := check_ok hc
  obtain ⟨s1, -⟩ := show_is hck (l := xa) (by omega) fun x hx => good x (a2 x hx)
  have s2 := read_is hc a2 (by omega)
  obtain ⟨s3, -⟩ := show_is hck (l := [crashA]) (by simp) fun x hx => good x (by rw [List.mem_singleton] at hx; rw [hx]; exact crash_ok hc)
  rw [crash_show] at s3
  have s4 := same_acts xa (by omega) fun x hx => by have := (a2 x hx).kl; have := hc.l1; omega
  have hw : Go.IntKind.wrap .i64 ((0 : Int) + 0) = 0 := by decide
  unfold r4
  simp only [e0, Option.bind_some, e1, s1, s2, s3, s4, decide_true, cond_true, hw]

end Go.Hl
