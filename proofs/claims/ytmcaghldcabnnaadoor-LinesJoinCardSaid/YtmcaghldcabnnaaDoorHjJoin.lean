/- Lines stand one behind the other. -/
import Derived.Test.YtmcaghldcabnnaaDoorHjLines
namespace Go.Hj
open Go.RowKit Go.Proofs Go.V Go.Lib

theorem two_two : r9 2 = some (3, [((0 : Int), (0 : Int)), ((1 : Int), (0 : Int))], 3) := by
  simp [r9, r15, IntKind.wrap, IntKind.signed, IntKind.bits]

theorem two_two_ok : CfgOk (3, [((0 : Int), (0 : Int)), ((1 : Int), (0 : Int))], 3) :=
  ⟨by decide, by decide, by decide, by decide, by simp [LabOk], by decide, by simp, by simp⟩

abbrev tickA : Act := ((5 : Int), ((0 : Int), ((0 : Int), ((0 : Int), ((0 : Int), ([], (((0 : Int), ((0 : Int), ((0 : Int), ((0 : Int), (0 : Int))))), ([] : List UInt8))))))))

theorem tick_ok {c : Cfg} (hc : CfgOk c) : ActOk c tickA := by
  have s0 := hc.s0; have l0 := hc.l0
  constructor <;> simp only [List.length_nil, ne_eq] <;> first | omega | (intros; first | omega | trivial) | (intro n hn; simp at hn; done) | simp

theorem showT_app (l m : List Act) : showT (l ++ m) = showT l ++ showT m := by simp [showT]

theorem linesJoin {l m : List Raw} (hl : ∀ b ∈ l, RawOk b) (hl' : l.length ≤ 9223372036854775807) (hm : ∀ b ∈ m, RawOk b) (hm' : m.length ≤ 9223372036854775807) : r3 (l, m) = some true := by
  have hc := two_two_ok
  obtain ⟨xa, e1, a1, a2⟩ := acts_is hc hl hl' (most := 12) (by omega) (by omega) (force := true)
  obtain ⟨bs, e2, b1, b2⟩ := acts_is hc hm hm' (most := 12) (by omega) (by omega) (force := true)
  have good : ∀ x, ActOk _ x → r21 (_, x) = some 0 ∧ ShowOk x := fun x h => ⟨act_good hc h, act_show hc h⟩
  have b3 : ∀ x ∈ bs ++ [tickA], ActOk _ x := fun x hx => by
    rcases List.mem_append.1 hx with hx | hx
    · exact b2 x hx
    · rw [List.mem_singleton] at hx; rw [hx]; exact tick_ok hc
  have hck := check_ok hc
  obtain ⟨s1, n1⟩ := show_is hck (l := xa) (by omega) fun x hx => good x (a2 x hx)
  obtain ⟨s2, n2⟩ := show_is hck (l := bs ++ [tickA]) (by rw [List.length_append, List.length_singleton]; omega) fun x hx => good x (b3 x hx)
  obtain ⟨s3, n3⟩ := show_is hck (l := xa ++ (bs ++ [tickA])) (by simp only [List.length_append, List.length_singleton]; omega) fun x hx => good x (by
    rcases List.mem_append.1 hx with hx | hx
    · exact a2 x hx
    · exact b3 x hx)
  rw [List.length_append, List.length_singleton] at n2
  have k1 : roomOk false bs.length 1 120 = true := roomOk_true (by omega)
  have k2 : roomOk true 0 xa.length 120 = true := roomOk_true (by omega)
  have k3 : roomOk false xa.length (bs ++ [tickA]).length 120 = true := roomOk_true (by rw [List.length_append, List.length_singleton]; omega)
  have k4 : decide ((showT xa).length + (showT (bs ++ [tickA])).length ≤ 9223372036854775807) = true := decide_eq_true (by omega)
  have k5 : decide ((0 : Int) < ((showT (bs ++ [tickA])).length : Int)) = true := decide_eq_true (by
    rw [showT_app, List.length_append]
    simp only [showT, List.flatMap_cons, List.flatMap_nil, List.length_append, List.length_cons]; omega)
  unfold r3
  rw [two_two]
  simp only [Option.bind_some, e1, e2, app_eq, bif_t k1, bif_t k2, bif_t k3, s1, s2, s3, decide_true, cond_true, bif_t k4, showT_app xa, k5]

end Go.Hj
