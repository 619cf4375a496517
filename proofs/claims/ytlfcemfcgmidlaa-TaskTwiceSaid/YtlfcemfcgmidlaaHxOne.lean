/- What the functions compute: written by gen.py. -/
import Derived.Test.YtlfcemfcgmidlaaLibK
import Derived.Test.YtlfcemfcgmidlaaProg
import Derived.KernelRfl
namespace Go.Hx
open Go.RowKit Go.Proofs Go.V Go.Proofs
abbrev E_29 : Ty := (.pair (.int .i64) (.pair (.int .i64) (.pair (.int .i64) (.pair (.int .i64) (.pair (.int .i64) (.int .i64))))))
abbrev E_28 : Ty := (.pair .bool (.pair (.int .i64) (.pair (.int .i64) (.pair (.int .i64) (.pair (.int .i64) (.pair (.int .i64) (.pair .bool .bool)))))))
abbrev E_27 : Ty := (.pair (.int .i64) (.pair (.pair (.int .i64) (.int .i64)) (.pair (.int .i64) (.pair (.int .i64) (.pair (.int .i64) (.pair .bool (.rsl (.int .i64))))))))
abbrev E_26 : Ty := (.pair (.int .i64) (.pair (.int .i64) (.pair (.int .i64) (.pair (.pair (.int .i64) (.int .i64)) (.pair (.int .i64) (.pair (.int .i64) (.pair (.int .i64) (.pair (.int .i64) (.pair (.int .i64) (.pair .bool (.int .i64)))))))))))
abbrev E_25 : Ty := (.pair (.int .i64) (.pair (.int .i64) (.pair (.sl E_28) (.pair (.sl (.int .i64)) (.pair (.int .i64) (.int .i64))))))
abbrev E_24 : Ty := (.pair (.int .i64) (.sl E_25))
abbrev E_23 : Ty := (.pair E_24 (.pair (.sl E_26) (.pair (.sl E_27) (.pair (.sl E_29) (.pair (.int .i64) (.int .i64))))))
abbrev E_22 : Ty := (.pair (.int .i64) E_23)
abbrev E_21 : Ty := (.pair (.int .i64) E_22)
abbrev E_20 : Ty := (.pair (.pair (.int .i64) (.pair (.rsl (.pair (.int .i64) (.int .i64))) (.int .i64))) E_21)
abbrev E_19 : Ty := (.ptr E_20)
abbrev T_18 : Type := (Bool × (Int × (Int × (Int × (Int × (Int × (Bool × Bool)))))))
abbrev T_17 : Type := (Int × (Int × (Int × ((Int × Int) × (Int × (Int × (Int × (Int × (Int × (Bool × Int))))))))))
abbrev T_16 : Type := (Int × (Int × (List (T_18) × (List Int × (Int × Int)))))
abbrev T_15 : Type := (Int × List (T_16))
abbrev T_14 : Type := ((Int × (List ((Int × Int)) × Int)) × (Int × (Int × (T_15 × (Int × (Int × (Int × (Int × (Int × Int)))))))))
abbrev T_13 : Type := ((Int × (List ((Int × Int)) × Int)) × (T_15 × T_16))
abbrev T_12 : Type := (T_15 × (List (T_17) × (List ((Int × ((Int × Int) × (Int × (Int × (Int × (Bool × List Int))))))) × (List ((Int × (Int × (Int × (Int × (Int × Int)))))) × (Int × Int)))))
abbrev T_11 : Type := (Int × (Int × (List (T_16) × (List (T_17) × (List ((Int × ((Int × Int) × (Int × (Int × (Int × (Bool × List Int))))))) × (List ((Int × (Int × (Int × (Int × (Int × Int)))))) × (Int × Int)))))))
abbrev T_10 : Type := (T_12 × Int)
abbrev T_9 : Type := (Unit × T_11)
abbrev T_8 : Type := (Int × (List ((Int × Int)) × (Int × (Int × T_11))))
abbrev T_7 : Type := ((Int × (List ((Int × Int)) × Int)) × (Int × (Int × T_12)))
abbrev T_6 : Type := (Int × T_7)
abbrev T_5 : Type := (T_7 × Int)
abbrev T_4 : Type := (Unit × T_8)
abbrev T_3 : Type := (Unit × (((Unit × (Unit × Unit)) × Nat) × T_8))
abbrev T_2 : Type := (T_7 × (Int × T_18))
abbrev T_1 : Type := (((Unit × (Unit × Unit)) × Nat) × (Unit × (Unit × (Unit × (Unit × (((Unit × (Unit × Unit)) × Nat) × (((Unit × (Unit × Unit)) × Nat) × (((Unit × (Unit × Unit)) × Nat) × T_4))))))))
abbrev T_0 : Type := (Unit × T_1)
def tys : List (Nat × TyInfo) := [
  (3, ⟨.int .i64, 1, 8, [.int .i64 0], false, [none], [none], (.int .i64)⟩),
  (4, ⟨.bool, 1, 1, [.bool false], false, [none], [none], .bool⟩),
  (22, ⟨.sl 50, 1, 24, [.slice none 0 0], false, [some (.pair (.int .i64) (.int .i64))], [none], (.sl (.pair (.int .i64) (.int .i64)))⟩),
  (24, ⟨.st [(0, 3), (1, 22), (2, 3)], 3, 40, [.int .i64 0, .slice none 0 0, .int .i64 0], false, [none, some (.pair (.int .i64) (.int .i64)), none], [none, none, none], (.pair (.int .i64) (.pair (.rsl (.pair (.int .i64) (.int .i64))) (.int .i64)))⟩),
  (26, ⟨.sl 66, 1, 24, [.slice none 0 0], false, [some E_25], [none], (.sl E_25)⟩),
  (28, ⟨.st [(0, 3), (1, 26)], 2, 32, [.int .i64 0, .slice none 0 0], false, [none, some E_25], [none, none], E_24⟩),
  (29, ⟨.sl 45, 1, 24, [.slice none 0 0], false, [some E_26], [none], (.sl E_26)⟩),
  (30, ⟨.sl 85, 1, 24, [.slice none 0 0], false, [some E_27], [none], (.sl E_27)⟩),
  (31, ⟨.sl 41, 1, 24, [.slice none 0 0], false, [some E_29], [none], (.sl E_29)⟩),
  (33, ⟨.st [(0, 28), (2, 29), (3, 30), (4, 31), (5, 3), (6, 3)], 7, 120, [.int .i64 0, .slice none 0 0, .slice none 0 0, .slice none 0 0, .slice none 0 0, .int .i64 0, .int .i64 0], false, [none, some E_25, some E_26, some E_27, some E_29, none, none], [none, none, none, none, none, none, none], E_23⟩),
  (34, ⟨.int .i64, 1, 8, [.int .i64 0], false, [none], [none], (.int .i64)⟩),
  (38, ⟨.st [(0, 3), (1, 3), (2, 3), (3, 3), (4, 3)], 5, 40, [.int .i64 0, .int .i64 0, .int .i64 0, .int .i64 0, .int .i64 0], false, [none, none, none, none, none], [none, none, none, none, none], (.pair (.int .i64) (.pair (.int .i64) (.pair (.int .i64) (.pair (.int .i64) (.int .i64)))))⟩),
  (41, ⟨.st [(0, 3), (1, 3), (2, 3), (3, 3), (4, 3), (5, 34)], 6, 48, [.int .i64 0, .int .i64 0, .int .i64 0, .int .i64 0, .int .i64 0, .int .i64 0], false, [none, none, none, none, none, none], [none, none, none, none, none, none], E_29⟩),
  (43, ⟨.st [(0, 3), (1, 3)], 2, 16, [.int .i64 0, .int .i64 0], true, [none, none], [none, none], (.pair (.int .i64) (.int .i64))⟩),
  (45, ⟨.st [(0, 3), (1, 3), (2, 3), (3, 43), (5, 3), (6, 3), (7, 3), (8, 3), (9, 3), (10, 4), (11, 34)], 12, 96, [.int .i64 0, .int .i64 0, .int .i64 0, .int .i64 0, .int .i64 0, .int .i64 0, .int .i64 0, .int .i64 0, .int .i64 0, .int .i64 0, .bool false, .int .i64 0], true, [none, none, none, none, none, none, none, none, none, none, none, none], [none, none, none, none, none, none, none, none, none, none, none, none], E_26⟩),
  (50, ⟨.st [(0, 3), (1, 3)], 2, 16, [.int .i64 0, .int .i64 0], true, [none, none], [none, none], (.pair (.int .i64) (.int .i64))⟩),
  (51, ⟨.ptr, 1, 8, [.pointer none], false, [none], [none], .unit⟩),
  (56, ⟨.st [(0, 24), (3, 3), (4, 3), (5, 33)], 12, 176, [.int .i64 0, .slice none 0 0, .int .i64 0, .int .i64 0, .int .i64 0, .int .i64 0, .slice none 0 0, .slice none 0 0, .slice none 0 0, .slice none 0 0, .int .i64 0, .int .i64 0], false, [none, some (.pair (.int .i64) (.int .i64)), none, none, none, none, some E_25, some E_26, some E_27, some E_29, none, none], [none, none, none, none, none, none, none, none, none, none, none, none], E_20⟩),
  (62, ⟨.st [(0, 4), (1, 3), (2, 3), (3, 3), (4, 3), (5, 3), (6, 4), (7, 4)], 8, 56, [.bool false, .int .i64 0, .int .i64 0, .int .i64 0, .int .i64 0, .int .i64 0, .bool false, .bool false], true, [none, none, none, none, none, none, none, none], [none, none, none, none, none, none, none, none], E_28⟩),
  (63, ⟨.sl 62, 1, 24, [.slice none 0 0], false, [some E_28], [none], (.sl E_28)⟩),
  (64, ⟨.sl 3, 1, 24, [.slice none 0 0], false, [some (.int .i64)], [none], (.sl (.int .i64))⟩),
  (66, ⟨.st [(0, 3), (1, 3), (2, 63), (3, 64), (4, 3), (5, 3)], 6, 80, [.int .i64 0, .int .i64 0, .slice none 0 0, .slice none 0 0, .int .i64 0, .int .i64 0], false, [none, none, some E_28, some (.int .i64), none, none], [none, none, none, none, none, none], E_25⟩),
  (85, ⟨.st [(0, 3), (1, 43), (3, 3), (4, 3), (5, 3), (6, 4), (7, 64)], 8, 80, [.int .i64 0, .int .i64 0, .int .i64 0, .int .i64 0, .int .i64 0, .int .i64 0, .bool false, .slice none 0 0], false, [none, none, none, none, none, none, none, some (.int .i64)], [none, none, none, none, none, none, none, none], E_27⟩)]
theorem tysOk : TyOk Try.prog tys := tyOk_of fun e he => by
  simp only [tys, List.mem_cons, List.not_mem_nil, or_false] at he
  rcases he with rfl | rfl | rfl | rfl | rfl | rfl | rfl | rfl | rfl | rfl | rfl | rfl | rfl | rfl | rfl | rfl | rfl | rfl | rfl | rfl | rfl | rfl | rfl
  · exact ⟨by kernel_rfl, by kernel_rfl, fun h => nomatch h⟩
  · exact ⟨by kernel_rfl, by kernel_rfl, fun h => nomatch h⟩
  · exact ⟨by kernel_rfl, by kernel_rfl, fun h => nomatch h⟩
  · exact ⟨by kernel_rfl, by kernel_rfl, fun h => nomatch h⟩
  · exact ⟨by kernel_rfl, by kernel_rfl, fun h => nomatch h⟩
  · exact ⟨by kernel_rfl, by kernel_rfl, fun h => nomatch h⟩
  · exact ⟨by kernel_rfl, by kernel_rfl, fun h => nomatch h⟩
  · exact ⟨by kernel_rfl, by kernel_rfl, fun h => nomatch h⟩
  · exact ⟨by kernel_rfl, by kernel_rfl, fun h => nomatch h⟩
  · exact ⟨by kernel_rfl, by kernel_rfl, fun h => nomatch h⟩
  · exact ⟨by kernel_rfl, by kernel_rfl, fun h => nomatch h⟩
  · exact ⟨by kernel_rfl, by kernel_rfl, fun h => nomatch h⟩
  · exact ⟨by kernel_rfl, by kernel_rfl, fun h => nomatch h⟩
  · exact ⟨by kernel_rfl, by kernel_rfl, fun _ => ⟨by kernel_rfl, by kernel_rfl, by kernel_rfl⟩⟩
  · exact ⟨by kernel_rfl, by kernel_rfl, fun _ => ⟨by kernel_rfl, by kernel_rfl, by kernel_rfl⟩⟩
  · exact ⟨by kernel_rfl, by kernel_rfl, fun _ => ⟨by kernel_rfl, by kernel_rfl, by kernel_rfl⟩⟩
  · exact ⟨by kernel_rfl, by kernel_rfl, fun h => nomatch h⟩
  · exact ⟨by kernel_rfl, by kernel_rfl, fun h => nomatch h⟩
  · exact ⟨by kernel_rfl, by kernel_rfl, fun _ => ⟨by kernel_rfl, by kernel_rfl, by kernel_rfl⟩⟩
  · exact ⟨by kernel_rfl, by kernel_rfl, fun h => nomatch h⟩
  · exact ⟨by kernel_rfl, by kernel_rfl, fun h => nomatch h⟩
  · exact ⟨by kernel_rfl, by kernel_rfl, fun h => nomatch h⟩
  · exact ⟨by kernel_rfl, by kernel_rfl, fun h => nomatch h⟩
noncomputable def inls : List (Nat × Go.Func) := [(9, Try.f9), (12, Try.f12), (20, Try.f20), (22, Try.f22), (23, Try.f23), (24, Try.f24)]
theorem inlsOk : ∀ f fn, Go.V.look inls f = some fn → Try.prog.funcs[f]? = some fn ∧ (fn.name == "runtime.NumGoroutine") = false := inlOk_of fun e he => by
  simp only [inls, List.mem_cons, List.not_mem_nil, or_false] at he
  rcases he with rfl | rfl | rfl | rfl | rfl | rfl
  · exact ⟨Try.func9, by kernel_rfl⟩
  · exact ⟨Try.func12, by kernel_rfl⟩
  · exact ⟨Try.func20, by kernel_rfl⟩
  · exact ⟨Try.func22, by kernel_rfl⟩
  · exact ⟨Try.func23, by kernel_rfl⟩
  · exact ⟨Try.func24, by kernel_rfl⟩
noncomputable def cx : Ctx := ⟨Try.prog, tys, tysOk, [], 0, inls, inlsOk, by kernel_rfl⟩
/-! reredos/reredoskeep.picked -/
def sg7 : Sig := ⟨[⟨false, .bo, (.int .i64)⟩, ⟨false, .bo, (.int .i64)⟩], [⟨false, .own, (.int .i64)⟩]⟩
noncomputable def r7 (a : (Int × Int)) : Option Int :=
  Option.bind (
    bif decide (a.1 < (0 : Int)) then
      some (Go.IntKind.wrap .i64 (0 - (Go.IntKind.wrap .i64 (a.1 + (1 : Int)))))
    else
      some a.1) fun (d1 : Int) =>
    bif decide (a.2 = 0) then
      none
    else
      some (Int.tmod d1 a.2)
def an7 : Ann := .two (.leaf) (.two (.join [1] [] [⟨.normal, [], [.tmp 0 (.int .i64)]⟩] (.two (.leaf) (.two (.leaf) (.leaf)))) (.two (.leaf) (.leaf)))
theorem s7 : SoundF cx.P cx.G 7 sg7 r7 := by
  have e : denF cx [] an7 Try.f7.ntmps (Try.f7.body.getD .skip) Try.f7.results.toList sg7 = r7 := by kernel_rfl
  rw [← e]
  exact sound_of_den (c := cx) (Known.nil) Try.func7 (by kernel_rfl) (Nat.le_of_ble_eq_true (by kernel_rfl)) rfl
/-! reredos/reredoskeep.two -/
def sg5 : Sig := ⟨[⟨false, .bo, (.int .i64)⟩], [⟨true, .ro, (.pair (.int .i64) (.pair (.sl (.pair (.int .i64) (.int .i64))) (.int .i64)))⟩]⟩
noncomputable def r5 (a : Int) : Option (Int × (List ((Int × Int)) × Int)) :=
  Option.bind (r7 (a, (3 : Int))) fun (y1 : Int) =>
    some ((Go.IntKind.wrap .i64 ((1 : Int) + y1)), ([((0 : Int), (0 : Int)), ((1 : Int), (0 : Int))], (3 : Int)))
def an5 : Ann := .two (.leaf) (.two (.leaf) (.leaf))
theorem s5 : SoundF cx.P cx.G 5 sg5 r5 := by
  have e : denF cx [(7, ⟨sg7, r7⟩)] an5 Try.f5.ntmps (Try.f5.body.getD .skip) Try.f5.results.toList sg5 = r5 := by kernel_rfl
  rw [← e]
  exact sound_of_den (c := cx) (Known.cons (.ofF s7 (by kernel_rfl)) Try.func7 (by kernel_rfl) (by kernel_rfl) (Known.nil)) Try.func5 (by kernel_rfl) (Nat.le_of_ble_eq_true (by kernel_rfl)) rfl
/-! reredos/label.one -/
def sg39 : Sig := ⟨[⟨true, .bo, (.pair (.int .i64) (.int .i64))⟩], [⟨false, .own, .bool⟩]⟩
noncomputable def r39 (a : (Int × Int)) : Option Bool :=
  Option.bind (
    bif decide ((0 : Int) ≤ a.1) then
      some (decide (a.1 ≤ (9 : Int)))
    else
      some false) fun (g1 : Bool) =>
    Option.bind (
      bif g1 then
        some (decide ((0 : Int) ≤ a.2))
      else
        some false) fun (g2 : Bool) =>
      bif g2 then
        some (decide (a.2 ≤ (15 : Int)))
      else
        some false
def an39 : Ann := .two (.leaf) (.two (.segs [(8, ([1], ([1], [.tmp 10 (.bool)]))), (5, ([1], ([1], [.tmp 15 (.bool)])))]) (.leaf))
theorem s39 : SoundF cx.P cx.G 39 sg39 r39 := by
  have e : denF cx [] an39 Try.f39.ntmps (Try.f39.body.getD .skip) Try.f39.results.toList sg39 = r39 := by kernel_rfl
  rw [← e]
  exact sound_of_den (c := cx) (Known.nil) Try.func39 (by kernel_rfl) (Nat.le_of_ble_eq_true (by kernel_rfl)) rfl
/-! reredos/label.Check -/
noncomputable def r29_L0 (d3 : Int) (a : (Int × (List ((Int × Int)) × Int))) (b4 : (Int × Int)) (d6 : Int) : Option (Int ⊕ (Unit ⊕ Int)) :=
  bif decide (d6 < (↑((List.take (Int.toNat d3) a.2.1).length) : Int)) then
    Option.bind (idxI (List.take (Int.toNat d3) a.2.1) d6) fun (b7 : (Int × Int)) =>
      bif (decide (b7.1 = b4.1) && (decide (b7.2 = b4.2) && true)) then
        some (Sum.inr (Sum.inr (7 : Int)))
      else
        some (Sum.inl (Go.IntKind.wrap .i64 (d6 + (1 : Int))))
  else
    some (Sum.inr (Sum.inl ()))
noncomputable def r29_L1 (a : (Int × (List ((Int × Int)) × Int))) (d3 : Int) : Option (Int ⊕ (Unit ⊕ Int)) :=
  bif decide (d3 < (↑a.2.1.length : Int)) then
    Option.bind (idxI a.2.1 d3) fun (b4 : (Int × Int)) =>
      Option.bind (r39 b4) fun (y5 : Bool) =>
        bif !(y5) then
          some (Sum.inr (Sum.inr (2 : Int)))
        else
          bif okB none (some d3) none a.2.1.length then
            Option.bind (loopR (r29_L0 d3 a b4) (0 : Int)) fun (q8 : (Unit ⊕ Int)) =>
              Sum.elim (fun (_ : Unit) =>
                  some (Sum.inl (Go.IntKind.wrap .i64 (d3 + (1 : Int)))))
                (fun (v10 : Int) =>
                  some (Sum.inr (Sum.inr v10))) q8
          else
            none
  else
    some (Sum.inr (Sum.inl ()))
def sg29 : Sig := ⟨[⟨true, .bo, (.pair (.int .i64) (.pair (.sl (.pair (.int .i64) (.int .i64))) (.int .i64)))⟩], [⟨false, .own, (.int .i64)⟩]⟩
noncomputable def r29 (a : (Int × (List ((Int × Int)) × Int))) : Option Int :=
  Option.bind (
    bif !(decide (a.1 < (1 : Int))) then
      some (decide ((4 : Int) < a.1))
    else
      some true) fun (d1 : Bool) =>
    bif d1 then
      some (2 : Int)
    else
      Option.bind (
        bif !(decide ((↑a.2.1.length : Int) < (1 : Int))) then
          some (decide ((6 : Int) < (↑a.2.1.length : Int)))
        else
          some true) fun (d2 : Bool) =>
        bif d2 then
          some (1 : Int)
        else
          Option.bind (loopR (r29_L1 a) (0 : Int)) fun (q11 : (Unit ⊕ Int)) =>
            Sum.elim (fun (_ : Unit) =>
                Option.bind (
                  bif !(decide (a.2.2 < (1 : Int))) then
                    some (decide ((1048576 : Int) < a.2.2))
                  else
                    some true) fun (d14 : Bool) =>
                  bif d14 then
                    some (2 : Int)
                  else
                    some (0 : Int))
              (fun (v13 : Int) =>
                some v13) q11
def an29 : Ann := .two (.leaf) (.two (.two (.join [1] [1] [⟨.normal, [], [.tmp 14 (.bool)]⟩] (.leaf)) (.two (.two (.leaf) (.leaf)) (.leaf))) (.two (.two (.join [1] [1] [⟨.normal, [], [.tmp 24 (.bool)]⟩] (.leaf)) (.two (.two (.leaf) (.leaf)) (.leaf))) (.two (.two (.leaf) (.one (.loop [1, 26, 27] [1] [] [.tmp 28 (.int .i64)] [⟨.exit 0, [], []⟩, ⟨.ret, [], [.tmp 2 (.int .i64)]⟩] (.two (.leaf) (.two (.two (.leaf) (.leaf)) (.two (.one (.two (.leaf) (.two (.two (.leaf) (.two (.two (.leaf) (.leaf)) (.leaf))) (.two (.leaf) (.one (.loop [1, 4, 26, 27, 28, 39, 40] [1, 4] [] [.tmp 41 (.int .i64)] [⟨.exit 2, [], []⟩, ⟨.ret, [], [.tmp 2 (.int .i64)]⟩] (.two (.leaf) (.two (.two (.leaf) (.leaf)) (.two (.one (.two (.leaf) (.two (.leaf) (.two (.two (.leaf) (.leaf)) (.leaf))))) (.leaf)))))))))) (.leaf))))))) (.two (.two (.join [] [] [⟨.normal, [], [.tmp 57 (.bool)]⟩] (.leaf)) (.two (.two (.leaf) (.leaf)) (.leaf))) (.two (.leaf) (.leaf))))))
theorem s29 : SoundF cx.P cx.G 29 sg29 r29 := by
  have e : denF cx [(39, ⟨sg39, r39⟩)] an29 Try.f29.ntmps (Try.f29.body.getD .skip) Try.f29.results.toList sg29 = r29 := by kernel_rfl
  rw [← e]
  exact sound_of_den (c := cx) (Known.cons (.ofF s39 (by kernel_rfl)) Try.func39 (by kernel_rfl) (by kernel_rfl) (Known.nil)) Try.func29 (by kernel_rfl) (Nat.le_of_ble_eq_true (by kernel_rfl)) rfl
/-! reredos/coord.task -/
def sg40 : Sig := ⟨[⟨true, .bo, (.pair (.int .i64) (.pair (.sl (.pair (.int .i64) (.int .i64))) (.int .i64)))⟩, ⟨true, .bo, E_28⟩], [⟨false, .own, .bool⟩]⟩
noncomputable def r40 (a : ((Int × (List ((Int × Int)) × Int)) × T_18)) : Option Bool :=
  Option.bind (
    Option.bind (
      bif !(decide (a.2.2.1 < (0 : Int))) then
        some (decide ((↑a.1.2.1.length : Int) ≤ a.2.2.1))
      else
        some true) fun (g17 : Bool) =>
      Option.bind (
        bif !(g17) then
          some (decide (a.2.2.2.1 < (0 : Int)))
        else
          some true) fun (g18 : Bool) =>
        Option.bind (
          bif !(g18) then
            some (decide ((8 : Int) ≤ a.2.2.2.1))
          else
            some true) fun (g19 : Bool) =>
          Option.bind (
            bif !(g19) then
              some (decide (a.2.2.2.2.1 < (0 : Int)))
            else
              some true) fun (g20 : Bool) =>
            Option.bind (
              bif !(g20) then
                some (decide ((1073741824 : Int) < a.2.2.2.2.1))
              else
                some true) fun (g21 : Bool) =>
              Option.bind (
                bif !(g21) then
                  some (decide (a.2.2.2.2.2.1 < (0 : Int)))
                else
                  some true) fun (g22 : Bool) =>
                Option.bind (
                  bif !(g22) then
                    some (decide ((1048576 : Int) < a.2.2.2.2.2.1))
                  else
                    some true) fun (g23 : Bool) =>
                  Option.bind (
                    bif !(g23) then
                      some (decide (a.2.2.2.2.2.2.1 < (1 : Int)))
                    else
                      some true) fun (g24 : Bool) =>
                    bif !(g24) then
                      some (decide ((1048576 : Int) < a.2.2.2.2.2.2.1))
                    else
                      some true) fun (d25 : Bool) =>
    bif d25 then
      some false
    else
      bif !(a.2.2.2.2.2.2.2.1) then
        bif !(a.2.2.2.2.2.2.2.2) then
          bif !(a.2.1) then
            some (decide ((Go.IntKind.wrap .i64 (a.2.2.2.2.1 + a.2.2.2.2.2.1)) = (0 : Int)))
          else
            some true
        else
          some false
      else
        some true
def an40 : Ann := .two (.leaf) (.two (.two (.join [3] [3] [⟨.normal, [], [.tmp 55 (.bool)]⟩] (.segs [(11, ([3], ([3], [.tmp 15 (.bool)]))), (5, ([3], ([3], [.tmp 20 (.bool)]))), (5, ([3], ([3], [.tmp 25 (.bool)]))), (5, ([3], ([3], [.tmp 30 (.bool)]))), (5, ([3], ([3], [.tmp 35 (.bool)]))), (5, ([3], ([3], [.tmp 40 (.bool)]))), (5, ([3], ([3], [.tmp 45 (.bool)]))), (5, ([3], ([3], [.tmp 50 (.bool)])))])) (.two (.two (.leaf) (.leaf)) (.leaf))) (.two (.leaf) (.leaf)))
theorem s40 : SoundF cx.P cx.G 40 sg40 r40 := by
  have e : denF cx [] an40 Try.f40.ntmps (Try.f40.body.getD .skip) Try.f40.results.toList sg40 = r40 := by kernel_rfl
  rw [← e]
  exact sound_of_den (c := cx) (Known.nil) Try.func40 (by kernel_rfl) (Nat.le_of_ble_eq_true (by kernel_rfl)) rfl
/-! reredos/coord.job -/
noncomputable def r30_L0 (a : T_13) (d23 : Int) : Option (Int ⊕ (Unit ⊕ Bool)) :=
  bif decide (d23 < (↑a.2.2.2.2.1.length : Int)) then
    Option.bind (idxI a.2.2.2.2.1 d23) fun (b24 : T_18) =>
      Option.bind (
        Option.bind (r40 (a.1, b24)) fun (y35 : Bool) =>
          bif !(!(y35)) then
            bif !(decide (a.2.2.2.2.2.2.1 < b24.2.2.2.2.2.1)) then
              bif decide ((0 : Int) < d23) then
                Option.bind (idxI a.2.2.2.2.1 (Go.IntKind.wrap .i64 (d23 - (1 : Int)))) fun (b36 : T_18) =>
                  bif !(decide (b24.2.2.2.2.2.1 ≤ b36.2.2.2.2.2.1)) then
                    bif !(b24.2.2.2.2.2.2.1) then
                      bif !(decide (d23 < (Go.IntKind.wrap .i64 ((↑a.2.2.2.2.1.length : Int) - (1 : Int))))) then
                        bif !(b24.2.2.2.2.2.2.1) then
                          some (!(decide (a.2.2.2.1 = (1 : Int))))
                        else
                          some false
                      else
                        some true
                    else
                      bif !(b24.2.2.2.2.2.2.1) then
                        some (!(decide (a.2.2.2.1 = (1 : Int))))
                      else
                        some false
                  else
                    some true
              else
                bif !(b24.2.2.2.2.2.2.1) then
                  bif !(decide (d23 < (Go.IntKind.wrap .i64 ((↑a.2.2.2.2.1.length : Int) - (1 : Int))))) then
                    bif !(b24.2.2.2.2.2.2.1) then
                      some (!(decide (a.2.2.2.1 = (1 : Int))))
                    else
                      some false
                  else
                    some true
                else
                  bif !(b24.2.2.2.2.2.2.1) then
                    some (!(decide (a.2.2.2.1 = (1 : Int))))
                  else
                    some false
            else
              some true
          else
            some true) fun (d37 : Bool) =>
        bif d37 then
          some (Sum.inr (Sum.inr false))
        else
          some (Sum.inl (Go.IntKind.wrap .i64 (d23 + (1 : Int))))
  else
    some (Sum.inr (Sum.inl ()))
noncomputable def r30_L1 (a : T_13) (d41 : Int) : Option (Int ⊕ (Unit ⊕ Bool)) :=
  bif decide (d41 < (↑a.2.2.2.2.2.1.length : Int)) then
    Option.bind (idxI a.2.2.2.2.2.1 d41) fun (b42 : Int) =>
      Option.bind (
        Option.bind (
          bif !(decide (b42 < (0 : Int))) then
            some (decide (a.1.1 ≤ b42))
          else
            some true) fun (g47 : Bool) =>
          bif !(g47) then
            bif decide ((0 : Int) < d41) then
              Option.bind (idxI a.2.2.2.2.2.1 (Go.IntKind.wrap .i64 (d41 - (1 : Int)))) fun (b48 : Int) =>
                some (decide (b42 ≤ b48))
            else
              some false
          else
            some true) fun (d49 : Bool) =>
        bif d49 then
          some (Sum.inr (Sum.inr false))
        else
          some (Sum.inl (Go.IntKind.wrap .i64 (d41 + (1 : Int))))
  else
    some (Sum.inr (Sum.inl ()))
def sg30 : Sig := ⟨[⟨true, .bo, (.pair (.int .i64) (.pair (.sl (.pair (.int .i64) (.int .i64))) (.int .i64)))⟩, ⟨true, .bo, E_24⟩, ⟨true, .bo, E_25⟩], [⟨false, .own, .bool⟩]⟩
noncomputable def r30 (a : T_13) : Option Bool :=
  Option.bind (
    Option.bind (
      bif !(decide (a.2.2.1 < (1 : Int))) then
        some (decide (a.2.1.1 ≤ a.2.2.1))
      else
        some true) fun (g15 : Bool) =>
      Option.bind (
        bif !(g15) then
          some (decide (a.2.2.2.2.2.2.2 < (0 : Int)))
        else
          some true) fun (g16 : Bool) =>
        Option.bind (
          bif !(g16) then
            some (decide ((1048576 : Int) < a.2.2.2.2.2.2.2))
          else
            some true) fun (g17 : Bool) =>
          Option.bind (
            bif !(g17) then
              some (decide (a.2.2.2.1 < (1 : Int)))
            else
              some true) fun (g18 : Bool) =>
            Option.bind (
              bif !(g18) then
                some (decide ((3 : Int) < a.2.2.2.1))
              else
                some true) fun (g19 : Bool) =>
              Option.bind (
                bif !(g19) then
                  some (decide ((10 : Int) < (↑a.2.2.2.2.1.length : Int)))
                else
                  some true) fun (g20 : Bool) =>
                Option.bind (
                  bif !(g20) then
                    some (decide (a.2.2.2.2.2.2.1 < (0 : Int)))
                  else
                    some true) fun (g21 : Bool) =>
                  bif !(g21) then
                    some (decide ((1048576 : Int) < a.2.2.2.2.2.2.1))
                  else
                    some true) fun (d22 : Bool) =>
    bif d22 then
      some false
    else
      Option.bind (loopR (r30_L0 a) (0 : Int)) fun (q38 : (Unit ⊕ Bool)) =>
        Sum.elim (fun (_ : Unit) =>
            Option.bind (loopR (r30_L1 a) (0 : Int)) fun (q50 : (Unit ⊕ Bool)) =>
              Sum.elim (fun (_ : Unit) =>
                  some (decide (decide (a.2.2.2.1 = (3 : Int)) = decide ((0 : Int) < (↑a.2.2.2.2.2.1.length : Int)))))
                (fun (v52 : Bool) =>
                  some v52) q50)
          (fun (v40 : Bool) =>
            some v40) q38
def an30 : Ann := .two (.leaf) (.two (.two (.join [3, 5] [3, 5] [⟨.normal, [], [.tmp 56 (.bool)]⟩] (.segs [(10, ([3, 5], ([3, 5], [.tmp 20 (.bool)]))), (5, ([3, 5], ([3, 5], [.tmp 25 (.bool)]))), (5, ([3, 5], ([3, 5], [.tmp 30 (.bool)]))), (5, ([3, 5], ([3, 5], [.tmp 35 (.bool)]))), (5, ([3, 5], ([3, 5], [.tmp 40 (.bool)]))), (6, ([3, 5], ([3, 5], [.tmp 46 (.bool)]))), (5, ([3, 5], ([3, 5], [.tmp 51 (.bool)])))])) (.two (.two (.leaf) (.leaf)) (.leaf))) (.two (.two (.leaf) (.one (.loop [3, 5, 58, 59] [3, 5] [] [.tmp 60 (.int .i64)] [⟨.exit 0, [], []⟩, ⟨.ret, [], [.tmp 6 (.bool)]⟩] (.two (.leaf) (.two (.two (.leaf) (.leaf)) (.two (.one (.two (.leaf) (.two (.join [3, 5, 58, 59, 60] [3, 5] [⟨.normal, [], [.tmp 114 (.bool)]⟩] (.draw 37)) (.two (.two (.leaf) (.leaf)) (.leaf))))) (.leaf))))))) (.two (.two (.leaf) (.one (.loop [3, 5, 117, 118] [3, 5] [] [.tmp 119 (.int .i64)] [⟨.exit 2, [], []⟩, ⟨.ret, [], [.tmp 6 (.bool)]⟩] (.two (.leaf) (.two (.two (.leaf) (.leaf)) (.two (.one (.two (.leaf) (.two (.join [3, 5, 117, 118, 119] [3, 5] [⟨.normal, [], [.tmp 145 (.bool)]⟩] (.segs [(8, ([3, 5, 9, 10, 117, 118, 119], ([3, 5], [.tmp 131 (.bool)])))])) (.two (.two (.leaf) (.leaf)) (.leaf))))) (.leaf))))))) (.two (.leaf) (.leaf)))))
theorem s30 : SoundF cx.P cx.G 30 sg30 r30 := by
  have e : denF cx [(40, ⟨sg40, r40⟩)] an30 Try.f30.ntmps (Try.f30.body.getD .skip) Try.f30.results.toList sg30 = r30 := by kernel_rfl
  rw [← e]
  exact sound_of_den (c := cx) (Known.cons (.ofF s40 (by kernel_rfl)) Try.func40 (by kernel_rfl) (by kernel_rfl) (Known.nil)) Try.func30 (by kernel_rfl) (Nat.le_of_ble_eq_true (by kernel_rfl)) rfl
/-! reredos/coord.Check -/
noncomputable def r18_L0 (a : ((Int × (List ((Int × Int)) × Int)) × T_15)) (d6 : Int) : Option (Int ⊕ (Unit ⊕ Int)) :=
  bif decide (d6 < (↑a.2.2.length : Int)) then
    Option.bind (idxI a.2.2 d6) fun (b7 : T_16) =>
      Option.bind (
        Option.bind (r30 (a.1, a.2, b7)) fun (y18 : Bool) =>
          bif !(!(y18)) then
            bif decide ((0 : Int) < d6) then
              Option.bind (idxI a.2.2 (Go.IntKind.wrap .i64 (d6 - (1 : Int)))) fun (b19 : T_16) =>
                some (decide (b7.1 ≤ b19.1))
            else
              some false
          else
            some true) fun (d20 : Bool) =>
        bif d20 then
          some (Sum.inr (Sum.inr (9 : Int)))
        else
          some (Sum.inl (Go.IntKind.wrap .i64 (d6 + (1 : Int))))
  else
    some (Sum.inr (Sum.inl ()))
def sg18 : Sig := ⟨[⟨true, .bo, (.pair (.int .i64) (.pair (.sl (.pair (.int .i64) (.int .i64))) (.int .i64)))⟩, ⟨true, .bo, E_24⟩], [⟨false, .own, (.int .i64)⟩]⟩
noncomputable def r18 (a : ((Int × (List ((Int × Int)) × Int)) × T_15)) : Option Int :=
  Option.bind (r29 a.1) fun (y1 : Int) =>
    bif !(decide (y1 = (0 : Int))) then
      some y1
    else
      Option.bind (
        Option.bind (
          bif !(decide (a.2.1 < (1 : Int))) then
            some (decide ((1048577 : Int) < a.2.1))
          else
            some true) fun (g4 : Bool) =>
          bif !(g4) then
            some (decide ((6 : Int) < (↑a.2.2.length : Int)))
          else
            some true) fun (d5 : Bool) =>
        bif d5 then
          some (9 : Int)
        else
          Option.bind (loopR (r18_L0 a) (0 : Int)) fun (q21 : (Unit ⊕ Int)) =>
            Sum.elim (fun (_ : Unit) =>
                some (0 : Int))
              (fun (v23 : Int) =>
                some v23) q21
def an18 : Ann := .two (.leaf) (.two (.two (.leaf) (.two (.leaf) (.two (.two (.leaf) (.leaf)) (.leaf)))) (.two (.two (.join [2, 3] [2, 3] [⟨.normal, [], [.tmp 26 (.bool)]⟩] (.segs [(8, ([2, 3], ([2, 3], [.tmp 20 (.bool)])))])) (.two (.two (.leaf) (.leaf)) (.leaf))) (.two (.two (.leaf) (.one (.loop [2, 3, 28, 29] [2, 3] [] [.tmp 30 (.int .i64)] [⟨.exit 0, [], []⟩, ⟨.ret, [], [.tmp 4 (.int .i64)]⟩] (.two (.leaf) (.two (.two (.leaf) (.leaf)) (.two (.one (.two (.leaf) (.two (.join [2, 3, 28, 29, 30] [2, 3] [⟨.normal, [], [.tmp 55 (.bool)]⟩] (.draw 18)) (.two (.two (.leaf) (.leaf)) (.leaf))))) (.leaf))))))) (.two (.leaf) (.leaf)))))
theorem s18 : SoundF cx.P cx.G 18 sg18 r18 := by
  have e : denF cx [(29, ⟨sg29, r29⟩), (30, ⟨sg30, r30⟩)] an18 Try.f18.ntmps (Try.f18.body.getD .skip) Try.f18.results.toList sg18 = r18 := by kernel_rfl
  rw [← e]
  exact sound_of_den (c := cx) (Known.cons (.ofF s29 (by kernel_rfl)) Try.func29 (by kernel_rfl) (by kernel_rfl) (Known.cons (.ofF s30 (by kernel_rfl)) Try.func30 (by kernel_rfl) (by kernel_rfl) (Known.nil))) Try.func18 (by kernel_rfl) (Nat.le_of_ble_eq_true (by kernel_rfl)) rfl
/-! slices.Clone[[]reredos/api.Task,reredos/api.Task] -/
def sg31 : Sig := ⟨[⟨false, .bo, (.sl E_28)⟩], [⟨false, .own, (.sl E_28)⟩]⟩
noncomputable def r31 (a : List (T_18)) : Option (List (T_18)) :=
  nilR a fun (n1 : Bool) =>
    bif n1 then
      some []
    else
      bif roomOk false 0 a.length 56 then
        some a
      else
        none
def an31 : Ann := .two (.leaf) (.two (.two (.leaf) (.two (.two (.leaf) (.leaf)) (.leaf))) (.two (.leaf) (.leaf)))
theorem s31 : SoundF cx.P cx.G 31 sg31 r31 := by
  have e : denF cx [] an31 Try.f31.ntmps (Try.f31.body.getD .skip) Try.f31.results.toList sg31 = r31 := by kernel_rfl
  rw [← e]
  exact sound_of_den (c := cx) (Known.nil) Try.func31 (by kernel_rfl) (Nat.le_of_ble_eq_true (by kernel_rfl)) rfl
/-! slices.Clone[[]int,int] -/
def sg32 : Sig := ⟨[⟨false, .bo, (.sl (.int .i64))⟩], [⟨false, .own, (.sl (.int .i64))⟩]⟩
noncomputable def r32 (a : List Int) : Option (List Int) :=
  nilR a fun (n1 : Bool) =>
    bif n1 then
      some []
    else
      bif roomOk false 0 a.length 8 then
        some a
      else
        none
def an32 : Ann := .two (.leaf) (.two (.two (.leaf) (.two (.two (.leaf) (.leaf)) (.leaf))) (.two (.leaf) (.leaf)))
theorem s32 : SoundF cx.P cx.G 32 sg32 r32 := by
  have e : denF cx [] an32 Try.f32.ntmps (Try.f32.body.getD .skip) Try.f32.results.toList sg32 = r32 := by kernel_rfl
  rw [← e]
  exact sound_of_den (c := cx) (Known.nil) Try.func32 (by kernel_rfl) (Nat.le_of_ble_eq_true (by kernel_rfl)) rfl
/-! reredos/coord.own -/
noncomputable def r19_L0 (a : T_15) (d7 : (Unit × (Int × T_15))) : Option ((Unit × (Int × T_15)) ⊕ (Unit × T_15)) :=
  bif decide (d7.2.1 < (↑a.2.length : Int)) then
    Option.bind (idxI a.2 d7.2.1) fun (b8 : T_16) =>
      Option.bind (r31 b8.2.2.1) fun (y11 : List (T_18)) =>
        Option.bind (r32 b8.2.2.2.1) fun (y12 : List Int) =>
          bif roomOk false d7.2.2.2.length 1 80 then
            some (Sum.inl ((), ((Go.IntKind.wrap .i64 (d7.2.1 + (1 : Int))), (d7.2.2.1, app d7.2.2.2 [(b8.1, (b8.2.1, (y11, (y12, b8.2.2.2.2))))]))))
          else
            none
  else
    some (Sum.inr ((), d7.2.2))
def sg19 : Sig := ⟨[⟨true, .bo, E_24⟩], [⟨true, .own, E_24⟩]⟩
noncomputable def r19 (a : T_15) : Option T_15 :=
  Option.bind (loopR (r19_L0 a) ((), ((0 : Int), (a.1, [])))) fun (q13 : (Unit × T_15)) =>
    some q13.2
def an19 : Ann := .two (.leaf) (.two (.leaf) (.two (.two (.leaf) (.one (.loop [2, 10, 11] [2] [] [.tmp 3 (.pt 3 [(0, 0)] 0 0 2), .tmp 12 (.int .i64), .box 3 [.int .i64, .sl .own E_25]] [⟨.exit 0, [], [.tmp 3 (.pt 3 [(0, 0)] 0 0 2), .box 3 [.int .i64, .sl .own E_25]]⟩] (.two (.leaf) (.two (.two (.leaf) (.leaf)) (.two (.one (.two (.leaf) (.two (.draw 7) (.leaf)))) (.leaf))))))) (.two (.leaf) (.leaf))))
theorem s19 : SoundF cx.P cx.G 19 sg19 r19 := by
  have e : denF cx [(31, ⟨sg31, r31⟩), (32, ⟨sg32, r32⟩)] an19 Try.f19.ntmps (Try.f19.body.getD .skip) Try.f19.results.toList sg19 = r19 := by kernel_rfl
  rw [← e]
  exact sound_of_den (c := cx) (Known.cons (.ofF s31 (by kernel_rfl)) Try.func31 (by kernel_rfl) (by kernel_rfl) (Known.cons (.ofF s32 (by kernel_rfl)) Try.func32 (by kernel_rfl) (by kernel_rfl) (Known.nil))) Try.func19 (by kernel_rfl) (Nat.le_of_ble_eq_true (by kernel_rfl)) rfl
/-! (*reredos/coord.work).begun -/
def sg10 : Sig := ⟨[⟨false, .own, E_19⟩, ⟨false, .bo, (.int .i64)⟩], [⟨false, .own, E_19⟩]⟩
noncomputable def r10 (a : T_5) : Option T_7 :=
  Option.bind (
    Option.bind (
      bif !(decide ((↑a.1.2.2.2.1.2.length : Int) = (6 : Int))) then
        some (decide ((1048576 : Int) < a.1.2.2.2.1.1))
      else
        some true) fun (g3 : Bool) =>
      bif !(g3) then
        some (decide (a.2 < (600 : Int)))
      else
        some true) fun (d4 : Bool) =>
    bif d4 then
      Option.bind (
        
          bif roomOk false a.1.2.2.2.2.2.2.1.length 1 48 then
            some ((), (a.1.1.1, (a.1.1.2.1, (a.1.1.2.2, (a.1.2.1, (a.1.2.2.1, (a.1.2.2.2.1.1, (a.1.2.2.2.1.2, (a.1.2.2.2.2.1, (a.1.2.2.2.2.2.1, (app a.1.2.2.2.2.2.2.1 [(a.1.2.2.1, ((1 : Int), ((0 : Int), ((0 : Int), ((0 : Int), (8 : Int))))))], a.1.2.2.2.2.2.2.2)))))))))))
          else
            none) fun (d5 : T_4) =>
        some ((d5.2.1, (d5.2.2.1, d5.2.2.2.1)), (d5.2.2.2.2.1, (d5.2.2.2.2.2.1, ((d5.2.2.2.2.2.2.1, d5.2.2.2.2.2.2.2.1), d5.2.2.2.2.2.2.2.2))))
    else
      bif roomOk false a.1.2.2.2.1.2.length 1 80 then
        Option.bind (
          
            bif roomOk false a.1.2.2.2.2.2.1.length 1 80 then
              some ((), (a.1.1.1, (a.1.1.2.1, (a.1.1.2.2, (a.1.2.1, (a.1.2.2.1, ((Go.IntKind.wrap .i64 (a.1.2.2.2.1.1 + (1 : Int))), (app a.1.2.2.2.1.2 [(a.1.2.2.2.1.1, ((1 : Int), ([], ([], ((0 : Int), (0 : Int))))))], (a.1.2.2.2.2.1, (app a.1.2.2.2.2.2.1 [((5 : Int), ((a.1.2.2.1, a.1.2.2.2.1.1), ((0 : Int), ((0 : Int), ((0 : Int), (false, []))))))], a.1.2.2.2.2.2.2))))))))))
            else
              none) fun (d6 : T_4) =>
          Option.bind (
            
              bif roomOk false d6.2.2.2.2.2.2.2.2.2.2.1.length 1 48 then
                some ((), (d6.2.1, (d6.2.2.1, (d6.2.2.2.1, (d6.2.2.2.2.1, (d6.2.2.2.2.2.1, (d6.2.2.2.2.2.2.1, (d6.2.2.2.2.2.2.2.1, (d6.2.2.2.2.2.2.2.2.1, (d6.2.2.2.2.2.2.2.2.2.1, (app d6.2.2.2.2.2.2.2.2.2.2.1 [(d6.2.2.2.2.2.1, ((1 : Int), (a.1.2.2.2.1.1, ((0 : Int), ((0 : Int), (0 : Int))))))], d6.2.2.2.2.2.2.2.2.2.2.2)))))))))))
              else
                none) fun (d7 : T_4) =>
            some ((d7.2.1, (d7.2.2.1, d7.2.2.2.1)), (d7.2.2.2.2.1, (d7.2.2.2.2.2.1, ((d7.2.2.2.2.2.2.1, d7.2.2.2.2.2.2.2.1), d7.2.2.2.2.2.2.2.2))))
      else
        none
noncomputable def r10_s0 (a : T_5) : Option T_4 :=
          some ((), (a.1.1.1, (a.1.1.2.1, (a.1.1.2.2, (a.1.2.1, (a.1.2.2.1, (a.1.2.2.2.1.1, (a.1.2.2.2.1.2, (a.1.2.2.2.2.1, (a.1.2.2.2.2.2.1, (app a.1.2.2.2.2.2.2.1 [(a.1.2.2.1, ((1 : Int), ((0 : Int), ((0 : Int), ((0 : Int), (8 : Int))))))], a.1.2.2.2.2.2.2.2)))))))))))
noncomputable def r10_s1 (a : T_5) : Option T_4 :=
          some ((), (a.1.1.1, (a.1.1.2.1, (a.1.1.2.2, (a.1.2.1, (a.1.2.2.1, ((Go.IntKind.wrap .i64 (a.1.2.2.2.1.1 + (1 : Int))), (app a.1.2.2.2.1.2 [(a.1.2.2.2.1.1, ((1 : Int), ([], ([], ((0 : Int), (0 : Int))))))], (a.1.2.2.2.2.1, (app a.1.2.2.2.2.2.1 [((5 : Int), ((a.1.2.2.1, a.1.2.2.2.1.1), ((0 : Int), ((0 : Int), ((0 : Int), (false, []))))))], a.1.2.2.2.2.2.2))))))))))
noncomputable def r10_s2 (d6 : T_4) (a : T_5) : Option T_4 :=
          some ((), (d6.2.1, (d6.2.2.1, (d6.2.2.2.1, (d6.2.2.2.2.1, (d6.2.2.2.2.2.1, (d6.2.2.2.2.2.2.1, (d6.2.2.2.2.2.2.2.1, (d6.2.2.2.2.2.2.2.2.1, (d6.2.2.2.2.2.2.2.2.2.1, (app d6.2.2.2.2.2.2.2.2.2.2.1 [(d6.2.2.2.2.2.1, ((1 : Int), (a.1.2.2.2.1.1, ((0 : Int), ((0 : Int), (0 : Int))))))], d6.2.2.2.2.2.2.2.2.2.2.2)))))))))))
noncomputable def r10q : T_5 → Option T_7 := fun a =>
  Option.bind (
    Option.bind (
      bif !(decide ((↑a.1.2.2.2.1.2.length : Int) = (6 : Int))) then
        some (decide ((1048576 : Int) < a.1.2.2.2.1.1))
      else
        some true) fun (g3 : Bool) =>
      bif !(g3) then
        some (decide (a.2 < (600 : Int)))
      else
        some true) fun (d4 : Bool) =>
    bif d4 then
      Option.bind (
        sameR (
            bif roomOk false a.1.2.2.2.2.2.2.1.length 1 48 then
              r10_s0 a
            else
              none)
 (
          sameR (
              bif roomOk false a.1.2.2.2.2.2.2.1.length 1 48 then
                r10_s0 a
              else
                none)
 (
            bif roomOk false a.1.2.2.2.2.2.2.1.length 1 48 then
                r10_s0 a
            else
              none))) fun (d5 : T_4) =>
        some ((d5.2.1, (d5.2.2.1, d5.2.2.2.1)), (d5.2.2.2.2.1, (d5.2.2.2.2.2.1, ((d5.2.2.2.2.2.2.1, d5.2.2.2.2.2.2.2.1), d5.2.2.2.2.2.2.2.2))))
    else
      bif roomOk false a.1.2.2.2.1.2.length 1 80 then
        Option.bind (
          sameR (
              bif roomOk false a.1.2.2.2.2.2.1.length 1 80 then
                r10_s1 a
              else
                none)
 (
            sameR (
                bif roomOk false a.1.2.2.2.2.2.1.length 1 80 then
                  r10_s1 a
                else
                  none)
 (
              bif roomOk false a.1.2.2.2.2.2.1.length 1 80 then
                  r10_s1 a
              else
                none))) fun (d6 : T_4) =>
          Option.bind (
            sameR (
                bif roomOk false d6.2.2.2.2.2.2.2.2.2.2.1.length 1 48 then
                  r10_s2 d6 a
                else
                  none)
 (
              sameR (
                  bif roomOk false d6.2.2.2.2.2.2.2.2.2.2.1.length 1 48 then
                    r10_s2 d6 a
                  else
                    none)
 (
                bif roomOk false d6.2.2.2.2.2.2.2.2.2.2.1.length 1 48 then
                    r10_s2 d6 a
                else
                  none))) fun (d7 : T_4) =>
            some ((d7.2.1, (d7.2.2.1, d7.2.2.2.1)), (d7.2.2.2.2.1, (d7.2.2.2.2.2.1, ((d7.2.2.2.2.2.2.1, d7.2.2.2.2.2.2.2.1), d7.2.2.2.2.2.2.2.2))))
      else
        none
theorem r10e : r10q = r10 := by unfold r10q r10; simp only [r10_s0, r10_s1, r10_s2, sameR_self]
def an10 : Ann := .two (.leaf) (.two (.two (.join [0, 4] [0] [⟨.normal, [], [.tmp 26 (.bool)]⟩] (.segs [(13, ([0, 1, 4], ([0], [.tmp 22 (.bool)])))])) (.two (.two (.inl 1 57 (.join [] [] [⟨.normal, [], [.tmp 0 (.pt 0 [(0, 0)] 0 0 0), .box 0 [.int .i64, .sl .ro (.pair (.int .i64) (.int .i64)), .int .i64, .int .i64, .int .i64, .int .i64, .sl .own E_25, .sl .own E_26, .sl .own E_27, .sl .own E_29, .int .i64, .int .i64]]⟩] (.drawT [0, 1, 2, 3, 4, 5, 6, 7, 8, 9, 10, 11, 12, 13, 14, 15, 16] [0])) (.leaf)) (.leaf)) (.leaf))) (.two (.leaf) (.two (.leaf) (.two (.leaf) (.two (.inl 2 90 (.join [5] [] [⟨.normal, [], [.tmp 0 (.pt 0 [(0, 0)] 0 0 0), .box 0 [.int .i64, .sl .ro (.pair (.int .i64) (.int .i64)), .int .i64, .int .i64, .int .i64, .int .i64, .sl .own E_25, .sl .own E_26, .sl .own E_27, .sl .own E_29, .int .i64, .int .i64]]⟩] (.drawT [0, 1, 2, 3, 4, 5, 6, 7, 8, 9, 10, 11, 12, 13, 14, 15] [0])) (.leaf)) (.inl 2 118 (.join [] [] [⟨.normal, [], [.tmp 0 (.pt 0 [(0, 0)] 0 0 0), .box 0 [.int .i64, .sl .ro (.pair (.int .i64) (.int .i64)), .int .i64, .int .i64, .int .i64, .int .i64, .sl .own E_25, .sl .own E_26, .sl .own E_27, .sl .own E_29, .int .i64, .int .i64]]⟩] (.drawT [0, 1, 2, 3, 4, 5, 6, 7, 8, 9, 10, 11, 12, 13, 14, 15, 16] [0])) (.leaf)))))))
theorem s10 : SoundM cx.P cx.G 10 sg10 r10 := by
  have e : denM cx [] an10 Try.f10.ntmps (Try.f10.body.getD .skip) Try.f10.results.toList sg10 = r10q := by kernel_rfl
  rw [← r10e, ← e]
  exact sound_of_denM (c := cx) (Known.nil) Try.func10 (by kernel_rfl) (Nat.le_of_ble_eq_true (by kernel_rfl)) rfl
/-! (*reredos/coord.work).place -/
noncomputable def r13_L0 (a : T_5) (d11 : Int) : Option (Int ⊕ (Unit ⊕ Int)) :=
  bif decide (d11 < (↑a.1.2.2.2.1.2.length : Int)) then
    bif inB d11 a.1.2.2.2.1.2.length then
      Option.bind (idxN a.1.2.2.2.1.2 (Int.toNat d11)) fun (x12 : T_16) =>
        bif decide (x12.1 = a.2) then
          some (Sum.inr (Sum.inr d11))
        else
          some (Sum.inl (Go.IntKind.wrap .i64 (d11 + (1 : Int))))
    else
      none
  else
    some (Sum.inr (Sum.inl ()))
def sg13 : Sig := ⟨[⟨false, .own, E_19⟩, ⟨false, .bo, (.int .i64)⟩], [⟨false, .own, (.int .i64)⟩, ⟨false, .own, E_19⟩]⟩
noncomputable def r13 (a : T_5) : Option T_6 :=
  Option.bind (
    Option.bind (loopR (r13_L0 a) (0 : Int)) fun (q13 : (Unit ⊕ Int)) =>
      Sum.elim (fun (_ : Unit) =>
          some (-1 : Int))
        (fun (v15 : Int) =>
          some v15) q13) fun (d16 : Int) =>
    some (d16, a.1)
def an13 : Ann := .two (.leaf) (.two (.inl 7 13 (.join [0] [0] [⟨.ret, [], [.tmp 17 (.int .i64)]⟩] (.two (.leaf) (.two (.two (.leaf) (.one (.loop [0, 13, 14, 20] [0, 3] [] [.tmp 21 (.int .i64)] [⟨.exit 0, [], []⟩, ⟨.ret, [], [.tmp 17 (.int .i64)]⟩] (.two (.leaf) (.two (.two (.leaf) (.leaf)) (.two (.one (.two (.leaf) (.two (.inl 5 32 (.two (.leaf) (.two (.leaf) (.leaf))) (.leaf)) (.two (.two (.leaf) (.leaf)) (.leaf))))) (.leaf))))))) (.two (.leaf) (.leaf))))) (.leaf)) (.leaf))
theorem s13 : SoundM cx.P cx.G 13 sg13 r13 := by
  have e : denM cx [] an13 Try.f13.ntmps (Try.f13.body.getD .skip) Try.f13.results.toList sg13 = r13 := by kernel_rfl
  rw [← e]
  exact sound_of_denM (c := cx) (Known.nil) Try.func13 (by kernel_rfl) (Nat.le_of_ble_eq_true (by kernel_rfl)) rfl
/-! reredos/label.Above -/
def sg21 : Sig := ⟨[⟨true, .bo, (.pair (.int .i64) (.int .i64))⟩, ⟨true, .bo, (.pair (.int .i64) (.int .i64))⟩], [⟨false, .own, .bool⟩]⟩
noncomputable def r21 (a : ((Int × Int) × (Int × Int))) : Option Bool :=
  bif decide (a.2.1 ≤ a.1.1) then
    some (decide ((Go.bits .and .i64 a.1.2 a.2.2) = a.2.2))
  else
    some false
def an21 : Ann := .two (.leaf) (.two (.leaf) (.leaf))
theorem s21 : SoundF cx.P cx.G 21 sg21 r21 := by
  have e : denF cx [] an21 Try.f21.ntmps (Try.f21.body.getD .skip) Try.f21.results.toList sg21 = r21 := by kernel_rfl
  rw [← e]
  exact sound_of_den (c := cx) (Known.nil) Try.func21 (by kernel_rfl) (Nat.le_of_ble_eq_true (by kernel_rfl)) rfl
/-! (*reredos/coord.work).refuse -/
def sg11 : Sig := ⟨[⟨false, .own, E_19⟩, ⟨true, .bo, (.pair (.int .i64) (.pair (.int .i64) (.pair (.int .i64) (.pair (.int .i64) (.int .i64)))))⟩], [⟨false, .own, (.int .i64)⟩, ⟨false, .own, E_19⟩]⟩
noncomputable def r11 (a : (T_7 × (Int × (Int × (Int × (Int × Int)))))) : Option T_6 :=
  Option.bind (r13 (a.1, a.2.2.1)) fun (y1 : T_6) =>
    bif decide (y1.1 < (0 : Int)) then
      some ((6 : Int), y1.2)
    else
      bif inB y1.1 y1.2.2.2.2.1.2.length then
        Option.bind (idxN y1.2.2.2.2.1.2 (Int.toNat y1.1)) fun (x2 : T_16) =>
          bif !(decide (x2.2.1 = (1 : Int))) then
            some ((13 : Int), y1.2)
          else
            Option.bind (
              Option.bind (idxN y1.2.2.2.2.1.2 (Int.toNat y1.1)) fun (x13 : T_16) =>
                bif decide ((0 : Int) < (↑x13.2.2.1.length : Int)) then
                  Option.bind (idxN y1.2.2.2.2.1.2 (Int.toNat y1.1)) fun (x14 : T_16) =>
                    Option.bind (idxN y1.2.2.2.2.1.2 (Int.toNat y1.1)) fun (x15 : T_16) =>
                      bif inB (Go.IntKind.wrap .i64 ((↑x14.2.2.1.length : Int) - (1 : Int))) x15.2.2.1.length then
                        Option.bind (idxN y1.2.2.2.2.1.2 (Int.toNat y1.1)) fun (x16 : T_16) =>
                          Option.bind (idxN x16.2.2.1 (Int.toNat (Go.IntKind.wrap .i64 ((↑x14.2.2.1.length : Int) - (1 : Int))))) fun (x17 : T_18) =>
                            some !(x17.2.2.2.2.2.2.1)
                      else
                        none
                else
                  some false) fun (d18 : Bool) =>
              bif d18 then
                some ((14 : Int), y1.2)
              else
                Option.bind (
                  bif !(decide (a.2.1 = (2 : Int))) then
                    some (!(decide (a.2.1 = (3 : Int))))
                  else
                    some false) fun (d19 : Bool) =>
                  bif d19 then
                    some ((0 : Int), y1.2)
                  else
                    Option.bind (
                      Option.bind (
                        bif !(decide (a.2.2.2.2.1 < (0 : Int))) then
                          some (decide ((8 : Int) ≤ a.2.2.2.2.1))
                        else
                          some true) fun (g24 : Bool) =>
                        Option.bind (
                          bif !(g24) then
                            some (decide (a.2.2.2.2.2 < (0 : Int)))
                          else
                            some true) fun (g25 : Bool) =>
                          bif !(g25) then
                            some (decide ((1073741824 : Int) < a.2.2.2.2.2))
                          else
                            some true) fun (d26 : Bool) =>
                      bif d26 then
                        some ((2 : Int), y1.2)
                      else
                        Option.bind (
                          bif decide (a.2.1 = (2 : Int)) then
                            bif !(decide (a.2.2.2.1 < (0 : Int))) then
                              bif !(decide ((↑y1.2.1.2.1.length : Int) ≤ a.2.2.2.1)) then
                                Option.bind (idxI y1.2.1.2.1 y1.2.2.1) fun (b42 : (Int × Int)) =>
                                  Option.bind (idxI y1.2.1.2.1 a.2.2.2.1) fun (b43 : (Int × Int)) =>
                                    Option.bind (r21 (b42, b43)) fun (y44 : Bool) =>
                                      some !(y44)
                              else
                                some true
                            else
                              some true
                          else
                            some false) fun (d45 : Bool) =>
                          bif d45 then
                            some ((10 : Int), y1.2)
                          else
                            Option.bind (
                              Option.bind (idxN y1.2.2.2.2.1.2 (Int.toNat y1.1)) fun (x48 : T_16) =>
                                bif !(decide ((↑x48.2.2.1.length : Int) = (10 : Int))) then
                                  some (decide (x2.2.2.2.2.1 = (1048576 : Int)))
                                else
                                  some true) fun (d49 : Bool) =>
                              bif d49 then
                                some ((8 : Int), y1.2)
                              else
                                some ((0 : Int), y1.2)
      else
        none
def an11 : Ann := .two (.leaf) (.two (.leaf) (.two (.two (.leaf) (.two (.two (.leaf) (.leaf)) (.leaf))) (.two (.leaf) (.two (.one (.two (.leaf) (.two (.two (.leaf) (.leaf)) (.two (.join [0, 3, 6] [0, 3] [⟨.normal, [], [.tmp 26 (.bool)]⟩] (.leaf)) (.two (.two (.leaf) (.leaf)) (.two (.join [0, 3, 6] [0, 3] [⟨.normal, [], [.tmp 43 (.bool)]⟩] (.leaf)) (.two (.two (.leaf) (.leaf)) (.two (.join [0, 3, 6] [0, 3] [⟨.normal, [], [.tmp 52 (.bool)]⟩] (.segs [(8, ([0, 3, 6], ([0, 3], [.tmp 60 (.bool)]))), (5, ([0, 3, 6], ([0, 3], [.tmp 65 (.bool)])))])) (.two (.two (.leaf) (.leaf)) (.two (.join [0, 6] [0] [⟨.normal, [], [.tmp 71 (.bool)]⟩] (.draw 39)) (.two (.two (.leaf) (.leaf)) (.two (.join [0] [0] [⟨.normal, [], [.tmp 115 (.bool)]⟩] (.leaf)) (.two (.two (.leaf) (.leaf)) (.leaf)))))))))))))) (.two (.leaf) (.leaf))))))
theorem s11 : SoundM cx.P cx.G 11 sg11 r11 := by
  have e : denM cx [(13, ⟨sg13, r13⟩), (21, ⟨sg21, r21⟩)] an11 Try.f11.ntmps (Try.f11.body.getD .skip) Try.f11.results.toList sg11 = r11 := by kernel_rfl
  rw [← e]
  exact sound_of_denM (c := cx) (Known.cons (.ofM s13 (by kernel_rfl)) Try.func13 (by kernel_rfl) (by kernel_rfl) (Known.cons (.ofF s21 (by kernel_rfl)) Try.func21 (by kernel_rfl) (by kernel_rfl) (Known.nil))) Try.func11 (by kernel_rfl) (Nat.le_of_ble_eq_true (by kernel_rfl)) rfl
/-! (*reredos/coord.work).task -/
def sg14 : Sig := ⟨[⟨false, .own, E_19⟩, ⟨false, .bo, (.int .i64)⟩, ⟨true, .bo, E_28⟩], [⟨false, .own, E_19⟩]⟩
noncomputable def r14 (a : T_2) : Option T_7 :=
  bif inB a.2.1 a.1.2.2.2.1.2.length then
    Option.bind (idxN a.1.2.2.2.1.2 (Int.toNat a.2.1)) fun (x1 : T_16) =>
      Option.bind (idxN a.1.2.2.2.1.2 (Int.toNat a.2.1)) fun (x2 : T_16) =>
        Option.bind (idxN (List.set a.1.2.2.2.1.2 (Int.toNat a.2.1) (x2.1, (x2.2.1, (x2.2.2.1, (x2.2.2.2.1, ((Go.IntKind.wrap .i64 (x1.2.2.2.2.1 + (1 : Int))), x2.2.2.2.2.2)))))) (Int.toNat a.2.1)) fun (x3 : T_16) =>
          Option.bind (
            Option.bind (idxN (List.set a.1.2.2.2.1.2 (Int.toNat a.2.1) (x2.1, (x2.2.1, (x2.2.2.1, (x2.2.2.2.1, ((Go.IntKind.wrap .i64 (x1.2.2.2.2.1 + (1 : Int))), x2.2.2.2.2.2)))))) (Int.toNat a.2.1)) fun (_ : T_16) =>
              
                Option.bind (idxN (List.set a.1.2.2.2.1.2 (Int.toNat a.2.1) (x2.1, (x2.2.1, (x2.2.2.1, (x2.2.2.2.1, ((Go.IntKind.wrap .i64 (x1.2.2.2.2.1 + (1 : Int))), x2.2.2.2.2.2)))))) (Int.toNat a.2.1)) fun (x14 : T_16) =>
                  bif roomOk false x14.2.2.1.length 1 56 then
                    Option.bind (idxN (List.set a.1.2.2.2.1.2 (Int.toNat a.2.1) (x2.1, (x2.2.1, (x2.2.2.1, (x2.2.2.2.1, ((Go.IntKind.wrap .i64 (x1.2.2.2.2.1 + (1 : Int))), x2.2.2.2.2.2)))))) (Int.toNat a.2.1)) fun (_ : T_16) =>
                      bif Nat.beq (Int.toNat a.2.1) (Int.toNat a.2.1) then
                        some ((), ((((), ((), ())), (Int.toNat a.2.1)), (a.1.1.1, (a.1.1.2.1, (a.1.1.2.2, (a.1.2.1, (a.1.2.2.1, (a.1.2.2.2.1.1, (List.set (List.set a.1.2.2.2.1.2 (Int.toNat a.2.1) (x2.1, (x2.2.1, (x2.2.2.1, (x2.2.2.2.1, ((Go.IntKind.wrap .i64 (x1.2.2.2.2.1 + (1 : Int))), x2.2.2.2.2.2)))))) (Int.toNat a.2.1) (x14.1, (x14.2.1, (app x14.2.2.1 [(a.2.2.1, (a.2.2.2.1, (a.2.2.2.2.1, (a.2.2.2.2.2.1, (a.2.2.2.2.2.2.1, (x3.2.2.2.2.1, a.2.2.2.2.2.2.2.2))))))], x14.2.2.2))), a.1.2.2.2.2)))))))))
                      else
                        none
                  else
                    none) fun (d20 : T_3) =>
            Option.bind (idxN d20.2.2.2.2.2.2.2.2.1 d20.2.1.2) fun (x21 : T_16) =>
              Option.bind (
                bif a.2.2.1 then
                  some (2 : Int)
                else
                  some (1 : Int)) fun (d22 : Int) =>
                Option.bind (
                  bif decide (d20.2.2.1 = 0) then
                    none
                  else
                    Option.bind (idxN (List.set d20.2.2.2.2.2.2.2.2.1 d20.2.1.2 (x21.1, (x21.2.1, (x21.2.2.1, (x21.2.2.2.1, (x21.2.2.2.2.1, (0 : Int))))))) d20.2.1.2) fun (x27 : T_16) =>
                      Option.bind (
                        
                          bif roomOk false d20.2.2.2.2.2.2.2.2.2.1.length 1 96 then
                            some ((), ((((), ((), ())), d20.2.1.2), ((), ((), ((), ((), ((((), ((), ())), d20.2.1.2), ((((), ((), ())), d20.2.1.2), ((((), ((), ())), d20.2.1.2), ((), (d20.2.2.1, (d20.2.2.2.1, (d20.2.2.2.2.1, (d20.2.2.2.2.2.1, (d20.2.2.2.2.2.2.1, (d20.2.2.2.2.2.2.2.1, (List.set d20.2.2.2.2.2.2.2.2.1 d20.2.1.2 (x21.1, (x21.2.1, (x21.2.2.1, (x21.2.2.2.1, (x21.2.2.2.2.1, (0 : Int)))))), (app d20.2.2.2.2.2.2.2.2.2.1 [(d22, (d20.2.2.2.2.2.2.1, ((Int.tmod a.2.2.2.2.1 d20.2.2.1), ((d20.2.2.2.2.2.2.1, x27.1), ((0 : Int), ((0 : Int), ((0 : Int), ((0 : Int), ((0 : Int), (false, (0 : Int)))))))))))], d20.2.2.2.2.2.2.2.2.2.2))))))))))))))))))
                          else
                            none) fun (d28 : T_0) =>
                        bif inB (Go.IntKind.wrap .i64 ((↑d28.2.2.2.2.2.2.2.2.2.2.2.2.2.2.2.2.2.1.length : Int) - (1 : Int))) d28.2.2.2.2.2.2.2.2.2.2.2.2.2.2.2.2.2.1.length then
                          some ((), ((((), ((), ())), (Int.toNat (Go.IntKind.wrap .i64 ((↑d28.2.2.2.2.2.2.2.2.2.2.2.2.2.2.2.2.2.1.length : Int) - (1 : Int))))), d28.2.2.2.2.2.2.2.2.2.2))
                        else
                          none) fun (d29 : T_3) =>
                  Option.bind (
                    
                      Option.bind (idxN d29.2.2.2.2.2.2.2.2.2.1 d29.2.1.2) fun (x1086 : T_17) =>
                        Option.bind (idxN (List.set d29.2.2.2.2.2.2.2.2.2.1 d29.2.1.2 (x1086.1, (x1086.2.1, (x1086.2.2.1, (x1086.2.2.2.1, (x1086.2.2.2.2.1, (a.2.2.2.2.1, x1086.2.2.2.2.2.2))))))) d29.2.1.2) fun (x1087 : T_17) =>
                          Option.bind (idxN (List.set (List.set d29.2.2.2.2.2.2.2.2.2.1 d29.2.1.2 (x1086.1, (x1086.2.1, (x1086.2.2.1, (x1086.2.2.2.1, (x1086.2.2.2.2.1, (a.2.2.2.2.1, x1086.2.2.2.2.2.2))))))) d29.2.1.2 (x1087.1, (x1087.2.1, (x1087.2.2.1, (x1087.2.2.2.1, (x1087.2.2.2.2.1, (x1087.2.2.2.2.2.1, (a.2.2.2.2.2.1, x1087.2.2.2.2.2.2.2)))))))) d29.2.1.2) fun (x1088 : T_17) =>
                            some ((), ((((), ((), ())), d29.2.1.2), (d29.2.2.1, (d29.2.2.2.1, (d29.2.2.2.2.1, (d29.2.2.2.2.2.1, (d29.2.2.2.2.2.2.1, (d29.2.2.2.2.2.2.2.1, (d29.2.2.2.2.2.2.2.2.1, (List.set (List.set (List.set d29.2.2.2.2.2.2.2.2.2.1 d29.2.1.2 (x1086.1, (x1086.2.1, (x1086.2.2.1, (x1086.2.2.2.1, (x1086.2.2.2.2.1, (a.2.2.2.2.1, x1086.2.2.2.2.2.2))))))) d29.2.1.2 (x1087.1, (x1087.2.1, (x1087.2.2.1, (x1087.2.2.2.1, (x1087.2.2.2.2.1, (x1087.2.2.2.2.2.1, (a.2.2.2.2.2.1, x1087.2.2.2.2.2.2.2)))))))) d29.2.1.2 (x1088.1, (x1088.2.1, (x1088.2.2.1, (x1088.2.2.2.1, (x1088.2.2.2.2.1, (x1088.2.2.2.2.2.1, (x1088.2.2.2.2.2.2.1, (x1088.2.2.2.2.2.2.2.1, (x3.2.2.2.2.1, x1088.2.2.2.2.2.2.2.2.2))))))))), d29.2.2.2.2.2.2.2.2.2.2))))))))))) fun (d2022 : T_3) =>
                    bif !(a.2.2.1) then
                      Option.bind (idxN d2022.2.2.2.2.2.2.2.2.2.1 d2022.2.1.2) fun (x2023 : T_17) =>
                        some ((d2022.2.2.1, (d2022.2.2.2.1, d2022.2.2.2.2.1)), (d2022.2.2.2.2.2.1, (d2022.2.2.2.2.2.2.1, ((d2022.2.2.2.2.2.2.2.1, d2022.2.2.2.2.2.2.2.2.1), (List.set d2022.2.2.2.2.2.2.2.2.2.1 d2022.2.1.2 (x2023.1, (x2023.2.1, (x2023.2.2.1, (x2023.2.2.2.1, (a.2.2.2.1, x2023.2.2.2.2.2))))), d2022.2.2.2.2.2.2.2.2.2.2)))))
                    else
                      some ((d2022.2.2.1, (d2022.2.2.2.1, d2022.2.2.2.2.1)), (d2022.2.2.2.2.2.1, (d2022.2.2.2.2.2.2.1, ((d2022.2.2.2.2.2.2.2.1, d2022.2.2.2.2.2.2.2.2.1), d2022.2.2.2.2.2.2.2.2.2))))
  else
    none
noncomputable def r14_s1 (a : T_2) (x2 : T_16) (x1 : T_16) (x14 : T_16) (x3 : T_16) : Option T_3 :=
        Option.bind (idxN (List.set a.1.2.2.2.1.2 (Int.toNat a.2.1) (x2.1, (x2.2.1, (x2.2.2.1, (x2.2.2.2.1, ((Go.IntKind.wrap .i64 (x1.2.2.2.2.1 + (1 : Int))), x2.2.2.2.2.2)))))) (Int.toNat a.2.1)) fun (_ : T_16) =>
          bif Nat.beq (Int.toNat a.2.1) (Int.toNat a.2.1) then
            some ((), ((((), ((), ())), (Int.toNat a.2.1)), (a.1.1.1, (a.1.1.2.1, (a.1.1.2.2, (a.1.2.1, (a.1.2.2.1, (a.1.2.2.2.1.1, (List.set (List.set a.1.2.2.2.1.2 (Int.toNat a.2.1) (x2.1, (x2.2.1, (x2.2.2.1, (x2.2.2.2.1, ((Go.IntKind.wrap .i64 (x1.2.2.2.2.1 + (1 : Int))), x2.2.2.2.2.2)))))) (Int.toNat a.2.1) (x14.1, (x14.2.1, (app x14.2.2.1 [(a.2.2.1, (a.2.2.2.1, (a.2.2.2.2.1, (a.2.2.2.2.2.1, (a.2.2.2.2.2.2.1, (x3.2.2.2.2.1, a.2.2.2.2.2.2.2.2))))))], x14.2.2.2))), a.1.2.2.2.2)))))))))
          else
            none
noncomputable def r14_s0 (a : T_2) (x2 : T_16) (x1 : T_16) (x3 : T_16) : Option T_3 :=
    Option.bind (idxN (List.set a.1.2.2.2.1.2 (Int.toNat a.2.1) (x2.1, (x2.2.1, (x2.2.2.1, (x2.2.2.2.1, ((Go.IntKind.wrap .i64 (x1.2.2.2.2.1 + (1 : Int))), x2.2.2.2.2.2)))))) (Int.toNat a.2.1)) fun (x14 : T_16) =>
      bif roomOk false x14.2.2.1.length 1 56 then
        r14_s1 a x2 x1 x14 x3
      else
        none
noncomputable def r14_s2 (d20 : T_3) (x21 : T_16) (d22 : Int) (a : T_2) (x27 : T_16) : Option T_0 :=
          some ((), ((((), ((), ())), d20.2.1.2), ((), ((), ((), ((), ((((), ((), ())), d20.2.1.2), ((((), ((), ())), d20.2.1.2), ((((), ((), ())), d20.2.1.2), ((), (d20.2.2.1, (d20.2.2.2.1, (d20.2.2.2.2.1, (d20.2.2.2.2.2.1, (d20.2.2.2.2.2.2.1, (d20.2.2.2.2.2.2.2.1, (List.set d20.2.2.2.2.2.2.2.2.1 d20.2.1.2 (x21.1, (x21.2.1, (x21.2.2.1, (x21.2.2.2.1, (x21.2.2.2.2.1, (0 : Int)))))), (app d20.2.2.2.2.2.2.2.2.2.1 [(d22, (d20.2.2.2.2.2.2.1, ((Int.tmod a.2.2.2.2.1 d20.2.2.1), ((d20.2.2.2.2.2.2.1, x27.1), ((0 : Int), ((0 : Int), ((0 : Int), ((0 : Int), ((0 : Int), (false, (0 : Int)))))))))))], d20.2.2.2.2.2.2.2.2.2.2))))))))))))))))))
noncomputable def r14_s4 (d29 : T_3) (x1086 : T_17) (a : T_2) (x3 : T_16) : Option T_3 :=
  Option.bind (idxN (List.set d29.2.2.2.2.2.2.2.2.2.1 d29.2.1.2 (x1086.1, (x1086.2.1, (x1086.2.2.1, (x1086.2.2.2.1, (x1086.2.2.2.2.1, (a.2.2.2.2.1, x1086.2.2.2.2.2.2))))))) d29.2.1.2) fun (x1087 : T_17) =>
          Option.bind (idxN (List.set (List.set d29.2.2.2.2.2.2.2.2.2.1 d29.2.1.2 (x1086.1, (x1086.2.1, (x1086.2.2.1, (x1086.2.2.2.1, (x1086.2.2.2.2.1, (a.2.2.2.2.1, x1086.2.2.2.2.2.2))))))) d29.2.1.2 (x1087.1, (x1087.2.1, (x1087.2.2.1, (x1087.2.2.2.1, (x1087.2.2.2.2.1, (x1087.2.2.2.2.2.1, (a.2.2.2.2.2.1, x1087.2.2.2.2.2.2.2)))))))) d29.2.1.2) fun (x1088 : T_17) =>
            some ((), ((((), ((), ())), d29.2.1.2), (d29.2.2.1, (d29.2.2.2.1, (d29.2.2.2.2.1, (d29.2.2.2.2.2.1, (d29.2.2.2.2.2.2.1, (d29.2.2.2.2.2.2.2.1, (d29.2.2.2.2.2.2.2.2.1, (List.set (List.set (List.set d29.2.2.2.2.2.2.2.2.2.1 d29.2.1.2 (x1086.1, (x1086.2.1, (x1086.2.2.1, (x1086.2.2.2.1, (x1086.2.2.2.2.1, (a.2.2.2.2.1, x1086.2.2.2.2.2.2))))))) d29.2.1.2 (x1087.1, (x1087.2.1, (x1087.2.2.1, (x1087.2.2.2.1, (x1087.2.2.2.2.1, (x1087.2.2.2.2.2.1, (a.2.2.2.2.2.1, x1087.2.2.2.2.2.2.2)))))))) d29.2.1.2 (x1088.1, (x1088.2.1, (x1088.2.2.1, (x1088.2.2.2.1, (x1088.2.2.2.2.1, (x1088.2.2.2.2.2.1, (x1088.2.2.2.2.2.2.1, (x1088.2.2.2.2.2.2.2.1, (x3.2.2.2.2.1, x1088.2.2.2.2.2.2.2.2.2))))))))), d29.2.2.2.2.2.2.2.2.2.2))))))))))
noncomputable def r14_s3 (d29 : T_3) (a : T_2) (x3 : T_16) : Option T_3 :=
  Option.bind (idxN d29.2.2.2.2.2.2.2.2.2.1 d29.2.1.2) fun (x1086 : T_17) =>
          r14_s4 d29 x1086 a x3
noncomputable def r14_s5 (d29 : T_3) (a : T_2) (x3 : T_16) : Option T_3 :=
  Option.bind (idxN d29.2.2.2.2.2.2.2.2.2.1 d29.2.1.2) fun (x1089 : T_17) =>
    sameR (
          r14_s4 d29 x1089 a x3)
 (
      sameR (
          r14_s4 d29 x1089 a x3)
 (
        sameR (
          r14_s4 d29 x1089 a x3)
 (
          r14_s4 d29 x1089 a x3)))
noncomputable def r14_s6 (d29 : T_3) (a : T_2) (x3 : T_16) : Option T_3 :=
  Option.bind (idxN d29.2.2.2.2.2.2.2.2.2.1 d29.2.1.2) fun (x1098 : T_17) =>
    sameR (
          r14_s4 d29 x1098 a x3)
 (
    sameR (
      sameR (
          r14_s4 d29 x1098 a x3)
 (
        sameR (
          r14_s4 d29 x1098 a x3)
 (
          r14_s4 d29 x1098 a x3)))
 (
      sameR (
          r14_s4 d29 x1098 a x3)
 (
      sameR (
        sameR (
          r14_s4 d29 x1098 a x3)
 (
          r14_s4 d29 x1098 a x3))
 (
        sameR (
          r14_s4 d29 x1098 a x3)
 (
        sameR (
          r14_s4 d29 x1098 a x3)
 (
          r14_s4 d29 x1098 a x3))))))
noncomputable def r14_s8 (d29 : T_3) (x1194 : T_17) (a : T_2) (x3 : T_16) : Option T_3 :=
  sameR (
      r14_s4 d29 x1194 a x3)
 (
  sameR (
    sameR (
      r14_s4 d29 x1194 a x3)
 (
      r14_s4 d29 x1194 a x3))
 (
  sameR (
    sameR (
      r14_s4 d29 x1194 a x3)
 (
      r14_s4 d29 x1194 a x3))
 (
    sameR (
      r14_s4 d29 x1194 a x3)
 (
    sameR (
      r14_s4 d29 x1194 a x3)
 (
    sameR (
      r14_s4 d29 x1194 a x3)
 (
      r14_s4 d29 x1194 a x3))))))
noncomputable def r14_s7 (d29 : T_3) (a : T_2) (x3 : T_16) : Option T_3 :=
  Option.bind (idxN d29.2.2.2.2.2.2.2.2.2.1 d29.2.1.2) fun (x1194 : T_17) =>
    sameR (
          r14_s4 d29 x1194 a x3)
 (
    sameR (
      sameR (
          r14_s4 d29 x1194 a x3)
 (
        sameR (
          r14_s4 d29 x1194 a x3)
 (
          r14_s4 d29 x1194 a x3)))
 (
    sameR (
      sameR (
          r14_s4 d29 x1194 a x3)
 (
        sameR (
          r14_s4 d29 x1194 a x3)
 (
          r14_s4 d29 x1194 a x3)))
 (
      r14_s8 d29 x1194 a x3)))
noncomputable def r14_s9 (d29 : T_3) (a : T_2) (x3 : T_16) : Option T_3 :=
  Option.bind (idxN d29.2.2.2.2.2.2.2.2.2.1 d29.2.1.2) fun (x1227 : T_17) =>
    sameR (
          r14_s4 d29 x1227 a x3)
 (
    sameR (
      sameR (
          r14_s4 d29 x1227 a x3)
 (
        sameR (
          r14_s4 d29 x1227 a x3)
 (
          r14_s4 d29 x1227 a x3)))
 (
    sameR (
      sameR (
          r14_s4 d29 x1227 a x3)
 (
      sameR (
        sameR (
          r14_s4 d29 x1227 a x3)
 (
          r14_s4 d29 x1227 a x3))
 (
        sameR (
          r14_s4 d29 x1227 a x3)
 (
        sameR (
          r14_s4 d29 x1227 a x3)
 (
          r14_s4 d29 x1227 a x3)))))
 (
    sameR (
      sameR (
          r14_s4 d29 x1227 a x3)
 (
        sameR (
          r14_s4 d29 x1227 a x3)
 (
          r14_s4 d29 x1227 a x3)))
 (
    sameR (
      r14_s8 d29 x1227 a x3)
 (
      sameR (
          r14_s4 d29 x1227 a x3)
 (
      sameR (
        sameR (
          r14_s4 d29 x1227 a x3)
 (
          r14_s4 d29 x1227 a x3))
 (
      sameR (
        sameR (
          r14_s4 d29 x1227 a x3)
 (
        sameR (
          r14_s4 d29 x1227 a x3)
 (
          r14_s4 d29 x1227 a x3)))
 (
      sameR (
        sameR (
          r14_s4 d29 x1227 a x3)
 (
          r14_s4 d29 x1227 a x3))
 (
      sameR (
        sameR (
          r14_s4 d29 x1227 a x3)
 (
        sameR (
          r14_s4 d29 x1227 a x3)
 (
        sameR (
          r14_s4 d29 x1227 a x3)
 (
          r14_s4 d29 x1227 a x3))))
 (
        sameR (
          r14_s4 d29 x1227 a x3)
 (
        sameR (
          r14_s4 d29 x1227 a x3)
 (
        sameR (
          r14_s4 d29 x1227 a x3)
 (
        sameR (
          r14_s4 d29 x1227 a x3)
 (
        sameR (
          r14_s4 d29 x1227 a x3)
 (
          r14_s4 d29 x1227 a x3)))))))))))))))
noncomputable def r14q : T_2 → Option T_7 := fun a =>
  bif inB a.2.1 a.1.2.2.2.1.2.length then
    Option.bind (idxN a.1.2.2.2.1.2 (Int.toNat a.2.1)) fun (x1 : T_16) =>
      Option.bind (idxN a.1.2.2.2.1.2 (Int.toNat a.2.1)) fun (x2 : T_16) =>
        Option.bind (idxN (List.set a.1.2.2.2.1.2 (Int.toNat a.2.1) (x2.1, (x2.2.1, (x2.2.2.1, (x2.2.2.2.1, ((Go.IntKind.wrap .i64 (x1.2.2.2.2.1 + (1 : Int))), x2.2.2.2.2.2)))))) (Int.toNat a.2.1)) fun (x3 : T_16) =>
          Option.bind (
            Option.bind (idxN (List.set a.1.2.2.2.1.2 (Int.toNat a.2.1) (x2.1, (x2.2.1, (x2.2.2.1, (x2.2.2.2.1, ((Go.IntKind.wrap .i64 (x1.2.2.2.2.1 + (1 : Int))), x2.2.2.2.2.2)))))) (Int.toNat a.2.1)) fun (_ : T_16) =>
              sameR (
                r14_s0 a x2 x1 x3)
 (
                sameR (
                  r14_s0 a x2 x1 x3)
 (
                  Option.bind (idxN (List.set a.1.2.2.2.1.2 (Int.toNat a.2.1) (x2.1, (x2.2.1, (x2.2.2.1, (x2.2.2.2.1, ((Go.IntKind.wrap .i64 (x1.2.2.2.2.1 + (1 : Int))), x2.2.2.2.2.2)))))) (Int.toNat a.2.1)) fun (x18 : T_16) =>
                    bif roomOk false x18.2.2.1.length 1 56 then
                        r14_s1 a x2 x1 x18 x3
                    else
                      none))) fun (d20 : T_3) =>
            Option.bind (idxN d20.2.2.2.2.2.2.2.2.1 d20.2.1.2) fun (x21 : T_16) =>
              Option.bind (
                bif a.2.2.1 then
                  some (2 : Int)
                else
                  some (1 : Int)) fun (d22 : Int) =>
                Option.bind (
                  bif decide (d20.2.2.1 = 0) then
                    none
                  else
                    Option.bind (idxN (List.set d20.2.2.2.2.2.2.2.2.1 d20.2.1.2 (x21.1, (x21.2.1, (x21.2.2.1, (x21.2.2.2.1, (x21.2.2.2.2.1, (0 : Int))))))) d20.2.1.2) fun (x27 : T_16) =>
                        Option.bind (
                          sameR (
                              bif roomOk false d20.2.2.2.2.2.2.2.2.2.1.length 1 96 then
                                r14_s2 d20 x21 d22 a x27
                              else
                                none)
 (
                            sameR (
                                bif roomOk false d20.2.2.2.2.2.2.2.2.2.1.length 1 96 then
                                  r14_s2 d20 x21 d22 a x27
                                else
                                  none)
 (
                              bif roomOk false d20.2.2.2.2.2.2.2.2.2.1.length 1 96 then
                                  r14_s2 d20 x21 d22 a x27
                              else
                                none))) fun (d28 : T_0) =>
                          bif inB (Go.IntKind.wrap .i64 ((↑d28.2.2.2.2.2.2.2.2.2.2.2.2.2.2.2.2.2.1.length : Int) - (1 : Int))) d28.2.2.2.2.2.2.2.2.2.2.2.2.2.2.2.2.2.1.length then
                              some ((), ((((), ((), ())), (Int.toNat (Go.IntKind.wrap .i64 ((↑d28.2.2.2.2.2.2.2.2.2.2.2.2.2.2.2.2.2.1.length : Int) - (1 : Int))))), d28.2.2.2.2.2.2.2.2.2.2))
                          else
                            none) fun (d29 : T_3) =>
                  Option.bind (
                    sameR (
                      r14_s3 d29 a x3)
 (
                    sameR (
                      r14_s5 d29 a x3)
 (
                    sameR (
                      r14_s6 d29 a x3)
 (
                    sameR (
                      r14_s3 d29 a x3)
 (
                    sameR (
                      r14_s5 d29 a x3)
 (
                    sameR (
                      r14_s6 d29 a x3)
 (
                    sameR (
                      r14_s3 d29 a x3)
 (
                    sameR (
                      r14_s5 d29 a x3)
 (
                    sameR (
                      r14_s6 d29 a x3)
 (
                    sameR (
                      r14_s5 d29 a x3)
 (
                    sameR (
                      r14_s7 d29 a x3)
 (
                    sameR (
                      r14_s9 d29 a x3)
 (
                    sameR (
                      r14_s5 d29 a x3)
 (
                    sameR (
                      r14_s7 d29 a x3)
 (
                    sameR (
                      r14_s9 d29 a x3)
 (
                    sameR (
                      r14_s5 d29 a x3)
 (
                    sameR (
                      r14_s7 d29 a x3)
 (
                    sameR (
                      r14_s9 d29 a x3)
 (
                    sameR (
                      r14_s3 d29 a x3)
 (
                    sameR (
                      r14_s5 d29 a x3)
 (
                    sameR (
                      r14_s6 d29 a x3)
 (
                    sameR (
                      r14_s3 d29 a x3)
 (
                    sameR (
                      r14_s5 d29 a x3)
 (
                    sameR (
                      r14_s6 d29 a x3)
 (
                    sameR (
                      r14_s3 d29 a x3)
 (
                    sameR (
                      r14_s5 d29 a x3)
 (
                    sameR (
                      r14_s6 d29 a x3)
 (
                    sameR (
                      r14_s5 d29 a x3)
 (
                    sameR (
                      r14_s7 d29 a x3)
 (
                    sameR (
                      r14_s9 d29 a x3)
 (
                    sameR (
                      r14_s5 d29 a x3)
 (
                    sameR (
                      r14_s7 d29 a x3)
 (
                    sameR (
                      r14_s9 d29 a x3)
 (
                    sameR (
                      r14_s5 d29 a x3)
 (
                    sameR (
                      r14_s7 d29 a x3)
 (
                      r14_s9 d29 a x3)))))))))))))))))))))))))))))))))))) fun (d2022 : T_3) =>
                    bif !(a.2.2.1) then
                      Option.bind (idxN d2022.2.2.2.2.2.2.2.2.2.1 d2022.2.1.2) fun (x2023 : T_17) =>
                        some ((d2022.2.2.1, (d2022.2.2.2.1, d2022.2.2.2.2.1)), (d2022.2.2.2.2.2.1, (d2022.2.2.2.2.2.2.1, ((d2022.2.2.2.2.2.2.2.1, d2022.2.2.2.2.2.2.2.2.1), (List.set d2022.2.2.2.2.2.2.2.2.2.1 d2022.2.1.2 (x2023.1, (x2023.2.1, (x2023.2.2.1, (x2023.2.2.2.1, (a.2.2.2.1, x2023.2.2.2.2.2))))), d2022.2.2.2.2.2.2.2.2.2.2)))))
                    else
                      some ((d2022.2.2.1, (d2022.2.2.2.1, d2022.2.2.2.2.1)), (d2022.2.2.2.2.2.1, (d2022.2.2.2.2.2.2.1, ((d2022.2.2.2.2.2.2.2.1, d2022.2.2.2.2.2.2.2.2.1), d2022.2.2.2.2.2.2.2.2.2))))
  else
    none
theorem r14e : r14q = r14 := by unfold r14q r14; simp only [r14_s1, r14_s0, r14_s2, r14_s4, r14_s3, r14_s5, r14_s6, r14_s8, r14_s7, r14_s9, sameR_self]
def an14 : Ann := .two (.leaf) (.two (.leaf) (.two (.leaf) (.two (.leaf) (.two (.join [5] [5] [⟨.normal, [], [.tmp 0 (.pt 0 [(0, 0)] 0 0 0), .tmp 6 (.ptx 0 [(some 0, 0), (some 0, 6)] 0 6), .box 0 [.int .i64, .sl .ro (.pair (.int .i64) (.int .i64)), .int .i64, .int .i64, .int .i64, .int .i64, .sl .own E_25, .sl .own E_26, .sl .own E_27, .sl .own E_29, .int .i64, .int .i64]]⟩] (.drawT [0, 1, 2, 3, 4, 5, 6] [0])) (.two (.leaf) (.two (.leaf) (.two (.join [0, 5, 6] [0, 5] [⟨.normal, [], [.tmp 7 (.int .i64)]⟩] (.two (.leaf) (.two (.leaf) (.leaf)))) (.two (.join [5] [5] [⟨.normal, [], [.tmp 0 (.pt 0 [(0, 0)] 0 0 0), .tmp 8 (.ptx 0 [(some 0, 0), (some 0, 7)] 0 12), .box 0 [.int .i64, .sl .ro (.pair (.int .i64) (.int .i64)), .int .i64, .int .i64, .int .i64, .int .i64, .sl .own E_25, .sl .own E_26, .sl .own E_27, .sl .own E_29, .int .i64, .int .i64]]⟩] (.stagesI [0, 1, 2, 3, 4, 5, 6, 7, 8, 9, 10, 11, 12, 13] 14 82 (.two (.leaf) (.two (.join [5, 7, 46, 47, 52] [5] [⟨.normal, [], [.tmp 0 (.pt 0 [(0, 0)] 0 0 0), .tmp 6 (.ptx 0 [(some 0, 0), (some 0, 6)] 0 6), .tmp 48 (.pt 0 [(0, 0)] 0 0 0), .tmp 49 (.pt 0 [(0, 0)] 0 0 0), .tmp 50 (.pt 0 [(0, 0)] 0 0 0), .tmp 51 (.pt 0 [(0, 0)] 0 0 0), .tmp 54 (.ptx 0 [(some 0, 0), (some 0, 6)] 0 6), .tmp 55 (.ptx 0 [(some 0, 0), (some 0, 6)] 0 6), .tmp 56 (.ptx 0 [(some 0, 0), (some 0, 6)] 0 6), .tmp 82 (.pt 0 [(0, 0)] 0 0 0), .box 0 [.int .i64, .sl .ro (.pair (.int .i64) (.int .i64)), .int .i64, .int .i64, .int .i64, .int .i64, .sl .own E_25, .sl .own E_26, .sl .own E_27, .sl .own E_29, .int .i64, .int .i64]]⟩] (.drawT [0, 1, 2, 3, 4, 5, 6, 7, 8, 9, 10, 11, 12, 13, 14, 15, 16, 17, 18, 19] [0])) (.two (.draw 12) (.leaf)))))) (.two (.join [5] [5] [⟨.normal, [], [.tmp 0 (.pt 0 [(0, 0)] 0 0 0), .tmp 8 (.ptx 0 [(some 0, 0), (some 0, 7)] 0 12), .box 0 [.int .i64, .sl .ro (.pair (.int .i64) (.int .i64)), .int .i64, .int .i64, .int .i64, .int .i64, .sl .own E_25, .sl .own E_26, .sl .own E_27, .sl .own E_29, .int .i64, .int .i64]]⟩] (.stages [0, 1, 2, 3, 4, 5, 6, 7, 8, 9, 10])) (.two (.leaf) (.two (.leaf) (.leaf))))))))))))
theorem s14 : SoundM cx.P cx.G 14 sg14 r14 := by
  have e : denM cx [] an14 Try.f14.ntmps (Try.f14.body.getD .skip) Try.f14.results.toList sg14 = r14q := by kernel_rfl
  rw [← r14e, ← e]
  exact sound_of_denM (c := cx) (Known.nil) Try.func14 (by kernel_rfl) (Nat.le_of_ble_eq_true (by kernel_rfl)) rfl
/-! reredos/coord.Call -/
def sg6 : Sig := ⟨[⟨true, .ro, (.pair (.int .i64) (.pair (.sl (.pair (.int .i64) (.int .i64))) (.int .i64)))⟩, ⟨false, .bo, (.int .i64)⟩, ⟨false, .bo, (.int .i64)⟩, ⟨true, .bo, E_24⟩, ⟨false, .bo, (.int .i64)⟩, ⟨true, .bo, (.pair (.int .i64) (.pair (.int .i64) (.pair (.int .i64) (.pair (.int .i64) (.int .i64)))))⟩], [⟨true, .ro, E_23⟩, ⟨false, .own, (.int .i64)⟩]⟩
noncomputable def r6 (a : T_14) : Option T_10 :=
  Option.bind (r18 (a.1, a.2.2.2.1)) fun (y1 : Int) =>
    bif !(decide (y1 = (0 : Int))) then
      bif !(decide (y1 = (0 : Int))) then
        some ((((0 : Int), []), ([], ([], ([], ((0 : Int), (0 : Int)))))), y1)
      else
        none
    else
      Option.bind (
        bif !(decide (a.2.1 < (0 : Int))) then
          some (decide ((↑a.1.2.1.length : Int) ≤ a.2.1))
        else
          some true) fun (d2 : Bool) =>
        bif d2 then
          some ((((0 : Int), []), ([], ([], ([], ((0 : Int), (0 : Int)))))), (6 : Int))
        else
          Option.bind (
            bif !(decide (a.2.2.1 < (0 : Int))) then
              some (decide (a.1.1 ≤ a.2.2.1))
            else
              some true) fun (d3 : Bool) =>
            bif d3 then
              some ((((0 : Int), []), ([], ([], ([], ((0 : Int), (0 : Int)))))), (2 : Int))
            else
              Option.bind (r19 a.2.2.2.1) fun (y5 : T_15) =>
                Option.bind (
                  bif !(decide (a.2.2.2.2.2.1 < (1 : Int))) then
                    some (decide ((5 : Int) < a.2.2.2.2.2.1))
                  else
                    some true) fun (d76 : Bool) =>
                  bif d76 then
                    some ((((0 : Int), []), ([], ([], ([], ((0 : Int), (0 : Int)))))), (3 : Int))
                  else
                    bif decide (a.2.2.2.2.2.1 = (1 : Int)) then
                      Option.bind (r10 ((a.1, (a.2.1, (a.2.2.1, (y5, ([], ([], ([], ((0 : Int), (0 : Int))))))))), a.2.2.2.2.1)) fun (y77 : T_7) =>
                        some (y77.2.2.2, (0 : Int))
                    else
                      Option.bind (r11 ((a.1, (a.2.1, (a.2.2.1, (y5, ([], ([], ([], ((0 : Int), (0 : Int))))))))), a.2.2.2.2.2)) fun (y78 : T_6) =>
                        bif !(decide (y78.1 = (0 : Int))) then
                          Option.bind (
                            
                              bif roomOk false y78.2.2.2.2.2.2.2.1.length 1 48 then
                                some ((), (y78.2.1.1, (y78.2.1.2.1, (y78.2.1.2.2, (y78.2.2.1, (y78.2.2.2.1, (y78.2.2.2.2.1.1, (y78.2.2.2.2.1.2, (y78.2.2.2.2.2.1, (y78.2.2.2.2.2.2.1, (app y78.2.2.2.2.2.2.2.1 [(y78.2.2.2.1, (a.2.2.2.2.2.1, (a.2.2.2.2.2.2.1, (a.2.2.2.2.2.2.2.2.1, ((0 : Int), y78.1)))))], y78.2.2.2.2.2.2.2.2)))))))))))
                              else
                                none) fun (d79 : T_4) =>
                            some (((d79.2.2.2.2.2.2.1, d79.2.2.2.2.2.2.2.1), d79.2.2.2.2.2.2.2.2), (0 : Int))
                        else
                          Option.bind (r13 (y78.2, a.2.2.2.2.2.2.1)) fun (y80 : T_6) =>
                            Option.bind (
                              bif decide (a.2.2.2.2.2.1 = (2 : Int)) then
                                Option.bind (r14 (y80.2, y80.1, (false, (a.2.2.2.2.2.2.2.1, (a.2.2.2.2.2.2.2.2.1, ((0 : Int), ((0 : Int), ((0 : Int), (false, false))))))))) fun (y85 : T_7) =>
                                  some ((), (y85.1.1, (y85.1.2.1, (y85.1.2.2, (y85.2.1, (y85.2.2.1, (y85.2.2.2.1.1, (y85.2.2.2.1.2, y85.2.2.2.2))))))))
                              else
                                bif decide (a.2.2.2.2.2.1 = (3 : Int)) then
                                  Option.bind (r14 (y80.2, y80.1, (true, (a.2.1, (a.2.2.2.2.2.2.2.2.1, (a.2.2.2.2.2.2.2.2.2, ((0 : Int), ((0 : Int), (false, false))))))))) fun (y86 : T_7) =>
                                    some ((), (y86.1.1, (y86.1.2.1, (y86.1.2.2, (y86.2.1, (y86.2.2.1, (y86.2.2.2.1.1, (y86.2.2.2.1.2, y86.2.2.2.2))))))))
                                else
                                  bif decide (a.2.2.2.2.2.1 = (4 : Int)) then
                                    none
                                  else
                                    none) fun (d87 : T_4) =>
                              some (((d87.2.2.2.2.2.2.1, d87.2.2.2.2.2.2.2.1), d87.2.2.2.2.2.2.2.2), (0 : Int))
noncomputable def r6_s0 (y78 : T_6) (a : T_14) : Option T_4 :=
          some ((), (y78.2.1.1, (y78.2.1.2.1, (y78.2.1.2.2, (y78.2.2.1, (y78.2.2.2.1, (y78.2.2.2.2.1.1, (y78.2.2.2.2.1.2, (y78.2.2.2.2.2.1, (y78.2.2.2.2.2.2.1, (app y78.2.2.2.2.2.2.2.1 [(y78.2.2.2.1, (a.2.2.2.2.2.1, (a.2.2.2.2.2.2.1, (a.2.2.2.2.2.2.2.2.1, ((0 : Int), y78.1)))))], y78.2.2.2.2.2.2.2.2)))))))))))
noncomputable def r6q : T_14 → Option T_10 := fun a =>
  Option.bind (r18 (a.1, a.2.2.2.1)) fun (y1 : Int) =>
    bif !(decide (y1 = (0 : Int))) then
      bif !(decide (y1 = (0 : Int))) then
        some ((((0 : Int), []), ([], ([], ([], ((0 : Int), (0 : Int)))))), y1)
      else
        none
    else
      Option.bind (
        bif !(decide (a.2.1 < (0 : Int))) then
          some (decide ((↑a.1.2.1.length : Int) ≤ a.2.1))
        else
          some true) fun (d2 : Bool) =>
        bif d2 then
          some ((((0 : Int), []), ([], ([], ([], ((0 : Int), (0 : Int)))))), (6 : Int))
        else
          Option.bind (
            bif !(decide (a.2.2.1 < (0 : Int))) then
              some (decide (a.1.1 ≤ a.2.2.1))
            else
              some true) fun (d3 : Bool) =>
            bif d3 then
              some ((((0 : Int), []), ([], ([], ([], ((0 : Int), (0 : Int)))))), (2 : Int))
            else
              Option.bind (r19 a.2.2.2.1) fun (y5 : T_15) =>
                Option.bind (
                  bif !(decide (a.2.2.2.2.2.1 < (1 : Int))) then
                    some (decide ((5 : Int) < a.2.2.2.2.2.1))
                  else
                    some true) fun (d76 : Bool) =>
                  bif d76 then
                    some ((((0 : Int), []), ([], ([], ([], ((0 : Int), (0 : Int)))))), (3 : Int))
                  else
                    bif decide (a.2.2.2.2.2.1 = (1 : Int)) then
                      Option.bind (r10 ((a.1, (a.2.1, (a.2.2.1, (y5, ([], ([], ([], ((0 : Int), (0 : Int))))))))), a.2.2.2.2.1)) fun (y77 : T_7) =>
                        some (y77.2.2.2, (0 : Int))
                    else
                      Option.bind (r11 ((a.1, (a.2.1, (a.2.2.1, (y5, ([], ([], ([], ((0 : Int), (0 : Int))))))))), a.2.2.2.2.2)) fun (y78 : T_6) =>
                        bif !(decide (y78.1 = (0 : Int))) then
                          Option.bind (
                            sameR (
                                bif roomOk false y78.2.2.2.2.2.2.2.1.length 1 48 then
                                  r6_s0 y78 a
                                else
                                  none)
 (
                              sameR (
                                  bif roomOk false y78.2.2.2.2.2.2.2.1.length 1 48 then
                                    r6_s0 y78 a
                                  else
                                    none)
 (
                                bif roomOk false y78.2.2.2.2.2.2.2.1.length 1 48 then
                                    r6_s0 y78 a
                                else
                                  none))) fun (d79 : T_4) =>
                            some (((d79.2.2.2.2.2.2.1, d79.2.2.2.2.2.2.2.1), d79.2.2.2.2.2.2.2.2), (0 : Int))
                        else
                          Option.bind (r13 (y78.2, a.2.2.2.2.2.2.1)) fun (y80 : T_6) =>
                            Option.bind (
                              bif decide (a.2.2.2.2.2.1 = (2 : Int)) then
                                Option.bind (r14 (y80.2, y80.1, (false, (a.2.2.2.2.2.2.2.1, (a.2.2.2.2.2.2.2.2.1, ((0 : Int), ((0 : Int), ((0 : Int), (false, false))))))))) fun (y85 : T_7) =>
                                  some ((), (y85.1.1, (y85.1.2.1, (y85.1.2.2, (y85.2.1, (y85.2.2.1, (y85.2.2.2.1.1, (y85.2.2.2.1.2, y85.2.2.2.2))))))))
                              else
                                bif decide (a.2.2.2.2.2.1 = (3 : Int)) then
                                  Option.bind (r14 (y80.2, y80.1, (true, (a.2.1, (a.2.2.2.2.2.2.2.2.1, (a.2.2.2.2.2.2.2.2.2, ((0 : Int), ((0 : Int), (false, false))))))))) fun (y86 : T_7) =>
                                    some ((), (y86.1.1, (y86.1.2.1, (y86.1.2.2, (y86.2.1, (y86.2.2.1, (y86.2.2.2.1.1, (y86.2.2.2.1.2, y86.2.2.2.2))))))))
                                else
                                  bif decide (a.2.2.2.2.2.1 = (4 : Int)) then
                                    none
                                  else
                                    none) fun (d87 : T_4) =>
                              some (((d87.2.2.2.2.2.2.1, d87.2.2.2.2.2.2.2.1), d87.2.2.2.2.2.2.2.2), (0 : Int))
theorem r6e : r6q = r6 := by unfold r6q r6; simp only [r6_s0, sameR_self]
def an6 : Ann := .two (.leaf) (.two (.inl 4 110 (.two (.leaf) (.two (.two (.leaf) (.two (.leaf) (.two (.two (.leaf) (.leaf)) (.leaf)))) (.two (.two (.join [1, 4, 11, 12, 111, 112, 114, 117] [11, 12, 114, 117] [⟨.normal, [], [.tmp 135 (.bool)]⟩] (.leaf)) (.two (.two (.leaf) (.leaf)) (.leaf))) (.two (.two (.join [1, 4, 11, 12, 111, 112, 114, 117] [11, 12, 114, 117] [⟨.normal, [], [.tmp 143 (.bool)]⟩] (.leaf)) (.two (.two (.leaf) (.leaf)) (.leaf))) (.two (.draw 6) (.leaf)))))) (.leaf)) (.two (.two (.leaf) (.two (.two (.leaf) (.leaf)) (.leaf))) (.nilp 14 (.two (.two (.join [1, 4, 11, 12, 14] [11, 12, 151] [⟨.normal, [], [.tmp 37 (.bool)]⟩] (.leaf)) (.two (.two (.leaf) (.leaf)) (.leaf))) (.two (.two (.leaf) (.two (.two (.leaf) (.two (.leaf) (.leaf))) (.leaf))) (.two (.two (.leaf) (.two (.leaf) (.two (.two (.inl 8 152 (.join [12] [12] [⟨.normal, [], [.tmp 14 (.pt 151 [(0, 0)] 0 0 12), .box 151 [.int .i64, .sl .ro (.pair (.int .i64) (.int .i64)), .int .i64, .int .i64, .int .i64, .int .i64, .sl .own E_25, .sl .own E_26, .sl .own E_27, .sl .own E_29, .int .i64, .int .i64]]⟩] (.drawT [0, 1, 2, 3, 4, 5, 6, 7, 8, 9, 10, 11, 12, 13, 14, 15, 16] [0])) (.leaf)) (.two (.leaf) (.leaf))) (.leaf)))) (.two (.leaf) (.two (.join [12] [12] [⟨.normal, [], [.tmp 14 (.pt 151 [(0, 0)] 0 0 12), .box 151 [.int .i64, .sl .ro (.pair (.int .i64) (.int .i64)), .int .i64, .int .i64, .int .i64, .int .i64, .sl .own E_25, .sl .own E_26, .sl .own E_27, .sl .own E_29, .int .i64, .int .i64]]⟩] (.two (.leaf) (.one (.two (.leaf) (.two (.leaf) (.two (.leaf) (.two (.leaf) (.two (.leaf) (.two .leaf (.two .leaf .leaf)))))))))) (.two (.leaf) (.leaf))))))))))
theorem s6 : SoundF cx.P cx.G 6 sg6 r6 := by
  have e : denF cx [(10, ⟨sg10, r10⟩), (11, ⟨sg11, r11⟩), (13, ⟨sg13, r13⟩), (14, ⟨sg14, r14⟩), (18, ⟨sg18, r18⟩), (19, ⟨sg19, r19⟩)] an6 Try.f6.ntmps (Try.f6.body.getD .skip) Try.f6.results.toList sg6 = r6q := by kernel_rfl
  rw [← r6e, ← e]
  exact sound_of_den (c := cx) (Known.cons (.ofM s10 (by kernel_rfl)) Try.func10 (by kernel_rfl) (by kernel_rfl) (Known.cons (.ofM s11 (by kernel_rfl)) Try.func11 (by kernel_rfl) (by kernel_rfl) (Known.cons (.ofM s13 (by kernel_rfl)) Try.func13 (by kernel_rfl) (by kernel_rfl) (Known.cons (.ofM s14 (by kernel_rfl)) Try.func14 (by kernel_rfl) (by kernel_rfl) (Known.cons (.ofF s18 (by kernel_rfl)) Try.func18 (by kernel_rfl) (by kernel_rfl) (Known.cons (.ofF s19 (by kernel_rfl)) Try.func19 (by kernel_rfl) (by kernel_rfl) (Known.nil))))))) Try.func6 (by kernel_rfl) (Nat.le_of_ble_eq_true (by kernel_rfl)) rfl
/-! reredos/reredoskeep.GetDown -/
def sg3 : Sig := ⟨[⟨false, .bo, (.int .i64)⟩, ⟨false, .bo, (.int .i64)⟩, ⟨false, .bo, (.int .i64)⟩], [⟨false, .own, .bool⟩]⟩
noncomputable def r3 (a : (Int × (Int × Int))) : Option Bool :=
  Option.bind (r5 a.1) fun (y1 : (Int × (List ((Int × Int)) × Int))) =>
    Option.bind (r6 (y1, (0 : Int), (0 : Int), ((1 : Int), []), (6000 : Int), ((1 : Int), ((0 : Int), ((0 : Int), ((0 : Int), (0 : Int))))))) fun (y2 : T_10) =>
      Option.bind (r7 (a.2.2, (8 : Int))) fun (y3 : Int) =>
        Option.bind (r6 (y1, (0 : Int), (0 : Int), y2.1.1, (6000 : Int), ((2 : Int), ((1 : Int), ((1 : Int), (y3, (0 : Int))))))) fun (y4 : T_10) =>
          Option.bind (
            Option.bind (r7 (a.2.1, (2 : Int))) fun (y9 : Int) =>
              Option.bind (r6 (y1, (1 : Int), (0 : Int), y2.1.1, (6000 : Int), ((2 : Int), ((1 : Int), (y9, (y3, (0 : Int))))))) fun (y10 : T_10) =>
                
                  some ((), (y10.2, (y10.1.1.1, (y10.1.1.2, y10.1.2))))) fun (d11 : T_9) =>
            Option.bind (
              Option.bind (
                bif !(!(decide (y2.2 = (0 : Int)))) then
                  some (!(decide (y4.2 = (0 : Int))))
                else
                  some true) fun (g22 : Bool) =>
                Option.bind (
                  bif !(g22) then
                    some (!(decide (d11.2.1 = (0 : Int))))
                  else
                    some true) fun (g23 : Bool) =>
                  Option.bind (
                    bif !(g23) then
                      some (!(decide ((↑y4.1.2.2.2.1.length : Int) = (1 : Int))))
                    else
                      some true) fun (g24 : Bool) =>
                    Option.bind (
                      bif !(g24) then
                        Option.bind (idxI y4.1.2.2.2.1 (0 : Int)) fun (b25 : (Int × (Int × (Int × (Int × (Int × Int)))))) =>
                          some (!(decide (b25.2.2.2.2.2 = (10 : Int))))
                      else
                        some true) fun (g26 : Bool) =>
                      bif !(g26) then
                        some (decide ((0 : Int) < (↑y4.1.2.1.length : Int)))
                      else
                        some true) fun (d27 : Bool) =>
              bif d27 then
                some false
              else
                bif decide ((↑d11.2.2.2.2.1.length : Int) = (1 : Int)) then
                  Option.bind (idxI d11.2.2.2.2.1 (0 : Int)) fun (b30 : T_17) =>
                    bif decide (y1.1 = 0) then
                      none
                    else
                      Option.bind (r7 (a.2.1, (2 : Int))) fun (y31 : Int) =>
                        some (decide (b30.1 = (1 : Int)) && (decide (b30.2.1 = (0 : Int)) && (decide (b30.2.2.1 = (Int.tmod y3 y1.1)) && ((decide (b30.2.2.2.1.1 = (0 : Int)) && (decide (b30.2.2.2.1.2 = (1 : Int)) && true)) && (decide (b30.2.2.2.2.1 = y31) && (decide (b30.2.2.2.2.2.1 = y3) && (decide (b30.2.2.2.2.2.2.1 = (0 : Int)) && (decide (b30.2.2.2.2.2.2.2.1 = (0 : Int)) && (decide (b30.2.2.2.2.2.2.2.2.1 = (1 : Int)) && (decide (b30.2.2.2.2.2.2.2.2.2.1 = false) && (decide (b30.2.2.2.2.2.2.2.2.2.2 = (0 : Int)) && true)))))))))))
                else
                  some false
noncomputable def r3q : (Int × (Int × Int)) → Option Bool := fun a =>
  Option.bind (r5 a.1) fun (y1 : (Int × (List ((Int × Int)) × Int))) =>
    Option.bind (r6 (y1, (0 : Int), (0 : Int), ((1 : Int), []), (6000 : Int), ((1 : Int), ((0 : Int), ((0 : Int), ((0 : Int), (0 : Int))))))) fun (y2 : T_10) =>
      Option.bind (r7 (a.2.2, (8 : Int))) fun (y3 : Int) =>
        Option.bind (r6 (y1, (0 : Int), (0 : Int), y2.1.1, (6000 : Int), ((2 : Int), ((1 : Int), ((1 : Int), (y3, (0 : Int))))))) fun (y4 : T_10) =>
          Option.bind (
            Option.bind (r7 (a.2.1, (2 : Int))) fun (y9 : Int) =>
              Option.bind (r6 (y1, (1 : Int), (0 : Int), y2.1.1, (6000 : Int), ((2 : Int), ((1 : Int), (y9, (y3, (0 : Int))))))) fun (y10 : T_10) =>
                sameR (
                      some ((), (y10.2, (y10.1.1.1, (y10.1.1.2, y10.1.2)))))
 (
                  sameR (
                        some ((), (y10.2, (y10.1.1.1, (y10.1.1.2, y10.1.2)))))
 (
                        some ((), (y10.2, (y10.1.1.1, (y10.1.1.2, y10.1.2))))))) fun (d11 : T_9) =>
            Option.bind (
              Option.bind (
                bif !(!(decide (y2.2 = (0 : Int)))) then
                  some (!(decide (y4.2 = (0 : Int))))
                else
                  some true) fun (g22 : Bool) =>
                Option.bind (
                  bif !(g22) then
                    some (!(decide (d11.2.1 = (0 : Int))))
                  else
                    some true) fun (g23 : Bool) =>
                  Option.bind (
                    bif !(g23) then
                      some (!(decide ((↑y4.1.2.2.2.1.length : Int) = (1 : Int))))
                    else
                      some true) fun (g24 : Bool) =>
                    Option.bind (
                      bif !(g24) then
                        Option.bind (idxI y4.1.2.2.2.1 (0 : Int)) fun (b25 : (Int × (Int × (Int × (Int × (Int × Int)))))) =>
                          some (!(decide (b25.2.2.2.2.2 = (10 : Int))))
                      else
                        some true) fun (g26 : Bool) =>
                      bif !(g26) then
                        some (decide ((0 : Int) < (↑y4.1.2.1.length : Int)))
                      else
                        some true) fun (d27 : Bool) =>
              bif d27 then
                some false
              else
                bif decide ((↑d11.2.2.2.2.1.length : Int) = (1 : Int)) then
                  Option.bind (idxI d11.2.2.2.2.1 (0 : Int)) fun (b30 : T_17) =>
                    bif decide (y1.1 = 0) then
                      none
                    else
                      Option.bind (r7 (a.2.1, (2 : Int))) fun (y31 : Int) =>
                        some (decide (b30.1 = (1 : Int)) && (decide (b30.2.1 = (0 : Int)) && (decide (b30.2.2.1 = (Int.tmod y3 y1.1)) && ((decide (b30.2.2.2.1.1 = (0 : Int)) && (decide (b30.2.2.2.1.2 = (1 : Int)) && true)) && (decide (b30.2.2.2.2.1 = y31) && (decide (b30.2.2.2.2.2.1 = y3) && (decide (b30.2.2.2.2.2.2.1 = (0 : Int)) && (decide (b30.2.2.2.2.2.2.2.1 = (0 : Int)) && (decide (b30.2.2.2.2.2.2.2.2.1 = (1 : Int)) && (decide (b30.2.2.2.2.2.2.2.2.2.1 = false) && (decide (b30.2.2.2.2.2.2.2.2.2.2 = (0 : Int)) && true)))))))))))
                else
                  some false
theorem r3e : r3q = r3 := by unfold r3q r3; simp only [sameR_self]
def an3 : Ann := .two (.leaf) (.two (.leaf) (.two (.leaf) (.two (.leaf) (.two (.leaf) (.two (.join [1, 7, 9, 10, 11, 12] [7, 11] [⟨.normal, [], [.tmp 13 (.pt 13 [(0, 0)] 0 0 7), .tmp 14 (.int .i64), .box 13 [.int .i64, .sl .ro E_25, .sl .ro E_26, .sl .ro E_27, .sl .ro E_29, .int .i64, .int .i64]]⟩] (.drawT [0, 1, 2, 3, 4, 5, 6, 7, 8, 9, 10, 11] [10])) (.two (.two (.join [1, 7, 10, 13] [7, 13] [⟨.normal, [], [.tmp 75 (.bool)]⟩] (.segs [(6, ([1, 7, 10, 11, 13, 14], ([7, 11, 13], [.tmp 51 (.bool)]))), (4, ([1, 7, 10, 11, 13], ([7, 11, 13], [.tmp 55 (.bool)]))), (6, ([1, 7, 10, 11, 13], ([7, 11, 13], [.tmp 61 (.bool)]))), (8, ([1, 7, 10, 11, 13], ([7, 11, 13], [.tmp 69 (.bool)])))])) (.two (.two (.leaf) (.leaf)) (.leaf))) (.two (.draw 18) (.leaf))))))))
theorem s3 : SoundF cx.P cx.G 3 sg3 r3 := by
  have e : denF cx [(5, ⟨sg5, r5⟩), (6, ⟨sg6, r6⟩), (7, ⟨sg7, r7⟩)] an3 Try.f3.ntmps (Try.f3.body.getD .skip) Try.f3.results.toList sg3 = r3q := by kernel_rfl
  rw [← r3e, ← e]
  exact sound_of_den (c := cx) (Known.cons (.ofF s5 (by kernel_rfl)) Try.func5 (by kernel_rfl) (by kernel_rfl) (Known.cons (.ofF s6 (by kernel_rfl)) Try.func6 (by kernel_rfl) (by kernel_rfl) (Known.cons (.ofF s7 (by kernel_rfl)) Try.func7 (by kernel_rfl) (by kernel_rfl) (Known.nil)))) Try.func3 (by kernel_rfl) (Nat.le_of_ble_eq_true (by kernel_rfl)) rfl
/-! reredos/reredoskeep.sameInts -/
noncomputable def r17_L0 (a : (List Int × List Int)) (d1 : Int) : Option (Int ⊕ (Unit ⊕ Bool)) :=
  bif decide (d1 < (↑a.1.length : Int)) then
    Option.bind (idxI a.1 d1) fun (b4 : Int) =>
      Option.bind (idxI a.2 d1) fun (b5 : Int) =>
        bif !(decide (b4 = b5)) then
          some (Sum.inr (Sum.inr false))
        else
          some (Sum.inl (Go.IntKind.wrap .i64 (d1 + (1 : Int))))
  else
    some (Sum.inr (Sum.inl ()))
def sg17 : Sig := ⟨[⟨false, .bo, (.sl (.int .i64))⟩, ⟨false, .bo, (.sl (.int .i64))⟩], [⟨false, .own, .bool⟩]⟩
noncomputable def r17 (a : (List Int × List Int)) : Option Bool :=
  bif !(decide ((↑a.1.length : Int) = (↑a.2.length : Int))) then
    some false
  else
    Option.bind (loopR (r17_L0 a) (0 : Int)) fun (q6 : (Unit ⊕ Bool)) =>
      Sum.elim (fun (_ : Unit) =>
          some true)
        (fun (v8 : Bool) =>
          some v8) q6
def an17 : Ann := .two (.leaf) (.two (.two (.leaf) (.two (.two (.leaf) (.leaf)) (.leaf))) (.two (.two (.leaf) (.one (.loop [0, 1] [] [] [.tmp 5 (.int .i64)] [⟨.exit 0, [], []⟩, ⟨.ret, [], [.tmp 4 (.bool)]⟩] (.two (.two (.leaf) (.two (.leaf) (.leaf))) (.two (.one (.two (.draw 8) (.two (.two (.leaf) (.leaf)) (.leaf)))) (.leaf)))))) (.two (.leaf) (.leaf))))
theorem s17 : SoundF cx.P cx.G 17 sg17 r17 := by
  have e : denF cx [] an17 Try.f17.ntmps (Try.f17.body.getD .skip) Try.f17.results.toList sg17 = r17 := by kernel_rfl
  rw [← e]
  exact sound_of_den (c := cx) (Known.nil) Try.func17 (by kernel_rfl) (Nat.le_of_ble_eq_true (by kernel_rfl)) rfl
/-! reredos/reredoskeep.sameDesk -/
noncomputable def r8_L0 (b3 : T_16) (b4 : T_16) (d21 : Int) : Option (Int ⊕ (Unit ⊕ Bool)) :=
  bif decide (d21 < (↑b3.2.2.1.length : Int)) then
    Option.bind (idxI b3.2.2.1 d21) fun (b24 : T_18) =>
      Option.bind (idxI b4.2.2.1 d21) fun (b25 : T_18) =>
        bif !((decide (b24.1 = b25.1) && (decide (b24.2.1 = b25.2.1) && (decide (b24.2.2.1 = b25.2.2.1) && (decide (b24.2.2.2.1 = b25.2.2.2.1) && (decide (b24.2.2.2.2.1 = b25.2.2.2.2.1) && (decide (b24.2.2.2.2.2.1 = b25.2.2.2.2.2.1) && (decide (b24.2.2.2.2.2.2.1 = b25.2.2.2.2.2.2.1) && (decide (b24.2.2.2.2.2.2.2 = b25.2.2.2.2.2.2.2) && true))))))))) then
          some (Sum.inr (Sum.inr false))
        else
          some (Sum.inl (Go.IntKind.wrap .i64 (d21 + (1 : Int))))
  else
    some (Sum.inr (Sum.inl ()))
noncomputable def r8_L1 (a : (T_15 × T_15)) (d2 : Int) : Option (Int ⊕ (Unit ⊕ Bool)) :=
  bif decide (d2 < (↑a.1.2.length : Int)) then
    Option.bind (idxI a.1.2 d2) fun (b3 : T_16) =>
      Option.bind (idxI a.2.2 d2) fun (b4 : T_16) =>
        Option.bind (
          Option.bind (
            bif !(!(decide (b3.1 = b4.1))) then
              some (!(decide (b3.2.1 = b4.2.1)))
            else
              some true) fun (g15 : Bool) =>
            Option.bind (
              bif !(g15) then
                some (!(decide (b3.2.2.2.2.1 = b4.2.2.2.2.1)))
              else
                some true) fun (g16 : Bool) =>
              Option.bind (
                bif !(g16) then
                  some (!(decide (b3.2.2.2.2.2 = b4.2.2.2.2.2)))
                else
                  some true) fun (g17 : Bool) =>
                Option.bind (
                  bif !(g17) then
                    some (!(decide ((↑b3.2.2.1.length : Int) = (↑b4.2.2.1.length : Int))))
                  else
                    some true) fun (g18 : Bool) =>
                  bif !(g18) then
                    Option.bind (r17 (b3.2.2.2.1, b4.2.2.2.1)) fun (y19 : Bool) =>
                      some !(y19)
                  else
                    some true) fun (d20 : Bool) =>
          bif d20 then
            some (Sum.inr (Sum.inr false))
          else
            Option.bind (loopR (r8_L0 b3 b4) (0 : Int)) fun (q26 : (Unit ⊕ Bool)) =>
              Sum.elim (fun (_ : Unit) =>
                  some (Sum.inl (Go.IntKind.wrap .i64 (d2 + (1 : Int)))))
                (fun (v28 : Bool) =>
                  some (Sum.inr (Sum.inr v28))) q26
  else
    some (Sum.inr (Sum.inl ()))
def sg8 : Sig := ⟨[⟨true, .bo, E_24⟩, ⟨true, .bo, E_24⟩], [⟨false, .own, .bool⟩]⟩
noncomputable def r8 (a : (T_15 × T_15)) : Option Bool :=
  Option.bind (
    bif !(!(decide (a.1.1 = a.2.1))) then
      some (!(decide ((↑a.1.2.length : Int) = (↑a.2.2.length : Int))))
    else
      some true) fun (d1 : Bool) =>
    bif d1 then
      some false
    else
      Option.bind (loopR (r8_L1 a) (0 : Int)) fun (q29 : (Unit ⊕ Bool)) =>
        Sum.elim (fun (_ : Unit) =>
            some true)
          (fun (v31 : Bool) =>
            some v31) q29
def an8 : Ann := .two (.leaf) (.two (.two (.join [2, 3] [2, 3] [⟨.normal, [], [.tmp 22 (.bool)]⟩] (.leaf)) (.two (.two (.leaf) (.leaf)) (.leaf))) (.two (.two (.leaf) (.one (.loop [2, 3, 25] [2, 3] [] [.tmp 26 (.int .i64)] [⟨.exit 0, [], []⟩, ⟨.ret, [], [.tmp 4 (.bool)]⟩] (.two (.leaf) (.two (.two (.leaf) (.leaf)) (.two (.one (.two (.leaf) (.two (.leaf) (.two (.leaf) (.two (.two (.join [2, 3, 6, 7, 25, 26] [2, 3, 6, 7] [⟨.normal, [], [.tmp 81 (.bool)]⟩] (.segs [(12, ([2, 3, 6, 7, 25, 26], ([2, 3, 6, 7], [.tmp 50 (.bool)]))), (7, ([2, 3, 6, 7, 25, 26], ([2, 3, 6, 7], [.tmp 57 (.bool)]))), (7, ([2, 3, 6, 7, 25, 26], ([2, 3, 6, 7], [.tmp 64 (.bool)]))), (9, ([2, 3, 6, 7, 25, 26], ([2, 3, 6, 7], [.tmp 73 (.bool)])))])) (.two (.two (.leaf) (.leaf)) (.leaf))) (.two (.leaf) (.one (.loop [2, 3, 6, 7, 25, 26, 84] [2, 3, 6, 7] [] [.tmp 85 (.int .i64)] [⟨.exit 2, [], []⟩, ⟨.ret, [], [.tmp 4 (.bool)]⟩] (.two (.leaf) (.two (.two (.leaf) (.leaf)) (.two (.one (.two (.leaf) (.two (.draw 10) (.two (.two (.leaf) (.leaf)) (.leaf))))) (.leaf)))))))))))) (.leaf))))))) (.two (.leaf) (.leaf))))
theorem s8 : SoundF cx.P cx.G 8 sg8 r8 := by
  have e : denF cx [(17, ⟨sg17, r17⟩)] an8 Try.f8.ntmps (Try.f8.body.getD .skip) Try.f8.results.toList sg8 = r8 := by kernel_rfl
  rw [← e]
  exact sound_of_den (c := cx) (Known.cons (.ofF s17 (by kernel_rfl)) Try.func17 (by kernel_rfl) (by kernel_rfl) (Known.nil)) Try.func8 (by kernel_rfl) (Nat.le_of_ble_eq_true (by kernel_rfl)) rfl
/-! reredos/reredoskeep.TaskTwice -/
def sg4 : Sig := ⟨[⟨false, .bo, (.int .i64)⟩, ⟨false, .bo, (.int .i64)⟩, ⟨false, .bo, .bool⟩], [⟨false, .own, .bool⟩]⟩
noncomputable def r4 (a : (Int × (Int × Bool))) : Option Bool :=
  Option.bind (r5 a.1) fun (y1 : (Int × (List ((Int × Int)) × Int))) =>
    Option.bind (r6 (y1, (0 : Int), (0 : Int), ((1 : Int), []), (6000 : Int), ((1 : Int), ((0 : Int), ((0 : Int), ((0 : Int), (0 : Int))))))) fun (y2 : T_10) =>
      Option.bind (r7 (a.2.1, (8 : Int))) fun (y3 : Int) =>
        Option.bind (
          bif a.2.2 then
            some ((), ((3 : Int), ((1 : Int), ((0 : Int), (y3, (0 : Int))))))
          else
            some ((), ((2 : Int), ((1 : Int), ((0 : Int), (y3, (0 : Int))))))) fun (d4 : (Unit × (Int × (Int × (Int × (Int × Int)))))) =>
          Option.bind (r6 (y1, (0 : Int), (0 : Int), y2.1.1, (6000 : Int), d4.2)) fun (y5 : T_10) =>
            Option.bind (r6 (y1, (0 : Int), (0 : Int), y5.1.1, (6000 : Int), d4.2)) fun (y6 : T_10) =>
              Option.bind (r6 (y1, (0 : Int), (0 : Int), y5.1.1, (6000 : Int), ((4 : Int), ((1 : Int), ((0 : Int), ((0 : Int), (0 : Int))))))) fun (y7 : T_10) =>
                Option.bind (
                  bif decide (y2.2 = (0 : Int)) then
                    some (decide (y5.2 = (0 : Int)))
                  else
                    some false) fun (g8 : Bool) =>
                  Option.bind (
                    bif g8 then
                      some (decide (y6.2 = (0 : Int)))
                    else
                      some false) fun (g9 : Bool) =>
                    Option.bind (
                      bif g9 then
                        some (decide (y7.2 = (0 : Int)))
                      else
                        some false) fun (g10 : Bool) =>
                      Option.bind (
                        bif g10 then
                          some (decide ((↑y5.1.2.2.2.1.length : Int) = (0 : Int)))
                        else
                          some false) fun (g11 : Bool) =>
                        Option.bind (
                          bif g11 then
                            some (decide ((↑y6.1.2.2.2.1.length : Int) = (1 : Int)))
                          else
                            some false) fun (g12 : Bool) =>
                          Option.bind (
                            bif g12 then
                              Option.bind (idxI y6.1.2.2.2.1 (0 : Int)) fun (b13 : (Int × (Int × (Int × (Int × (Int × Int)))))) =>
                                some (decide (b13.2.2.2.2.2 = (14 : Int)))
                            else
                              some false) fun (g14 : Bool) =>
                            Option.bind (
                              bif g14 then
                                some (decide ((↑y7.1.2.2.2.1.length : Int) = (1 : Int)))
                              else
                                some false) fun (g15 : Bool) =>
                              Option.bind (
                                bif g15 then
                                  Option.bind (idxI y7.1.2.2.2.1 (0 : Int)) fun (b16 : (Int × (Int × (Int × (Int × (Int × Int)))))) =>
                                    some (decide (b16.2.2.2.2.2 = (14 : Int)))
                                else
                                  some false) fun (g17 : Bool) =>
                                bif g17 then
                                  Option.bind (r8 (y6.1.1, y5.1.1)) fun (y18 : Bool) =>
                                    some y18
                                else
                                  some false
def an4 : Ann := .two (.leaf) (.two (.leaf) (.two (.leaf) (.two (.leaf) (.two (.join [7, 8, 9] [7, 8] [⟨.normal, [], [.tmp 10 (.pt 10 [(0, 0)] 0 0 5), .box 10 [.int .i64, .int .i64, .int .i64, .int .i64, .int .i64]]⟩] (.two (.leaf) (.two (.leaf) (.leaf)))) (.two (.leaf) (.two (.leaf) (.two (.leaf) (.two (.segs [(6, ([11, 13, 14, 15, 16], ([11, 13, 15], [.tmp 60 (.bool)]))), (4, ([11, 13, 15, 16], ([11, 13, 15], [.tmp 64 (.bool)]))), (4, ([11, 13, 15], ([11, 13, 15], [.tmp 68 (.bool)]))), (6, ([11, 13, 15], ([11, 13, 15], [.tmp 74 (.bool)]))), (6, ([11, 13, 15], ([11, 13, 15], [.tmp 80 (.bool)]))), (8, ([11, 13, 15], ([11, 13, 15], [.tmp 88 (.bool)]))), (6, ([11, 13, 15], ([11, 13, 15], [.tmp 94 (.bool)]))), (8, ([11, 13], ([11, 13], [.tmp 102 (.bool)])))]) (.leaf)))))))))
theorem s4 : SoundF cx.P cx.G 4 sg4 r4 := by
  have e : denF cx [(5, ⟨sg5, r5⟩), (6, ⟨sg6, r6⟩), (7, ⟨sg7, r7⟩), (8, ⟨sg8, r8⟩)] an4 Try.f4.ntmps (Try.f4.body.getD .skip) Try.f4.results.toList sg4 = r4 := by kernel_rfl
  rw [← e]
  exact sound_of_den (c := cx) (Known.cons (.ofF s5 (by kernel_rfl)) Try.func5 (by kernel_rfl) (by kernel_rfl) (Known.cons (.ofF s6 (by kernel_rfl)) Try.func6 (by kernel_rfl) (by kernel_rfl) (Known.cons (.ofF s7 (by kernel_rfl)) Try.func7 (by kernel_rfl) (by kernel_rfl) (Known.cons (.ofF s8 (by kernel_rfl)) Try.func8 (by kernel_rfl) (by kernel_rfl) (Known.nil))))) Try.func4 (by kernel_rfl) (Nat.le_of_ble_eq_true (by kernel_rfl)) rfl
end Go.Hx
