/- What the functions compute: written by gen.py. -/
import Derived.Test.YtdehidbjndoclaaGreatDoorLibK
import Derived.Test.YtdehidbjndoclaaGreatDoorProg
import Derived.KernelRfl
namespace Go.Hu
open Go.RowKit Go.Proofs Go.V Go.Proofs
abbrev E_26 : Ty := (.pair (.int .i64) (.pair (.int .i64) (.pair (.int .i64) (.pair (.int .i64) (.pair (.int .i64) (.int .i64))))))
abbrev E_25 : Ty := (.pair .bool (.pair (.int .i64) (.pair (.int .i64) (.pair (.int .i64) (.pair (.int .i64) (.pair (.int .i64) (.pair .bool .bool)))))))
abbrev E_24 : Ty := (.pair (.int .i64) (.pair (.pair (.int .i64) (.int .i64)) (.rsl E_25)))
abbrev E_23 : Ty := (.pair (.int .i64) (.pair (.int .i64) (.pair (.int .i64) (.pair (.pair (.int .i64) (.int .i64)) (.pair (.int .i64) (.pair (.int .i64) (.pair (.int .i64) (.pair (.int .i64) (.pair (.int .i64) (.pair .bool (.int .i64)))))))))))
abbrev E_22 : Ty := (.pair (.int .i64) (.pair (.int .i64) (.pair (.int .i64) (.pair (.int .i64) (.pair (.int .i64) (.pair (.sl (.int .i64)) (.pair (.pair (.int .i64) (.pair (.int .i64) (.pair (.int .i64) (.pair (.int .i64) (.int .i64))))) .str)))))))
abbrev E_21 : Ty := (.sl E_23)
abbrev E_20 : Ty := (.pair (.int .i64) (.pair (.int .i64) (.pair (.int .i64) (.pair (.int .i64) (.pair (.int .i64) (.pair (.rsl (.int .i64)) (.pair (.pair (.int .i64) (.pair (.int .i64) (.pair (.int .i64) (.pair (.int .i64) (.int .i64))))) .str)))))))
abbrev E_19 : Ty := (.sl E_20)
abbrev E_18 : Ty := (.pair (.rsl (.pair (.int .i64) (.pair (.int .i64) (.int .i64)))) (.pair (.rsl (.pair (.pair (.int .i64) (.int .i64)) (.pair (.int .i64) (.pair .bool (.pair (.int .i64) (.int .i64)))))) (.pair (.rsl (.pair (.pair (.int .i64) (.int .i64)) (.int .i64))) (.rsl (.pair (.int .i64) (.int .i64))))))
abbrev E_17 : Ty := (.sl E_18)
abbrev E_16 : Ty := (.pair (.rsl E_21) (.pair (.rsl (.pair (.rsl (.int .u8)) (.int .i64))) (.pair (.rsl E_18) (.rsl (.sl (.pair (.pair (.int .i64) (.int .i64)) (.pair .bool .bool)))))))
abbrev E_15 : Ty := (.pair (.rsl .str) E_16)
abbrev E_14 : Ty := (.pair (.rsl E_26) E_15)
abbrev E_13 : Ty := (.sl E_14)
abbrev E_12 : Ty := (.rsl E_14)
abbrev E_11 : Ty := (.pair E_13 (.pair (.sl .bool) (.pair (.int .i64) (.sl E_24))))
abbrev E_10 : Ty := (.pair E_12 (.pair (.rsl .bool) (.pair (.int .i64) (.rsl E_24))))
abbrev T_9 : Type := (Int × (List ((Int × Int)) × Int))
abbrev T_8 : Type := (Int × (Int × (Int × (Int × Int))))
abbrev T_7 : Type := (Int × (Int × (Int × (Int × (Int × (List Int × (T_8 × List UInt8)))))))
abbrev T_6 : Type := (Unit × List (T_7))
abbrev T_5 : Type := (List ((List ((Int × T_8)) × (List (List UInt8) × (List (List ((Int × (Int × (Int × ((Int × Int) × (Int × (Int × (Int × (Int × (Int × (Bool × Int)))))))))))) × (List ((List Int × Int)) × (List ((List ((Int × (Int × Int))) × (List (((Int × Int) × (Int × (Bool × (Int × Int))))) × (List (((Int × Int) × Int)) × List ((Int × Int)))))) × List (List (((Int × Int) × (Bool × Bool)))))))))) × (List Bool × (Int × List ((Int × ((Int × Int) × List ((Bool × (Int × (Int × (Int × (Int × (Int × (Bool × Bool))))))))))))))
abbrev T_4 : Type := (Int × T_5)
abbrev T_3 : Type := (Unit × T_5)
abbrev T_2 : Type := (T_5 × (Int × Int))
abbrev T_1 : Type := (Unit × T_4)
abbrev T_0 : Type := (Unit × (Int × T_4))
def tys : List (Nat × TyInfo) := [
  (3, ⟨.int .i64, 1, 8, [.int .i64 0], false, [none], [none], (.int .i64)⟩),
  (4, ⟨.bool, 1, 1, [.bool false], false, [none], [none], .bool⟩),
  (5, ⟨.int .u8, 1, 1, [.int .u8 0], false, [none], [none], (.int .u8)⟩),
  (9, ⟨.str, 1, 16, [.string ⟨#[]⟩], false, [none], [none], .str⟩),
  (22, ⟨.sl 3, 1, 24, [.slice none 0 0], false, [some (.int .i64)], [none], (.sl (.int .i64))⟩),
  (23, ⟨.sl 48, 1, 24, [.slice none 0 0], false, [some E_26], [none], (.sl E_26)⟩),
  (24, ⟨.sl 45, 1, 24, [.slice none 0 0], false, [some (.pair (.int .i64) (.int .i64))], [none], (.sl (.pair (.int .i64) (.int .i64)))⟩),
  (26, ⟨.st [(0, 3), (1, 24), (2, 3)], 3, 40, [.int .i64 0, .slice none 0 0, .int .i64 0], false, [none, some (.pair (.int .i64) (.int .i64)), none], [none, none, none], (.pair (.int .i64) (.pair (.rsl (.pair (.int .i64) (.int .i64))) (.int .i64)))⟩),
  (28, ⟨.sl 34, 1, 24, [.slice none 0 0], false, [some E_20], [none], E_19⟩),
  (32, ⟨.st [(0, 3), (1, 3), (2, 3), (3, 3), (4, 3)], 5, 40, [.int .i64 0, .int .i64 0, .int .i64 0, .int .i64 0, .int .i64 0], true, [none, none, none, none, none], [none, none, none, none, none], (.pair (.int .i64) (.pair (.int .i64) (.pair (.int .i64) (.pair (.int .i64) (.int .i64)))))⟩),
  (34, ⟨.st [(0, 3), (1, 3), (2, 3), (3, 3), (4, 3), (5, 22), (6, 32), (11, 9)], 12, 120, [.int .i64 0, .int .i64 0, .int .i64 0, .int .i64 0, .int .i64 0, .slice none 0 0, .int .i64 0, .int .i64 0, .int .i64 0, .int .i64 0, .int .i64 0, .string ⟨#[]⟩], false, [none, none, none, none, none, some (.int .i64), none, none, none, none, none, none], [none, none, none, none, none, none, none, none, none, none, none, none], E_20⟩),
  (35, ⟨.sl 69, 1, 24, [.slice none 0 0], false, [some E_14], [none], E_13⟩),
  (36, ⟨.sl 4, 1, 24, [.slice none 0 0], false, [some .bool], [none], (.sl .bool)⟩),
  (37, ⟨.sl 76, 1, 24, [.slice none 0 0], false, [some E_24], [none], (.sl E_24)⟩),
  (39, ⟨.st [(0, 35), (1, 36), (2, 3), (3, 37)], 4, 80, [.slice none 0 0, .slice none 0 0, .int .i64 0, .slice none 0 0], false, [some E_14, some .bool, none, some E_24], [none, none, none, none], E_10⟩),
  (40, ⟨.int .i64, 1, 8, [.int .i64 0], false, [none], [none], (.int .i64)⟩),
  (45, ⟨.st [(0, 3), (1, 3)], 2, 16, [.int .i64 0, .int .i64 0], true, [none, none], [none, none], (.pair (.int .i64) (.int .i64))⟩),
  (48, ⟨.st [(0, 3), (1, 3), (2, 3), (3, 3), (4, 3), (5, 3)], 6, 48, [.int .i64 0, .int .i64 0, .int .i64 0, .int .i64 0, .int .i64 0, .int .i64 0], false, [none, none, none, none, none, none], [none, none, none, none, none, none], E_26⟩),
  (58, ⟨.sl 66, 1, 24, [.slice none 0 0], false, [some E_17], [none], (.sl E_17)⟩),
  (62, ⟨.sl 103, 1, 24, [.slice none 0 0], false, [some E_26], [none], (.sl E_26)⟩),
  (63, ⟨.sl 9, 1, 24, [.slice none 0 0], false, [some .str], [none], (.sl .str)⟩),
  (64, ⟨.sl 105, 1, 24, [.slice none 0 0], false, [some E_21], [none], (.sl E_21)⟩),
  (65, ⟨.sl 95, 1, 24, [.slice none 0 0], false, [some (.pair (.rsl (.int .u8)) (.int .i64))], [none], (.sl (.pair (.rsl (.int .u8)) (.int .i64)))⟩),
  (66, ⟨.sl 115, 1, 24, [.slice none 0 0], false, [some E_18], [none], E_17⟩),
  (67, ⟨.sl 117, 1, 24, [.slice none 0 0], false, [some (.sl (.pair (.pair (.int .i64) (.int .i64)) (.pair .bool .bool)))], [none], (.sl (.sl (.pair (.pair (.int .i64) (.int .i64)) (.pair .bool .bool))))⟩),
  (69, ⟨.st [(0, 62), (1, 63), (2, 64), (3, 65), (4, 66), (5, 67)], 6, 144, [.slice none 0 0, .slice none 0 0, .slice none 0 0, .slice none 0 0, .slice none 0 0, .slice none 0 0], false, [some E_26, some .str, some E_21, some (.pair (.rsl (.int .u8)) (.int .i64)), some E_18, some (.sl (.pair (.pair (.int .i64) (.int .i64)) (.pair .bool .bool)))], [none, none, none, none, none, none], E_14⟩),
  (71, ⟨.ptr, 1, 8, [.pointer none], false, [none], [none], .unit⟩),
  (73, ⟨.st [(0, 3), (1, 3)], 2, 16, [.int .i64 0, .int .i64 0], false, [none, none], [none, none], (.pair (.int .i64) (.int .i64))⟩),
  (74, ⟨.sl 81, 1, 24, [.slice none 0 0], false, [some E_25], [none], (.sl E_25)⟩),
  (76, ⟨.st [(0, 3), (1, 73), (3, 74)], 4, 48, [.int .i64 0, .int .i64 0, .int .i64 0, .slice none 0 0], false, [none, none, none, some E_25], [none, none, none, none], E_24⟩),
  (81, ⟨.st [(0, 4), (1, 3), (2, 3), (3, 3), (4, 3), (5, 3), (6, 4), (7, 4)], 8, 56, [.bool false, .int .i64 0, .int .i64 0, .int .i64 0, .int .i64 0, .int .i64 0, .bool false, .bool false], false, [none, none, none, none, none, none, none, none], [none, none, none, none, none, none, none, none], E_25⟩),
  (87, ⟨.ptr, 1, 8, [.pointer none], false, [none], [none], .unit⟩),
  (93, ⟨.sl 5, 1, 24, [.slice none 0 0], false, [some (.int .u8)], [none], (.sl (.int .u8))⟩),
  (95, ⟨.st [(0, 93), (1, 3)], 2, 32, [.slice none 0 0, .int .i64 0], false, [some (.int .u8), none], [none, none], (.pair (.rsl (.int .u8)) (.int .i64))⟩),
  (103, ⟨.st [(0, 3), (1, 3), (2, 3), (3, 3), (4, 3), (5, 40)], 6, 48, [.int .i64 0, .int .i64 0, .int .i64 0, .int .i64 0, .int .i64 0, .int .i64 0], false, [none, none, none, none, none, none], [none, none, none, none, none, none], E_26⟩),
  (105, ⟨.sl 108, 1, 24, [.slice none 0 0], false, [some E_23], [none], E_21⟩),
  (108, ⟨.st [(0, 3), (1, 3), (2, 3), (3, 73), (5, 3), (6, 3), (7, 3), (8, 3), (9, 3), (10, 4), (11, 40)], 12, 96, [.int .i64 0, .int .i64 0, .int .i64 0, .int .i64 0, .int .i64 0, .int .i64 0, .int .i64 0, .int .i64 0, .int .i64 0, .int .i64 0, .bool false, .int .i64 0], false, [none, none, none, none, none, none, none, none, none, none, none, none], [none, none, none, none, none, none, none, none, none, none, none, none], E_23⟩),
  (110, ⟨.sl 156, 1, 24, [.slice none 0 0], false, [some (.pair (.int .i64) (.pair (.int .i64) (.int .i64)))], [none], (.sl (.pair (.int .i64) (.pair (.int .i64) (.int .i64))))⟩),
  (111, ⟨.sl 159, 1, 24, [.slice none 0 0], false, [some (.pair (.pair (.int .i64) (.int .i64)) (.pair (.int .i64) (.pair .bool (.pair (.int .i64) (.int .i64)))))], [none], (.sl (.pair (.pair (.int .i64) (.int .i64)) (.pair (.int .i64) (.pair .bool (.pair (.int .i64) (.int .i64))))))⟩),
  (112, ⟨.sl 162, 1, 24, [.slice none 0 0], false, [some (.pair (.pair (.int .i64) (.int .i64)) (.int .i64))], [none], (.sl (.pair (.pair (.int .i64) (.int .i64)) (.int .i64)))⟩),
  (113, ⟨.sl 73, 1, 24, [.slice none 0 0], false, [some (.pair (.int .i64) (.int .i64))], [none], (.sl (.pair (.int .i64) (.int .i64)))⟩),
  (115, ⟨.st [(0, 110), (1, 111), (2, 112), (3, 113)], 4, 96, [.slice none 0 0, .slice none 0 0, .slice none 0 0, .slice none 0 0], false, [some (.pair (.int .i64) (.pair (.int .i64) (.int .i64))), some (.pair (.pair (.int .i64) (.int .i64)) (.pair (.int .i64) (.pair .bool (.pair (.int .i64) (.int .i64))))), some (.pair (.pair (.int .i64) (.int .i64)) (.int .i64)), some (.pair (.int .i64) (.int .i64))], [none, none, none, none], E_18⟩),
  (117, ⟨.sl 120, 1, 24, [.slice none 0 0], false, [some (.pair (.pair (.int .i64) (.int .i64)) (.pair .bool .bool))], [none], (.sl (.pair (.pair (.int .i64) (.int .i64)) (.pair .bool .bool)))⟩),
  (120, ⟨.st [(0, 73), (2, 4), (3, 4)], 4, 24, [.int .i64 0, .int .i64 0, .bool false, .bool false], false, [none, none, none, none], [none, none, none, none], (.pair (.pair (.int .i64) (.int .i64)) (.pair .bool .bool))⟩),
  (156, ⟨.st [(0, 3), (1, 3), (2, 3)], 3, 24, [.int .i64 0, .int .i64 0, .int .i64 0], false, [none, none, none], [none, none, none], (.pair (.int .i64) (.pair (.int .i64) (.int .i64)))⟩),
  (159, ⟨.st [(0, 73), (2, 3), (3, 4), (4, 3), (5, 3)], 6, 48, [.int .i64 0, .int .i64 0, .int .i64 0, .bool false, .int .i64 0, .int .i64 0], false, [none, none, none, none, none, none], [none, none, none, none, none, none], (.pair (.pair (.int .i64) (.int .i64)) (.pair (.int .i64) (.pair .bool (.pair (.int .i64) (.int .i64)))))⟩),
  (162, ⟨.st [(0, 73), (2, 3)], 3, 24, [.int .i64 0, .int .i64 0, .int .i64 0], false, [none, none, none], [none, none, none], (.pair (.pair (.int .i64) (.int .i64)) (.int .i64))⟩)]
theorem tysOk : TyOk Tryz.prog tys := tyOk_of fun e he => by
  simp only [tys, List.mem_cons, List.not_mem_nil, or_false] at he
  rcases he with rfl | rfl | rfl | rfl | rfl | rfl | rfl | rfl | rfl | rfl | rfl | rfl | rfl | rfl | rfl | rfl | rfl | rfl | rfl | rfl | rfl | rfl | rfl | rfl | rfl | rfl | rfl | rfl | rfl | rfl | rfl | rfl | rfl | rfl | rfl | rfl | rfl | rfl | rfl | rfl | rfl | rfl | rfl | rfl | rfl | rfl | rfl
  · exact ⟨by kernel_rfl, by kernel_rfl, fun h => nomatch h⟩
  · exact ⟨by kernel_rfl, by kernel_rfl, fun h => nomatch h⟩
  · exact ⟨by kernel_rfl, by kernel_rfl, fun h => nomatch h⟩
  · exact ⟨by kernel_rfl, by kernel_rfl, fun h => nomatch h⟩
  · exact ⟨by kernel_rfl, by kernel_rfl, fun h => nomatch h⟩
  · exact ⟨by kernel_rfl, by kernel_rfl, fun h => nomatch h⟩
  · exact ⟨by kernel_rfl, by kernel_rfl, fun h => nomatch h⟩
  · exact ⟨by kernel_rfl, by kernel_rfl, fun h => nomatch h⟩
  · exact ⟨by kernel_rfl, by kernel_rfl, fun h => nomatch h⟩
  · exact ⟨by kernel_rfl, by kernel_rfl, fun _ => ⟨by kernel_rfl, by kernel_rfl, by kernel_rfl⟩⟩
  · exact ⟨by kernel_rfl, by kernel_rfl, fun h => nomatch h⟩
  · exact ⟨by kernel_rfl, by kernel_rfl, fun h => nomatch h⟩
  · exact ⟨by kernel_rfl, by kernel_rfl, fun h => nomatch h⟩
  · exact ⟨by kernel_rfl, by kernel_rfl, fun h => nomatch h⟩
  · exact ⟨by kernel_rfl, by kernel_rfl, fun h => nomatch h⟩
  · exact ⟨by kernel_rfl, by kernel_rfl, fun h => nomatch h⟩
  · exact ⟨by kernel_rfl, by kernel_rfl, fun _ => ⟨by kernel_rfl, by kernel_rfl, by kernel_rfl⟩⟩
  · exact ⟨by kernel_rfl, by kernel_rfl, fun h => nomatch h⟩
  · exact ⟨by kernel_rfl, by kernel_rfl, fun h => nomatch h⟩
  · exact ⟨by kernel_rfl, by kernel_rfl, fun h => nomatch h⟩
  · exact ⟨by kernel_rfl, by kernel_rfl, fun h => nomatch h⟩
  · exact ⟨by kernel_rfl, by kernel_rfl, fun h => nomatch h⟩
  · exact ⟨by kernel_rfl, by kernel_rfl, fun h => nomatch h⟩
  · exact ⟨by kernel_rfl, by kernel_rfl, fun h => nomatch h⟩
  · exact ⟨by kernel_rfl, by kernel_rfl, fun h => nomatch h⟩
  · exact ⟨by kernel_rfl, by kernel_rfl, fun h => nomatch h⟩
  · exact ⟨by kernel_rfl, by kernel_rfl, fun h => nomatch h⟩
  · exact ⟨by kernel_rfl, by kernel_rfl, fun h => nomatch h⟩
  · exact ⟨by kernel_rfl, by kernel_rfl, fun h => nomatch h⟩
  · exact ⟨by kernel_rfl, by kernel_rfl, fun h => nomatch h⟩
  · exact ⟨by kernel_rfl, by kernel_rfl, fun h => nomatch h⟩
  · exact ⟨by kernel_rfl, by kernel_rfl, fun h => nomatch h⟩
  · exact ⟨by kernel_rfl, by kernel_rfl, fun h => nomatch h⟩
  · exact ⟨by kernel_rfl, by kernel_rfl, fun h => nomatch h⟩
  · exact ⟨by kernel_rfl, by kernel_rfl, fun h => nomatch h⟩
  · exact ⟨by kernel_rfl, by kernel_rfl, fun h => nomatch h⟩
  · exact ⟨by kernel_rfl, by kernel_rfl, fun h => nomatch h⟩
  · exact ⟨by kernel_rfl, by kernel_rfl, fun h => nomatch h⟩
  · exact ⟨by kernel_rfl, by kernel_rfl, fun h => nomatch h⟩
  · exact ⟨by kernel_rfl, by kernel_rfl, fun h => nomatch h⟩
  · exact ⟨by kernel_rfl, by kernel_rfl, fun h => nomatch h⟩
  · exact ⟨by kernel_rfl, by kernel_rfl, fun h => nomatch h⟩
  · exact ⟨by kernel_rfl, by kernel_rfl, fun h => nomatch h⟩
  · exact ⟨by kernel_rfl, by kernel_rfl, fun h => nomatch h⟩
  · exact ⟨by kernel_rfl, by kernel_rfl, fun h => nomatch h⟩
  · exact ⟨by kernel_rfl, by kernel_rfl, fun h => nomatch h⟩
  · exact ⟨by kernel_rfl, by kernel_rfl, fun h => nomatch h⟩
noncomputable def inls : List (Nat × Go.Func) := [(14, Tryz.f14), (37, Tryz.f37), (38, Tryz.f38), (60, Tryz.f60)]
theorem inlsOk : ∀ f fn, Go.V.look inls f = some fn → Tryz.prog.funcs[f]? = some fn ∧ (fn.name == "runtime.NumGoroutine") = false := inlOk_of fun e he => by
  simp only [inls, List.mem_cons, List.not_mem_nil, or_false] at he
  rcases he with rfl | rfl | rfl | rfl
  · exact ⟨Tryz.func14, by kernel_rfl⟩
  · exact ⟨Tryz.func37, by kernel_rfl⟩
  · exact ⟨Tryz.func38, by kernel_rfl⟩
  · exact ⟨Tryz.func60, by kernel_rfl⟩
noncomputable def cx : Ctx := ⟨Tryz.prog, tys, tysOk, [], 0, inls, inlsOk, by kernel_rfl⟩
/-! reredos/reredoskeep.picked -/
def sg8 : Sig := ⟨[⟨false, .bo, (.int .i64)⟩, ⟨false, .bo, (.int .i64)⟩], [⟨false, .own, (.int .i64)⟩]⟩
noncomputable def r8 (a : (Int × Int)) : Option Int :=
  Option.bind (
    bif decide (a.1 < (0 : Int)) then
      some (Go.IntKind.wrap .i64 (0 - (Go.IntKind.wrap .i64 (a.1 + (1 : Int)))))
    else
      some a.1) fun (d1 : Int) =>
    bif decide (a.2 = 0) then
      none
    else
      some (Int.tmod d1 a.2)
def an8 : Ann := .two (.leaf) (.two (.join [1] [] [⟨.normal, [], [.tmp 0 (.int .i64)]⟩] (.two (.leaf) (.two (.leaf) (.leaf)))) (.two (.leaf) (.leaf)))
theorem s8 : SoundF cx.P cx.G 8 sg8 r8 := by
  have e : denF cx [] an8 Tryz.f8.ntmps (Tryz.f8.body.getD .skip) Tryz.f8.results.toList sg8 = r8 := by kernel_rfl
  rw [← e]
  exact sound_of_den (c := cx) (Known.nil) Tryz.func8 (by kernel_rfl) (Nat.le_of_ble_eq_true (by kernel_rfl)) rfl
/-! reredos/reredoskeep.Lab -/
def sg9 : Sig := ⟨[⟨false, .bo, (.int .i64)⟩], [⟨true, .own, (.pair (.int .i64) (.int .i64))⟩]⟩
noncomputable def r9 (a : Int) : Option (Int × Int) :=
  Option.bind (r8 (a, (3 : Int))) fun (y1 : Int) =>
    Option.bind (r8 ((Go.IntKind.wrap .i64 (Int.tdiv a (3 : Int))), (4 : Int))) fun (y2 : Int) =>
      some (y1, y2)
def an9 : Ann := .two (.leaf) (.two (.leaf) (.leaf))
theorem s9 : SoundF cx.P cx.G 9 sg9 r9 := by
  have e : denF cx [(8, ⟨sg8, r8⟩)] an9 Tryz.f9.ntmps (Tryz.f9.body.getD .skip) Tryz.f9.results.toList sg9 = r9 := by kernel_rfl
  rw [← e]
  exact sound_of_den (c := cx) (Known.cons (.ofF s8 (by kernel_rfl)) Tryz.func8 (by kernel_rfl) (by kernel_rfl) (Known.nil)) Tryz.func9 (by kernel_rfl) (Nat.le_of_ble_eq_true (by kernel_rfl)) rfl
/-! reredos/reredoskeep.Config -/
noncomputable def r4_L0 (d30 : (Unit × (Int × T_9))) (y49 : (Int × Int)) (d50 : (Bool × Int)) : Option ((Bool × Int) ⊕ Bool) :=
  bif decide (d50.2 < (↑d30.2.2.2.1.length : Int)) then
    Option.bind (
      bif inB d50.2 d30.2.2.2.1.length then
        Option.bind (idxN d30.2.2.2.1 (Int.toNat d50.2)) fun (x53 : (Int × Int)) =>
          bif !(d50.1) then
            some (decide (x53.1 = y49.1) && (decide (x53.2 = y49.2) && true))
          else
            some true
      else
        none) fun (d54 : Bool) =>
      some (Sum.inl (d54, (Go.IntKind.wrap .i64 (d50.2 + (1 : Int)))))
  else
    some (Sum.inr d50.1)
noncomputable def r4_L1 (a : (Int × (List Int × Int))) (d30 : (Unit × (Int × T_9))) : Option ((Unit × (Int × T_9)) ⊕ (Unit × T_9)) :=
  Option.bind (
    bif decide (d30.2.1 < (↑a.2.1.length : Int)) then
      some (decide ((↑d30.2.2.2.1.length : Int) < (4 : Int)))
    else
      some false) fun (d31 : Bool) =>
    bif d31 then
      Option.bind (
        Option.bind (idxI a.2.1 d30.2.1) fun (b48 : Int) =>
          Option.bind (r9 b48) fun (y49 : (Int × Int)) =>
            Option.bind (loopR (r4_L0 d30 y49) (false, (0 : Int))) fun (q55 : Bool) =>
              bif !(q55) then
                bif roomOk false d30.2.2.2.1.length 1 16 then
                  some ((), (d30.2.2.1, (app d30.2.2.2.1 [y49], d30.2.2.2.2)))
                else
                  none
              else
                some ((), d30.2.2)) fun (d56 : (Unit × T_9)) =>
        some (Sum.inl ((), ((Go.IntKind.wrap .i64 (d30.2.1 + (1 : Int))), d56.2)))
    else
      some (Sum.inr ((), d30.2.2))
def sg4 : Sig := ⟨[⟨false, .bo, (.int .i64)⟩, ⟨false, .bo, (.sl (.int .i64))⟩, ⟨false, .bo, (.int .i64)⟩], [⟨true, .ro, (.pair (.int .i64) (.pair (.sl (.pair (.int .i64) (.int .i64))) (.int .i64)))⟩]⟩
noncomputable def r4 (a : (Int × (List Int × Int))) : Option T_9 :=
  Option.bind (r8 (a.1, (3 : Int))) fun (y1 : Int) =>
    Option.bind (r8 (a.2.2, (4 : Int))) fun (y2 : Int) =>
      Option.bind (loopR (r4_L1 a) ((), ((0 : Int), ((Go.IntKind.wrap .i64 ((1 : Int) + y1)), ([], (Go.IntKind.wrap .i64 ((1 : Int) + y2))))))) fun (q57 : (Unit × T_9)) =>
        Option.bind (
          bif decide ((↑q57.2.2.1.length : Int) = (0 : Int)) then
            some ((), (q57.2.1, ([((0 : Int), (0 : Int))], q57.2.2.2)))
          else
            some ((), q57.2)) fun (d58 : (Unit × T_9)) =>
          some d58.2
def an4 : Ann := .two (.leaf) (.two (.leaf) (.two (.two (.leaf) (.one (.loop [1, 6] [6] [] [.tmp 7 (.pt 7 [(0, 0)] 0 0 3), .tmp 8 (.int .i64), .box 7 [.int .i64, .sl .own (.pair (.int .i64) (.int .i64)), .int .i64]] [⟨.exit 0, [], [.tmp 7 (.pt 7 [(0, 0)] 0 0 3), .box 7 [.int .i64, .sl .own (.pair (.int .i64) (.int .i64)), .int .i64]]⟩] (.two (.two (.join [1, 6, 7, 8] [6, 7] [⟨.normal, [], [.tmp 29 (.bool)]⟩] (.leaf)) (.two (.leaf) (.leaf))) (.two (.join [1, 6, 8] [6] [⟨.normal, [], [.tmp 7 (.pt 7 [(0, 0)] 0 0 3), .box 7 [.int .i64, .sl .own (.pair (.int .i64) (.int .i64)), .int .i64]]⟩] (.one (.two (.leaf) (.two (.leaf) (.two (.two (.leaf) (.one (.loop [1, 6, 7, 8, 9, 38, 39] [6, 7, 9] [] [.tmp 10 (.bool), .tmp 40 (.int .i64)] [⟨.exit 2, [], [.tmp 10 (.bool)]⟩] (.two (.leaf) (.two (.two (.leaf) (.leaf)) (.two (.join [1, 6, 7, 8, 9, 38, 39, 40] [6, 7, 9] [⟨.normal, [], [.tmp 10 (.bool)]⟩] (.one (.two (.leaf) (.leaf)))) (.leaf))))))) (.two (.leaf) (.two (.leaf) (.leaf)))))))) (.leaf)))))) (.two (.join [6] [6] [⟨.normal, [], [.tmp 7 (.pt 7 [(0, 0)] 0 0 3), .box 7 [.int .i64, .sl .own (.pair (.int .i64) (.int .i64)), .int .i64]]⟩] (.two (.leaf) (.two (.leaf) (.leaf)))) (.two (.leaf) (.leaf)))))
theorem s4 : SoundF cx.P cx.G 4 sg4 r4 := by
  have e : denF cx [(8, ⟨sg8, r8⟩), (9, ⟨sg9, r9⟩)] an4 Tryz.f4.ntmps (Tryz.f4.body.getD .skip) Tryz.f4.results.toList sg4 = r4 := by kernel_rfl
  rw [← e]
  exact sound_of_den (c := cx) (Known.cons (.ofF s8 (by kernel_rfl)) Tryz.func8 (by kernel_rfl) (by kernel_rfl) (Known.cons (.ofF s9 (by kernel_rfl)) Tryz.func9 (by kernel_rfl) (by kernel_rfl) (Known.nil))) Tryz.func4 (by kernel_rfl) (Nat.le_of_ble_eq_true (by kernel_rfl)) rfl
/-! reredos/reredoskeep.ask -/
def sg10 : Sig := ⟨[⟨true, .bo, E_26⟩], [⟨true, .own, (.pair (.int .i64) (.pair (.int .i64) (.pair (.int .i64) (.pair (.int .i64) (.int .i64)))))⟩]⟩
noncomputable def r10 (a : (Int × T_8)) : Option T_8 :=
  Option.bind (r8 (a.1, (5 : Int))) fun (y1 : Int) =>
    Option.bind (
      bif !(decide ((Go.IntKind.wrap .i64 ((1 : Int) + y1)) = (1 : Int))) then
        Option.bind (r8 (a.2.1, (4 : Int))) fun (y4 : Int) =>
          some ((), ((Go.IntKind.wrap .i64 ((1 : Int) + y1)), ((Go.IntKind.wrap .i64 ((1 : Int) + y4)), ((0 : Int), ((0 : Int), (0 : Int))))))
      else
        some ((), ((Go.IntKind.wrap .i64 ((1 : Int) + y1)), ((0 : Int), ((0 : Int), ((0 : Int), (0 : Int))))))) fun (d5 : (Unit × T_8)) =>
      Option.bind (
        bif decide (d5.2.1 = (2 : Int)) then
          Option.bind (r8 (a.2.2.1, (3 : Int))) fun (y14 : Int) =>
            Option.bind (r8 (a.2.2.2.1, (4 : Int))) fun (y15 : Int) =>
              some ((), (d5.2.1, (d5.2.2.1, (y14, (y15, d5.2.2.2.2.2)))))
        else
          bif decide (d5.2.1 = (3 : Int)) then
            Option.bind (r8 (a.2.2.2.1, (4 : Int))) fun (y16 : Int) =>
              Option.bind (r8 (a.2.2.2.2.1, (99 : Int))) fun (y17 : Int) =>
                some ((), (d5.2.1, (d5.2.2.1, (d5.2.2.2.1, (y16, y17)))))
          else
            some ((), d5.2)) fun (d18 : (Unit × T_8)) =>
        some d18.2
def an10 : Ann := .two (.leaf) (.two (.leaf) (.two (.join [1, 2] [1, 2] [⟨.normal, [], [.tmp 3 (.pt 3 [(0, 0)] 0 0 5), .box 3 [.int .i64, .int .i64, .int .i64, .int .i64, .int .i64]]⟩] (.two (.leaf) (.two (.leaf) (.leaf)))) (.two (.join [2] [2] [⟨.normal, [], [.tmp 3 (.pt 3 [(0, 0)] 0 0 5), .box 3 [.int .i64, .int .i64, .int .i64, .int .i64, .int .i64]]⟩] (.two (.leaf) (.one (.two (.leaf) (.two (.two (.leaf) (.leaf)) (.two (.leaf) (.two (.two (.leaf) (.leaf)) (.leaf)))))))) (.two (.leaf) (.leaf)))))
theorem s10 : SoundF cx.P cx.G 10 sg10 r10 := by
  have e : denF cx [(8, ⟨sg8, r8⟩)] an10 Tryz.f10.ntmps (Tryz.f10.body.getD .skip) Tryz.f10.results.toList sg10 = r10 := by kernel_rfl
  rw [← e]
  exact sound_of_den (c := cx) (Known.cons (.ofF s8 (by kernel_rfl)) Tryz.func8 (by kernel_rfl) (by kernel_rfl) (Known.nil)) Tryz.func10 (by kernel_rfl) (Nat.le_of_ble_eq_true (by kernel_rfl)) rfl
/-! reredos/reredoskeep.dec -/
def sg19 : Sig := ⟨[⟨false, .bo, (.int .i64)⟩], [⟨false, .own, .str⟩]⟩
noncomputable def r19 : Nat → Int → Option (List UInt8)
  | 0 => fun _ => none
  | n + 1 => fun a =>
  bif decide (a < (10 : Int)) then
    some (List.map byte8 [(Go.IntKind.wrap .u8 (Go.IntKind.wrap .i64 ((48 : Int) + a)))])
  else
    Option.bind ((r19 n) (Go.IntKind.wrap .i64 (Int.tdiv a (10 : Int)))) fun (y2 : List UInt8) =>
      bif decide (y2.length + (List.map byte8 [(Go.IntKind.wrap .u8 (Go.IntKind.wrap .i64 ((48 : Int) + (Int.tmod a (10 : Int)))))]).length ≤ 9223372036854775807) then
        some (y2 ++ (List.map byte8 [(Go.IntKind.wrap .u8 (Go.IntKind.wrap .i64 ((48 : Int) + (Int.tmod a (10 : Int)))))]))
      else
        none
def an19 : Ann := .two (.leaf) (.two (.two (.leaf) (.two (.two (.leaf) (.leaf)) (.leaf))) (.two (.draw 9) (.leaf)))
theorem s19n : ∀ n, SoundF cx.P cx.G 19 sg19 (r19 n)
  | 0 => SoundF.none
  | n + 1 => by
    have e : denF cx [(19, ⟨sg19, r19 n⟩)] an19 Tryz.f19.ntmps (Tryz.f19.body.getD .skip) Tryz.f19.results.toList sg19 = r19 (n + 1) := by kernel_rfl
    rw [← e]
    exact sound_of_den (c := cx) (Known.cons (F := ⟨sg19, r19 n⟩) (.ofF (s19n n) (by kernel_rfl)) Tryz.func19 (by kernel_rfl) (by kernel_rfl) (Known.nil)) Tryz.func19 (by kernel_rfl) (Nat.le_of_ble_eq_true (by kernel_rfl)) rfl
noncomputable def R19 : Int → Option (List UInt8) := limR r19
theorem s19 : SoundF cx.P cx.G 19 sg19 R19 := SoundF.lim s19n
/-! reredos/reredoskeep.typed -/
def sg11 : Sig := ⟨[⟨true, .bo, E_26⟩, ⟨false, .bo, .bool⟩], [⟨false, .own, .str⟩]⟩
noncomputable def r11 (a : ((Int × T_8) × Bool)) : Option (List UInt8) :=
  Option.bind (r8 (a.1.2.1, (4 : Int))) fun (y7 : Int) =>
    Option.bind (R19 y7) fun (y8 : List UInt8) =>
      bif decide (y8.length + ([32] : List UInt8).length ≤ 9223372036854775807) then
        Option.bind (r8 (a.1.2.2.1, (3 : Int))) fun (y9 : Int) =>
          Option.bind (R19 y9) fun (y10 : List UInt8) =>
            bif decide ((y8 ++ ([32] : List UInt8)).length + y10.length ≤ 9223372036854775807) then
              bif decide (((y8 ++ ([32] : List UInt8)) ++ y10).length + ([32] : List UInt8).length ≤ 9223372036854775807) then
                Option.bind (r8 (a.1.2.2.2.1, (4 : Int))) fun (y11 : Int) =>
                  Option.bind (R19 (Go.IntKind.wrap .i64 ((1 : Int) + y11))) fun (y12 : List UInt8) =>
                    bif decide ((((y8 ++ ([32] : List UInt8)) ++ y10) ++ ([32] : List UInt8)).length + y12.length ≤ 9223372036854775807) then
                      Option.bind (r8 (a.1.2.2.2.2.1, (8 : Int))) fun (y13 : Int) =>
                        bif decide (y13 < (3 : Int)) then
                          some ([108, 105, 115, 116] : List UInt8)
                        else
                          bif decide (y13 < (5 : Int)) then
                            bif decide (([115, 116, 97, 116, 117, 115, 32] : List UInt8).length + ((((y8 ++ ([32] : List UInt8)) ++ y10) ++ ([32] : List UInt8)) ++ y12).length ≤ 9223372036854775807) then
                              some (([115, 116, 97, 116, 117, 115, 32] : List UInt8) ++ ((((y8 ++ ([32] : List UInt8)) ++ y10) ++ ([32] : List UInt8)) ++ y12))
                            else
                              none
                          else
                            bif decide (y13 = (5 : Int)) then
                              some ([97, 117, 100, 105, 116] : List UInt8)
                            else
                              Option.bind (
                                bif decide (y13 = (6 : Int)) then
                                  some a.2
                                else
                                  some false) fun (d14 : Bool) =>
                                bif d14 then
                                  bif decide (([102, 111, 114, 99, 101, 32] : List UInt8).length + ((((y8 ++ ([32] : List UInt8)) ++ y10) ++ ([32] : List UInt8)) ++ y12).length ≤ 9223372036854775807) then
                                    bif decide ((([102, 111, 114, 99, 101, 32] : List UInt8) ++ ((((y8 ++ ([32] : List UInt8)) ++ y10) ++ ([32] : List UInt8)) ++ y12)).length + ([32] : List UInt8).length ≤ 9223372036854775807) then
                                      Option.bind (r8 (a.1.2.2.2.2.2, (2 : Int))) fun (y15 : Int) =>
                                        bif inB y15 ([([99, 111, 109, 109, 105, 116] : List UInt8), ([97, 98, 111, 114, 116] : List UInt8)].length) then
                                          Option.bind (idxN [([99, 111, 109, 109, 105, 116] : List UInt8), ([97, 98, 111, 114, 116] : List UInt8)] (Int.toNat y15)) fun (x16 : List UInt8) =>
                                            bif decide (((([102, 111, 114, 99, 101, 32] : List UInt8) ++ ((((y8 ++ ([32] : List UInt8)) ++ y10) ++ ([32] : List UInt8)) ++ y12)) ++ ([32] : List UInt8)).length + x16.length ≤ 9223372036854775807) then
                                              some (((([102, 111, 114, 99, 101, 32] : List UInt8) ++ ((((y8 ++ ([32] : List UInt8)) ++ y10) ++ ([32] : List UInt8)) ++ y12)) ++ ([32] : List UInt8)) ++ x16)
                                            else
                                              none
                                        else
                                          none
                                    else
                                      none
                                  else
                                    none
                                else
                                  Option.bind (r8 (a.1.2.2.2.2.2, (6 : Int))) fun (y17 : Int) =>
                                    bif inB y17 ([([] : List UInt8), ([108, 105, 115, 116, 115] : List UInt8), ([115, 116, 97, 116, 117, 115, 32, 49, 32, 49] : List UInt8), ([102, 111, 114, 99, 101, 32, 48, 32, 48, 32, 49] : List UInt8), ([97, 117, 100, 105, 116, 32] : List UInt8), ([115, 116, 97, 116, 117, 115, 32, 48, 32, 48, 32, 48, 49] : List UInt8)].length) then
                                      Option.bind (idxN [([] : List UInt8), ([108, 105, 115, 116, 115] : List UInt8), ([115, 116, 97, 116, 117, 115, 32, 49, 32, 49] : List UInt8), ([102, 111, 114, 99, 101, 32, 48, 32, 48, 32, 49] : List UInt8), ([97, 117, 100, 105, 116, 32] : List UInt8), ([115, 116, 97, 116, 117, 115, 32, 48, 32, 48, 32, 48, 49] : List UInt8)] (Int.toNat y17)) fun (x18 : List UInt8) =>
                                        some x18
                                    else
                                      none
                    else
                      none
              else
                none
            else
              none
      else
        none
def an11 : Ann := .two (.leaf) (.two (.draw 16) (.two (.two (.leaf) (.one (.two (.leaf) (.two (.two (.leaf) (.leaf)) (.two (.leaf) (.two (.two (.leaf) (.leaf)) (.two (.leaf) (.two (.two (.leaf) (.leaf)) (.two (.join [2, 5] [2] [⟨.normal, [], [.tmp 38 (.bool)]⟩] (.leaf)) (.two (.two (.leaf) (.leaf)) (.leaf))))))))))) (.two (.leaf) (.leaf))))
theorem s11 : SoundF cx.P cx.G 11 sg11 r11 := by
  have e : denF cx [(8, ⟨sg8, r8⟩), (19, ⟨sg19, R19⟩)] an11 Tryz.f11.ntmps (Tryz.f11.body.getD .skip) Tryz.f11.results.toList sg11 = r11 := by kernel_rfl
  rw [← e]
  exact sound_of_den (c := cx) (Known.cons (.ofF s8 (by kernel_rfl)) Tryz.func8 (by kernel_rfl) (by kernel_rfl) (Known.cons (.ofF s19 (by kernel_rfl)) Tryz.func19 (by kernel_rfl) (by kernel_rfl) (Known.nil))) Tryz.func11 (by kernel_rfl) (Nat.le_of_ble_eq_true (by kernel_rfl)) rfl
/-! reredos/reredoskeep.Acts -/
noncomputable def r5_L0 (a : (T_9 × (List ((Int × T_8)) × (Int × Bool)))) (b281 : (Int × T_8)) (d326 : (Unit × (Int × (Int × (Int × (Int × (Int × (Int × (List Int × (Int × (Int × (Int × (Int × (Int × List UInt8)))))))))))))) : Option ((Unit × (Int × (Int × (Int × (Int × (Int × (Int × (List Int × (Int × (Int × (Int × (Int × (Int × List UInt8))))))))))))) ⊕ (Unit × (Int × (Int × (Int × (Int × (Int × (List Int × (Int × (Int × (Int × (Int × (Int × List UInt8))))))))))))) :=
  bif decide (d326.2.1 < (↑a.1.2.1.length : Int)) then
    bif decide ((Go.IntKind.wrap .i64 (d326.2.1 + (1 : Int))) = 0) then
      none
    else
      Option.bind (r8 ((Go.IntKind.wrap .i64 (Int.tdiv b281.2.2.2.2.1 (Go.IntKind.wrap .i64 (d326.2.1 + (1 : Int))))), (40 : Int))) fun (y328 : Int) =>
        bif roomOk false d326.2.2.2.2.2.2.2.1.length 1 8 then
          some (Sum.inl ((), ((Go.IntKind.wrap .i64 (d326.2.1 + (1 : Int))), (d326.2.2.1, (d326.2.2.2.1, (d326.2.2.2.2.1, (d326.2.2.2.2.2.1, (d326.2.2.2.2.2.2.1, (app d326.2.2.2.2.2.2.2.1 [y328], d326.2.2.2.2.2.2.2.2)))))))))
        else
          none
  else
    some (Sum.inr ((), d326.2.2))
noncomputable def r5_L1 (a : (T_9 × (List ((Int × T_8)) × (Int × Bool)))) (d169 : (Unit × (Int × List (T_7)))) : Option ((Unit × (Int × List (T_7))) ⊕ T_6) :=
  Option.bind (
    bif decide (d169.2.1 < (↑a.2.1.length : Int)) then
      some (decide ((↑d169.2.2.length : Int) < a.2.2.1))
    else
      some false) fun (d170 : Bool) =>
    bif d170 then
      Option.bind (
        Option.bind (idxI a.2.1 d169.2.1) fun (b281 : (Int × T_8)) =>
          Option.bind (r8 ((Go.IntKind.wrap .i64 (Int.tdiv b281.2.1 (31 : Int))), a.1.1)) fun (y284 : Int) =>
            Option.bind (r8 ((Go.IntKind.wrap .i64 (Int.tdiv b281.2.2.1 (31 : Int))), (↑a.1.2.1.length : Int))) fun (y285 : Int) =>
              Option.bind (
                Option.bind (r8 (b281.1, (20 : Int))) fun (y316 : Int) =>
                  bif decide (y316 < (8 : Int)) then
                    Option.bind (r10 ((Go.IntKind.wrap .i64 (Int.tdiv b281.2.2.2.1 (9 : Int))), (b281.2.1, (b281.2.2.1, (b281.2.2.2.1, (b281.2.2.2.2.1, (0 : Int))))))) fun (y317 : T_8) =>
                      some ((), ((1 : Int), (y284, ((0 : Int), (y285, ((0 : Int), ([], (y317.1, (y317.2.1, (y317.2.2.1, (y317.2.2.2.1, (y317.2.2.2.2, ([] : List UInt8)))))))))))))
                  else
                    bif decide (y316 < (15 : Int)) then
                      Option.bind (r8 (b281.2.2.2.1, a.1.1)) fun (y318 : Int) =>
                        Option.bind (r8 (b281.2.2.2.2.1, (3 : Int))) fun (y319 : Int) =>
                          some ((), ((2 : Int), (y284, (y318, (y285, (y319, ([], ((0 : Int), ((0 : Int), ((0 : Int), ((0 : Int), ((0 : Int), ([] : List UInt8)))))))))))))
                    else
                      bif decide (y316 = (15 : Int)) then
                        Option.bind (r8 (b281.2.2.2.2.2, (2 : Int))) fun (y320 : Int) =>
                          Option.bind (r8 (b281.2.2.2.1, a.1.1)) fun (y321 : Int) =>
                            Option.bind (r8 (b281.2.2.2.2.1, (3 : Int))) fun (y322 : Int) =>
                              some ((), ((Go.IntKind.wrap .i64 ((4 : Int) - y320)), (y284, (y321, (y285, (y322, ([], ((0 : Int), ((0 : Int), ((0 : Int), ((0 : Int), ((0 : Int), ([] : List UInt8)))))))))))))
                      else
                        bif decide (y316 = (16 : Int)) then
                          some ((), ((5 : Int), ((0 : Int), ((0 : Int), ((0 : Int), ((0 : Int), ([], ((0 : Int), ((0 : Int), ((0 : Int), ((0 : Int), ((0 : Int), ([] : List UInt8)))))))))))))
                        else
                          bif decide (y316 = (17 : Int)) then
                            Option.bind (loopR (r5_L0 a b281) ((), ((0 : Int), ((6 : Int), (y284, ((0 : Int), ((0 : Int), ((0 : Int), ([], ((0 : Int), ((0 : Int), ((0 : Int), ((0 : Int), ((0 : Int), ([] : List UInt8))))))))))))))) fun (q329 : (Unit × (Int × (Int × (Int × (Int × (Int × (List Int × (Int × (Int × (Int × (Int × (Int × List UInt8))))))))))))) =>
                              some ((), q329.2)
                          else
                            bif decide (y316 = (18 : Int)) then
                              some ((), ((7 : Int), (y284, ((0 : Int), ((0 : Int), ((0 : Int), ([], ((0 : Int), ((0 : Int), ((0 : Int), ((0 : Int), ((0 : Int), ([] : List UInt8)))))))))))))
                            else
                              Option.bind (r11 (b281, a.2.2.2)) fun (y330 : List UInt8) =>
                                some ((), ((8 : Int), (y284, ((0 : Int), (y285, ((0 : Int), ([], ((0 : Int), ((0 : Int), ((0 : Int), ((0 : Int), ((0 : Int), y330))))))))))))) fun (d331 : (Unit × (Int × (Int × (Int × (Int × (Int × (List Int × (Int × (Int × (Int × (Int × (Int × List UInt8))))))))))))) =>
                bif roomOk false d169.2.2.length 1 120 then
                  Option.bind (
                    bif decide (d331.2.1 = (1 : Int)) then
                      Option.bind (r8 (b281.2.2.2.2.2, (4 : Int))) fun (y334 : Int) =>
                        some (decide ((0 : Int) < y334))
                    else
                      some false) fun (d335 : Bool) =>
                    bif d335 then
                      bif decide (a.1.1 = 0) then
                        none
                      else
                        bif roomOk false ((app d169.2.2 [(d331.2.1, (d331.2.2.1, (d331.2.2.2.1, (d331.2.2.2.2.1, (d331.2.2.2.2.2.1, (d331.2.2.2.2.2.2.1, ((d331.2.2.2.2.2.2.2.1, (d331.2.2.2.2.2.2.2.2.1, (d331.2.2.2.2.2.2.2.2.2.1, (d331.2.2.2.2.2.2.2.2.2.2.1, d331.2.2.2.2.2.2.2.2.2.2.2.1)))), d331.2.2.2.2.2.2.2.2.2.2.2.2)))))))]).length) 2 120 then
                          some ((), app (app d169.2.2 [(d331.2.1, (d331.2.2.1, (d331.2.2.2.1, (d331.2.2.2.2.1, (d331.2.2.2.2.2.1, (d331.2.2.2.2.2.2.1, ((d331.2.2.2.2.2.2.2.1, (d331.2.2.2.2.2.2.2.2.1, (d331.2.2.2.2.2.2.2.2.2.1, (d331.2.2.2.2.2.2.2.2.2.2.1, d331.2.2.2.2.2.2.2.2.2.2.2.1)))), d331.2.2.2.2.2.2.2.2.2.2.2.2)))))))]) [((2 : Int), (d331.2.2.1, ((Int.tmod d331.2.2.2.2.2.2.2.2.2.2.1 a.1.1), (d331.2.2.2.2.1, ((0 : Int), ([], (((0 : Int), ((0 : Int), ((0 : Int), ((0 : Int), (0 : Int))))), ([] : List UInt8)))))))), ((2 : Int), ((Int.tmod d331.2.2.2.2.2.2.2.2.2.2.1 a.1.1), (d331.2.2.1, (d331.2.2.2.2.1, ((0 : Int), ([], (((0 : Int), ((0 : Int), ((0 : Int), ((0 : Int), (0 : Int))))), ([] : List UInt8))))))))])
                        else
                          none
                    else
                      some ((), app d169.2.2 [(d331.2.1, (d331.2.2.1, (d331.2.2.2.1, (d331.2.2.2.2.1, (d331.2.2.2.2.2.1, (d331.2.2.2.2.2.2.1, ((d331.2.2.2.2.2.2.2.1, (d331.2.2.2.2.2.2.2.2.1, (d331.2.2.2.2.2.2.2.2.2.1, (d331.2.2.2.2.2.2.2.2.2.2.1, d331.2.2.2.2.2.2.2.2.2.2.2.1)))), d331.2.2.2.2.2.2.2.2.2.2.2.2)))))))])
                else
                  none) fun (d336 : T_6) =>
        some (Sum.inl ((), ((Go.IntKind.wrap .i64 (d169.2.1 + (1 : Int))), d336.2)))
    else
      some (Sum.inr ((), d169.2.2))
def sg5 : Sig := ⟨[⟨true, .bo, (.pair (.int .i64) (.pair (.sl (.pair (.int .i64) (.int .i64))) (.int .i64)))⟩, ⟨false, .bo, (.sl E_26)⟩, ⟨false, .bo, (.int .i64)⟩, ⟨false, .bo, .bool⟩], [⟨false, .own, E_19⟩]⟩
noncomputable def r5 (a : (T_9 × (List ((Int × T_8)) × (Int × Bool)))) : Option (List (T_7)) :=
  Option.bind (loopR (r5_L1 a) ((), ((0 : Int), []))) fun (q337 : T_6) =>
    some q337.2
def an5 : Ann := .two (.leaf) (.two (.leaf) (.two (.two (.leaf) (.one (.loop [1, 2, 3, 4] [4] [(9, E_20)] [.tmp 9 (.own 9 [(0, 0)] E_20), .tmp 10 (.int .i64), .row 9 [.sl .own E_20]] [⟨.exit 0, [], [.tmp 9 (.own 9 [(0, 0)] E_20), .row 9 [.sl .own E_20]]⟩] (.two (.two (.join [1, 2, 3, 4, 9, 10] [4, 9] [⟨.normal, [], [.tmp 25 (.bool)]⟩] (.leaf)) (.two (.leaf) (.leaf))) (.two (.join [1, 2, 3, 4, 10] [4] [⟨.normal, [(9, E_20)], [.tmp 9 (.own 9 [(0, 0)] E_20), .row 9 [.sl .own E_20]]⟩] (.one (.two (.leaf) (.two (.draw 15) (.two (.join [1, 2, 3, 4, 9, 10, 11] [4, 9, 11] [⟨.normal, [], [.tmp 12 (.pt 12 [(0, 0)] 0 0 12), .box 12 [.int .i64, .int .i64, .int .i64, .int .i64, .int .i64, .sl .own (.int .i64), .int .i64, .int .i64, .int .i64, .int .i64, .int .i64, .str]]⟩] (.two (.leaf) (.one (.two (.leaf) (.two (.two (.leaf) (.leaf)) (.two (.leaf) (.two (.two (.leaf) (.two (.leaf) (.leaf))) (.two (.leaf) (.two (.two (.leaf) (.two (.leaf) (.leaf))) (.two (.leaf) (.two (.leaf) (.two (.leaf) (.two (.two (.leaf) (.two (.leaf) (.one (.loop [1, 2, 3, 4, 9, 10, 11] [4, 9, 11] [] [.tmp 12 (.pt 12 [(0, 0)] 0 0 12), .tmp 14 (.int .i64), .box 12 [.int .i64, .int .i64, .int .i64, .int .i64, .int .i64, .sl .own (.int .i64), .int .i64, .int .i64, .int .i64, .int .i64, .int .i64, .str]] [⟨.exit 3, [], [.tmp 12 (.pt 12 [(0, 0)] 0 0 12), .box 12 [.int .i64, .int .i64, .int .i64, .int .i64, .int .i64, .sl .own (.int .i64), .int .i64, .int .i64, .int .i64, .int .i64, .int .i64, .str]]⟩] (.two (.two (.leaf) (.two (.leaf) (.leaf))) (.two (.one (.draw 9)) (.leaf))))))) (.two (.leaf) (.two (.leaf) (.two (.leaf) (.leaf))))))))))))))))) (.two (.leaf) (.two (.join [1, 2, 3, 4, 9, 10, 12] [4, 12, 141] [⟨.normal, [], [.tmp 150 (.bool)]⟩] (.leaf)) (.two (.two (.leaf) (.leaf)) (.leaf))))))))) (.leaf)))))) (.two (.leaf) (.leaf))))
theorem s5 : SoundF cx.P cx.G 5 sg5 r5 := by
  have e : denF cx [(8, ⟨sg8, r8⟩), (10, ⟨sg10, r10⟩), (11, ⟨sg11, r11⟩)] an5 Tryz.f5.ntmps (Tryz.f5.body.getD .skip) Tryz.f5.results.toList sg5 = r5 := by kernel_rfl
  rw [← e]
  exact sound_of_den (c := cx) (Known.cons (.ofF s8 (by kernel_rfl)) Tryz.func8 (by kernel_rfl) (by kernel_rfl) (Known.cons (.ofF s10 (by kernel_rfl)) Tryz.func10 (by kernel_rfl) (by kernel_rfl) (Known.cons (.ofF s11 (by kernel_rfl)) Tryz.func11 (by kernel_rfl) (by kernel_rfl) (Known.nil)))) Tryz.func5 (by kernel_rfl) (Nat.le_of_ble_eq_true (by kernel_rfl)) rfl
/-! reredos/reredoskeep.Picked -/
def sg6 : Sig := ⟨[⟨false, .bo, (.int .i64)⟩, ⟨false, .bo, (.int .i64)⟩], [⟨false, .own, (.int .i64)⟩]⟩
noncomputable def r6 (a : (Int × Int)) : Option Int :=
  Option.bind (r8 (a.1, a.2)) fun (y1 : Int) =>
    some y1
def an6 : Ann := .two (.leaf) (.two (.leaf) (.leaf))
theorem s6 : SoundF cx.P cx.G 6 sg6 r6 := by
  have e : denF cx [(8, ⟨sg8, r8⟩)] an6 Tryz.f6.ntmps (Tryz.f6.body.getD .skip) Tryz.f6.results.toList sg6 = r6 := by kernel_rfl
  rw [← e]
  exact sound_of_den (c := cx) (Known.cons (.ofF s8 (by kernel_rfl)) Tryz.func8 (by kernel_rfl) (by kernel_rfl) (Known.nil)) Tryz.func6 (by kernel_rfl) (Nat.le_of_ble_eq_true (by kernel_rfl)) rfl
/-! reredos/label.one -/
def sg20 : Sig := ⟨[⟨true, .bo, (.pair (.int .i64) (.int .i64))⟩], [⟨false, .own, .bool⟩]⟩
noncomputable def r20 (a : (Int × Int)) : Option Bool :=
  Option.bind (
    bif decide ((0 : Int) ≤ a.1) then
      some (decide (a.1 ≤ (9 : Int)))
    else
      some false) fun (g1 : Bool) =>
    Option.bind (
      bif g1 then
        some (decide ((0 : Int) ≤ a.2))
      else
        some false) fun (g2 : Bool) =>
      bif g2 then
        some (decide (a.2 ≤ (15 : Int)))
      else
        some false
def an20 : Ann := .two (.leaf) (.two (.segs [(8, ([1], ([1], [.tmp 10 (.bool)]))), (5, ([1], ([1], [.tmp 15 (.bool)])))]) (.leaf))
theorem s20 : SoundF cx.P cx.G 20 sg20 r20 := by
  have e : denF cx [] an20 Tryz.f20.ntmps (Tryz.f20.body.getD .skip) Tryz.f20.results.toList sg20 = r20 := by kernel_rfl
  rw [← e]
  exact sound_of_den (c := cx) (Known.nil) Tryz.func20 (by kernel_rfl) (Nat.le_of_ble_eq_true (by kernel_rfl)) rfl
/-! reredos/label.Check -/
noncomputable def r12_L0 (d3 : Int) (a : T_9) (b4 : (Int × Int)) (d6 : Int) : Option (Int ⊕ (Unit ⊕ Int)) :=
  bif decide (d6 < (↑((List.take (Int.toNat d3) a.2.1).length) : Int)) then
    Option.bind (idxI (List.take (Int.toNat d3) a.2.1) d6) fun (b7 : (Int × Int)) =>
      bif (decide (b7.1 = b4.1) && (decide (b7.2 = b4.2) && true)) then
        some (Sum.inr (Sum.inr (7 : Int)))
      else
        some (Sum.inl (Go.IntKind.wrap .i64 (d6 + (1 : Int))))
  else
    some (Sum.inr (Sum.inl ()))
noncomputable def r12_L1 (a : T_9) (d3 : Int) : Option (Int ⊕ (Unit ⊕ Int)) :=
  bif decide (d3 < (↑a.2.1.length : Int)) then
    Option.bind (idxI a.2.1 d3) fun (b4 : (Int × Int)) =>
      Option.bind (r20 b4) fun (y5 : Bool) =>
        bif !(y5) then
          some (Sum.inr (Sum.inr (2 : Int)))
        else
          bif okB none (some d3) none a.2.1.length then
            Option.bind (loopR (r12_L0 d3 a b4) (0 : Int)) fun (q8 : (Unit ⊕ Int)) =>
              Sum.elim (fun (v9 : Unit) =>
                  some (Sum.inl (Go.IntKind.wrap .i64 (d3 + (1 : Int)))))
                (fun (v10 : Int) =>
                  some (Sum.inr (Sum.inr v10))) q8
          else
            none
  else
    some (Sum.inr (Sum.inl ()))
def sg12 : Sig := ⟨[⟨true, .bo, (.pair (.int .i64) (.pair (.sl (.pair (.int .i64) (.int .i64))) (.int .i64)))⟩], [⟨false, .own, (.int .i64)⟩]⟩
noncomputable def r12 (a : T_9) : Option Int :=
  Option.bind (
    bif !(decide (a.1 < (1 : Int))) then
      some (decide ((4 : Int) < a.1))
    else
      some true) fun (d1 : Bool) =>
    bif d1 then
      some (2 : Int)
    else
      Option.bind (
        bif !(decide ((↑a.2.1.length : Int) < (1 : Int))) then
          some (decide ((6 : Int) < (↑a.2.1.length : Int)))
        else
          some true) fun (d2 : Bool) =>
        bif d2 then
          some (1 : Int)
        else
          Option.bind (loopR (r12_L1 a) (0 : Int)) fun (q11 : (Unit ⊕ Int)) =>
            Sum.elim (fun (v12 : Unit) =>
                Option.bind (
                  bif !(decide (a.2.2 < (1 : Int))) then
                    some (decide ((1048576 : Int) < a.2.2))
                  else
                    some true) fun (d14 : Bool) =>
                  bif d14 then
                    some (2 : Int)
                  else
                    some (0 : Int))
              (fun (v13 : Int) =>
                some v13) q11
def an12 : Ann := .two (.leaf) (.two (.two (.join [1] [1] [⟨.normal, [], [.tmp 14 (.bool)]⟩] (.leaf)) (.two (.two (.leaf) (.leaf)) (.leaf))) (.two (.two (.join [1] [1] [⟨.normal, [], [.tmp 24 (.bool)]⟩] (.leaf)) (.two (.two (.leaf) (.leaf)) (.leaf))) (.two (.two (.leaf) (.one (.loop [1, 26, 27] [1] [] [.tmp 28 (.int .i64)] [⟨.exit 0, [], []⟩, ⟨.ret, [], [.tmp 2 (.int .i64)]⟩] (.two (.leaf) (.two (.two (.leaf) (.leaf)) (.two (.one (.two (.leaf) (.two (.two (.leaf) (.two (.two (.leaf) (.leaf)) (.leaf))) (.two (.leaf) (.one (.loop [1, 4, 26, 27, 28, 39, 40] [1, 4] [] [.tmp 41 (.int .i64)] [⟨.exit 2, [], []⟩, ⟨.ret, [], [.tmp 2 (.int .i64)]⟩] (.two (.leaf) (.two (.two (.leaf) (.leaf)) (.two (.one (.two (.leaf) (.two (.leaf) (.two (.two (.leaf) (.leaf)) (.leaf))))) (.leaf)))))))))) (.leaf))))))) (.two (.two (.join [] [] [⟨.normal, [], [.tmp 57 (.bool)]⟩] (.leaf)) (.two (.two (.leaf) (.leaf)) (.leaf))) (.two (.leaf) (.leaf))))))
theorem s12 : SoundF cx.P cx.G 12 sg12 r12 := by
  have e : denF cx [(20, ⟨sg20, r20⟩)] an12 Tryz.f12.ntmps (Tryz.f12.body.getD .skip) Tryz.f12.results.toList sg12 = r12 := by kernel_rfl
  rw [← e]
  exact sound_of_den (c := cx) (Known.cons (.ofF s20 (by kernel_rfl)) Tryz.func20 (by kernel_rfl) (by kernel_rfl) (Known.nil)) Tryz.func12 (by kernel_rfl) (Nat.le_of_ble_eq_true (by kernel_rfl)) rfl
/-! reredos/lines.numbers -/
noncomputable def r21_L0 (a : (T_9 × T_7)) (d38 : Int) : Option (Int ⊕ (Unit ⊕ Int)) :=
  bif decide (d38 < (↑a.2.2.2.2.2.2.1.length : Int)) then
    Option.bind (idxI a.2.2.2.2.2.2.1 d38) fun (b39 : Int) =>
      Option.bind (
        bif !(decide (b39 < (0 : Int))) then
          some (decide ((6000 : Int) < b39))
        else
          some true) fun (d40 : Bool) =>
        bif d40 then
          some (Sum.inr (Sum.inr d38))
        else
          some (Sum.inl (Go.IntKind.wrap .i64 (d38 + (1 : Int))))
  else
    some (Sum.inr (Sum.inl ()))
def sg21 : Sig := ⟨[⟨true, .bo, (.pair (.int .i64) (.pair (.sl (.pair (.int .i64) (.int .i64))) (.int .i64)))⟩, ⟨true, .bo, E_22⟩], [⟨false, .own, .bool⟩]⟩
noncomputable def r21 (a : (T_9 × T_7)) : Option Bool :=
  Option.bind (
    Option.bind (
      bif !(decide (a.2.2.1 < (0 : Int))) then
        some (decide (a.1.1 ≤ a.2.2.1))
      else
        some true) fun (g17 : Bool) =>
      Option.bind (
        bif !(g17) then
          some (decide (a.2.2.2.1 < (0 : Int)))
        else
          some true) fun (g18 : Bool) =>
        Option.bind (
          bif !(g18) then
            some (decide (a.1.1 ≤ a.2.2.2.1))
          else
            some true) fun (g19 : Bool) =>
          Option.bind (
            bif !(g19) then
              some (decide (a.2.2.2.2.1 < (0 : Int)))
            else
              some true) fun (g20 : Bool) =>
            Option.bind (
              bif !(g20) then
                some (decide ((↑a.1.2.1.length : Int) ≤ a.2.2.2.2.1))
              else
                some true) fun (g21 : Bool) =>
              Option.bind (
                bif !(g21) then
                  some (decide (a.2.2.2.2.2.1 < (0 : Int)))
                else
                  some true) fun (g22 : Bool) =>
                Option.bind (
                  bif !(g22) then
                    some (decide ((1048576 : Int) < a.2.2.2.2.2.1))
                  else
                    some true) fun (g23 : Bool) =>
                  Option.bind (
                    bif !(g23) then
                      some (decide ((↑a.1.2.1.length : Int) < (↑a.2.2.2.2.2.2.1.length : Int)))
                    else
                      some true) fun (g24 : Bool) =>
                    bif !(g24) then
                      some (decide ((60 : Int) < (↑a.2.2.2.2.2.2.2.2.length : Int)))
                    else
                      some true) fun (d25 : Bool) =>
    bif d25 then
      some false
    else
      Option.bind (
        Option.bind (loopR (r21_L0 a) (0 : Int)) fun (q41 : (Unit ⊕ Int)) =>
          Sum.elim (fun (v42 : Unit) =>
              some (-1 : Int))
            (fun (v43 : Int) =>
              some v43) q41) fun (d44 : Int) =>
        some (!(decide ((0 : Int) ≤ d44)))
def an21 : Ann := .two (.leaf) (.two (.two (.join [3] [3] [⟨.normal, [], [.tmp 64 (.bool)]⟩] (.segs [(10, ([2, 3], ([2, 3], [.tmp 14 (.bool)]))), (5, ([2, 3], ([2, 3], [.tmp 19 (.bool)]))), (7, ([2, 3], ([2, 3], [.tmp 26 (.bool)]))), (5, ([2, 3], ([2, 3], [.tmp 31 (.bool)]))), (8, ([2, 3], ([2, 3], [.tmp 39 (.bool)]))), (5, ([2, 3], ([2, 3], [.tmp 44 (.bool)]))), (5, ([2, 3], ([2, 3], [.tmp 49 (.bool)]))), (9, ([3], ([3], [.tmp 58 (.bool)])))])) (.two (.two (.leaf) (.leaf)) (.leaf))) (.two (.inl 2 69 (.two (.leaf) (.two (.inl 2 78 (.join [] [] [⟨.ret, [], [.tmp 82 (.int .i64)]⟩] (.two (.leaf) (.two (.two (.leaf) (.one (.loop [78, 79, 85] [] [] [.tmp 86 (.int .i64)] [⟨.exit 0, [], []⟩, ⟨.ret, [], [.tmp 82 (.int .i64)]⟩] (.two (.leaf) (.two (.two (.leaf) (.leaf)) (.two (.one (.two (.leaf) (.two (.inl 5 97 (.join [78, 79, 83, 85, 86] [] [⟨.ret, [], [.tmp 99 (.bool)]⟩] (.two (.leaf) (.two (.leaf) (.leaf)))) (.leaf)) (.two (.two (.leaf) (.leaf)) (.leaf))))) (.leaf))))))) (.two (.leaf) (.leaf))))) (.leaf)) (.leaf))) (.leaf)) (.leaf)))
theorem s21 : SoundF cx.P cx.G 21 sg21 r21 := by
  have e : denF cx [] an21 Tryz.f21.ntmps (Tryz.f21.body.getD .skip) Tryz.f21.results.toList sg21 = r21 := by kernel_rfl
  rw [← e]
  exact sound_of_den (c := cx) (Known.nil) Tryz.func21 (by kernel_rfl) (Nat.le_of_ble_eq_true (by kernel_rfl)) rfl
/-! reredos/lines.bare -/
def sg22 : Sig := ⟨[⟨true, .bo, E_22⟩], [⟨false, .own, .bool⟩]⟩
noncomputable def r22 (a : T_7) : Option Bool :=
  Option.bind (
    Option.bind (
      bif !(decide (a.1 = (2 : Int))) then
        some (decide (a.1 = (3 : Int)))
      else
        some true) fun (g3 : Bool) =>
      bif !(g3) then
        some (decide (a.1 = (4 : Int)))
      else
        some true) fun (d4 : Bool) =>
    Option.bind (
      bif !(d4) then
        some (!(decide (a.1 = (5 : Int))))
      else
        some true) fun (d5 : Bool) =>
      Option.bind (
        Option.bind (
          bif !(d4) then
            some (decide (a.1 = (1 : Int)))
          else
            some true) fun (g8 : Bool) =>
          bif !(g8) then
            some (decide (a.1 = (8 : Int)))
          else
            some true) fun (d9 : Bool) =>
        Option.bind (
          bif !(d5) then
            some (decide (a.2.1 = (0 : Int)))
          else
            some true) fun (g10 : Bool) =>
          Option.bind (
            bif g10 then
              bif !(d9) then
                some (decide (a.2.2.2.1 = (0 : Int)))
              else
                some true
            else
              some false) fun (g11 : Bool) =>
            Option.bind (
              bif g11 then
                bif !(d4) then
                  bif decide (a.2.2.1 = (0 : Int)) then
                    some (decide (a.2.2.2.2.1 = (0 : Int)))
                  else
                    some false
                else
                  some true
              else
                some false) fun (g12 : Bool) =>
              Option.bind (
                bif g12 then
                  bif !(decide (a.1 = (6 : Int))) then
                    some (decide ((↑a.2.2.2.2.2.1.length : Int) = (0 : Int)))
                  else
                    some true
                else
                  some false) fun (g13 : Bool) =>
                Option.bind (
                  bif g13 then
                    bif !(decide (a.1 = (1 : Int))) then
                      some (decide (a.2.2.2.2.2.2.1.1 = (0 : Int)) && (decide (a.2.2.2.2.2.2.1.2.1 = (0 : Int)) && (decide (a.2.2.2.2.2.2.1.2.2.1 = (0 : Int)) && (decide (a.2.2.2.2.2.2.1.2.2.2.1 = (0 : Int)) && (decide (a.2.2.2.2.2.2.1.2.2.2.2 = (0 : Int)) && true)))))
                    else
                      some true
                  else
                    some false) fun (g14 : Bool) =>
                  bif g14 then
                    bif !(decide (a.1 = (8 : Int))) then
                      some (decide (a.2.2.2.2.2.2.2 = ([] : List UInt8)))
                    else
                      some true
                  else
                    some false
def an22 : Ann := .two (.leaf) (.two (.join [1] [1] [⟨.normal, [], [.tmp 3 (.bool)]⟩] (.segs [(8, ([1], ([1], [.tmp 13 (.bool)])))])) (.two (.join [1, 3] [1] [⟨.normal, [], [.tmp 4 (.bool)]⟩] (.leaf)) (.two (.join [1, 3, 4] [1] [⟨.normal, [], [.tmp 5 (.bool)]⟩] (.segs [(6, ([1, 3, 4], ([1], [.tmp 30 (.bool)])))])) (.two (.segs [(6, ([1, 3, 5], ([1], [.tmp 41 (.bool)]))), (8, ([1, 3], ([1], [.tmp 49 (.bool)]))), (13, ([1], ([1], [.tmp 62 (.bool)]))), (11, ([1], ([1], [.tmp 73 (.bool)]))), (11, ([1], ([1], [.tmp 84 (.bool)])))]) (.leaf)))))
theorem s22 : SoundF cx.P cx.G 22 sg22 r22 := by
  have e : denF cx [] an22 Tryz.f22.ntmps (Tryz.f22.body.getD .skip) Tryz.f22.results.toList sg22 = r22 := by kernel_rfl
  rw [← e]
  exact sound_of_den (c := cx) (Known.nil) Tryz.func22 (by kernel_rfl) (Nat.le_of_ble_eq_true (by kernel_rfl)) rfl
/-! reredos/lines.call -/
def sg23 : Sig := ⟨[⟨true, .bo, (.pair (.int .i64) (.pair (.int .i64) (.pair (.int .i64) (.pair (.int .i64) (.int .i64)))))⟩], [⟨false, .own, (.int .i64)⟩]⟩
noncomputable def r23 (a : T_8) : Option Int :=
  Option.bind (
    bif !(decide (a.1 < (1 : Int))) then
      some (decide ((5 : Int) < a.1))
    else
      some true) fun (d1 : Bool) =>
    bif d1 then
      some (3 : Int)
    else
      Option.bind (
        Option.bind (
          bif !(decide (a.2.1 < (0 : Int))) then
            some (decide ((1048576 : Int) < a.2.1))
          else
            some true) fun (g14 : Bool) =>
          Option.bind (
            bif !(g14) then
              some (decide (a.2.2.1 < (0 : Int)))
            else
              some true) fun (g15 : Bool) =>
            Option.bind (
              bif !(g15) then
                some (decide ((6 : Int) ≤ a.2.2.1))
              else
                some true) fun (g16 : Bool) =>
              Option.bind (
                bif !(g16) then
                  some (decide (a.2.2.2.1 < (0 : Int)))
                else
                  some true) fun (g17 : Bool) =>
                Option.bind (
                  bif !(g17) then
                    some (decide ((8 : Int) < a.2.2.2.1))
                  else
                    some true) fun (g18 : Bool) =>
                  Option.bind (
                    bif !(g18) then
                      some (decide (a.2.2.2.2 < (0 : Int)))
                    else
                      some true) fun (g19 : Bool) =>
                    bif !(g19) then
                      some (decide ((1073741824 : Int) < a.2.2.2.2))
                    else
                      some true) fun (d20 : Bool) =>
        bif d20 then
          some (2 : Int)
        else
          Option.bind (
            bif !(decide (a.1 = (1 : Int))) then
              some ((), (a.1, (a.2.1, ((0 : Int), ((0 : Int), (0 : Int))))))
            else
              some ((), (a.1, ((0 : Int), ((0 : Int), ((0 : Int), (0 : Int))))))) fun (d21 : (Unit × T_8)) =>
            Option.bind (
              bif decide (a.1 = (2 : Int)) then
                Option.bind (
                  
                    some ((), (d21.2.1, (d21.2.2.1, (a.2.2.1, (a.2.2.2.1, d21.2.2.2.2.2)))))) fun (d26 : (Unit × T_8)) =>
                  some ((), d26.2)
              else
                bif decide (a.1 = (3 : Int)) then
                  Option.bind (
                    
                      some ((), (d21.2.1, (d21.2.2.1, (d21.2.2.2.1, a.2.2.2))))) fun (d27 : (Unit × T_8)) =>
                    some ((), d27.2)
                else
                  some ((), d21.2)) fun (d28 : (Unit × T_8)) =>
              bif !((decide (a.1 = d28.2.1) && (decide (a.2.1 = d28.2.2.1) && (decide (a.2.2.1 = d28.2.2.2.1) && (decide (a.2.2.2.1 = d28.2.2.2.2.1) && (decide (a.2.2.2.2 = d28.2.2.2.2.2) && true)))))) then
                some (4 : Int)
              else
                some (0 : Int)
noncomputable def r23_s0 (d21 : (Unit × T_8)) (a : T_8) : Option (Unit × T_8) :=
  sameR (
          some ((), (d21.2.1, (d21.2.2.1, (a.2.2.1, (a.2.2.2.1, d21.2.2.2.2.2))))))
 (
          some ((), (d21.2.1, (d21.2.2.1, (a.2.2.1, (a.2.2.2.1, d21.2.2.2.2.2))))))
noncomputable def r23q : T_8 → Option Int := fun a =>
  Option.bind (
    bif !(decide (a.1 < (1 : Int))) then
      some (decide ((5 : Int) < a.1))
    else
      some true) fun (d1 : Bool) =>
    bif d1 then
      some (3 : Int)
    else
      Option.bind (
        Option.bind (
          bif !(decide (a.2.1 < (0 : Int))) then
            some (decide ((1048576 : Int) < a.2.1))
          else
            some true) fun (g14 : Bool) =>
          Option.bind (
            bif !(g14) then
              some (decide (a.2.2.1 < (0 : Int)))
            else
              some true) fun (g15 : Bool) =>
            Option.bind (
              bif !(g15) then
                some (decide ((6 : Int) ≤ a.2.2.1))
              else
                some true) fun (g16 : Bool) =>
              Option.bind (
                bif !(g16) then
                  some (decide (a.2.2.2.1 < (0 : Int)))
                else
                  some true) fun (g17 : Bool) =>
                Option.bind (
                  bif !(g17) then
                    some (decide ((8 : Int) < a.2.2.2.1))
                  else
                    some true) fun (g18 : Bool) =>
                  Option.bind (
                    bif !(g18) then
                      some (decide (a.2.2.2.2 < (0 : Int)))
                    else
                      some true) fun (g19 : Bool) =>
                    bif !(g19) then
                      some (decide ((1073741824 : Int) < a.2.2.2.2))
                    else
                      some true) fun (d20 : Bool) =>
        bif d20 then
          some (2 : Int)
        else
          Option.bind (
            bif !(decide (a.1 = (1 : Int))) then
              some ((), (a.1, (a.2.1, ((0 : Int), ((0 : Int), (0 : Int))))))
            else
              some ((), (a.1, ((0 : Int), ((0 : Int), ((0 : Int), (0 : Int))))))) fun (d21 : (Unit × T_8)) =>
            Option.bind (
              bif decide (a.1 = (2 : Int)) then
                Option.bind (
                  sameR (
                          some ((), (d21.2.1, (d21.2.2.1, (a.2.2.1, (a.2.2.2.1, d21.2.2.2.2.2))))))
 (
                  sameR (
                    r23_s0 d21 a)
 (
                    sameR (
                      r23_s0 d21 a)
 (
                              some ((), (d21.2.1, (d21.2.2.1, (a.2.2.1, (a.2.2.2.1, d21.2.2.2.2.2))))))))) fun (d26 : (Unit × T_8)) =>
                  some ((), d26.2)
              else
                bif decide (a.1 = (3 : Int)) then
                  Option.bind (
                    sameR (
                            some ((), (d21.2.1, (d21.2.2.1, (d21.2.2.2.1, a.2.2.2)))))
 (
                    sameR (
                      sameR (
                              some ((), (d21.2.1, (d21.2.2.1, (d21.2.2.2.1, a.2.2.2)))))
 (
                              some ((), (d21.2.1, (d21.2.2.1, (d21.2.2.2.1, a.2.2.2))))))
 (
                      sameR (
                        sameR (
                                some ((), (d21.2.1, (d21.2.2.1, (d21.2.2.2.1, a.2.2.2)))))
 (
                                some ((), (d21.2.1, (d21.2.2.1, (d21.2.2.2.1, a.2.2.2))))))
 (
                                some ((), (d21.2.1, (d21.2.2.1, (d21.2.2.2.1, a.2.2.2)))))))) fun (d27 : (Unit × T_8)) =>
                    some ((), d27.2)
                else
                  some ((), d21.2)) fun (d28 : (Unit × T_8)) =>
              bif !((decide (a.1 = d28.2.1) && (decide (a.2.1 = d28.2.2.1) && (decide (a.2.2.1 = d28.2.2.2.1) && (decide (a.2.2.2.1 = d28.2.2.2.2.1) && (decide (a.2.2.2.2 = d28.2.2.2.2.2) && true)))))) then
                some (4 : Int)
              else
                some (0 : Int)
theorem r23e : r23q = r23 := by unfold r23q r23; simp only [r23_s0, sameN_self, sameR_self, sameR_dup, sameR_bind, sameR_cond]
def an23 : Ann := .two (.leaf) (.two (.two (.join [1] [1] [⟨.normal, [], [.tmp 11 (.bool)]⟩] (.leaf)) (.two (.two (.leaf) (.leaf)) (.leaf))) (.two (.two (.join [1] [1] [⟨.normal, [], [.tmp 49 (.bool)]⟩] (.segs [(8, ([1], ([1], [.tmp 19 (.bool)]))), (5, ([1], ([1], [.tmp 24 (.bool)]))), (5, ([1], ([1], [.tmp 29 (.bool)]))), (5, ([1], ([1], [.tmp 34 (.bool)]))), (5, ([1], ([1], [.tmp 39 (.bool)]))), (5, ([1], ([1], [.tmp 44 (.bool)])))])) (.two (.two (.leaf) (.leaf)) (.leaf))) (.two (.leaf) (.two (.join [1] [1] [⟨.normal, [], [.tmp 3 (.pt 3 [(0, 0)] 0 0 5), .box 3 [.int .i64, .int .i64, .int .i64, .int .i64, .int .i64]]⟩] (.two (.leaf) (.two (.leaf) (.leaf)))) (.two (.join [1] [1] [⟨.normal, [], [.tmp 3 (.pt 3 [(0, 0)] 0 0 5), .box 3 [.int .i64, .int .i64, .int .i64, .int .i64, .int .i64]]⟩] (.two (.leaf) (.one (.two (.leaf) (.two (.join [1] [1] [⟨.normal, [], [.tmp 3 (.pt 3 [(0, 0)] 0 0 5), .box 3 [.int .i64, .int .i64, .int .i64, .int .i64, .int .i64]]⟩] (.drawT [0, 1, 2, 3, 4] [2, 3])) (.two (.leaf) (.two (.join [1] [1] [⟨.normal, [], [.tmp 3 (.pt 3 [(0, 0)] 0 0 5), .box 3 [.int .i64, .int .i64, .int .i64, .int .i64, .int .i64]]⟩] (.drawT [0, 1, 2, 3, 4] [2, 3])) (.leaf)))))))) (.two (.two (.leaf) (.two (.two (.leaf) (.leaf)) (.leaf))) (.two (.leaf) (.leaf))))))))
theorem s23 : SoundF cx.P cx.G 23 sg23 r23 := by
  have e : denF cx [] an23 Tryz.f23.ntmps (Tryz.f23.body.getD .skip) Tryz.f23.results.toList sg23 = r23q := by kernel_rfl
  rw [← r23e, ← e]
  exact sound_of_den (c := cx) (Known.nil) Tryz.func23 (by kernel_rfl) (Nat.le_of_ble_eq_true (by kernel_rfl)) rfl
/-! reredos/lines.Check -/
def sg13 : Sig := ⟨[⟨true, .bo, (.pair (.int .i64) (.pair (.sl (.pair (.int .i64) (.int .i64))) (.int .i64)))⟩, ⟨true, .bo, E_22⟩], [⟨false, .own, (.int .i64)⟩]⟩
noncomputable def r13 (a : (T_9 × T_7)) : Option Int :=
  Option.bind (r12 a.1) fun (y1 : Int) =>
    bif !(decide (y1 = (0 : Int))) then
      some y1
    else
      Option.bind (
        bif !(decide (a.2.1 < (1 : Int))) then
          some (decide ((8 : Int) < a.2.1))
        else
          some true) fun (d2 : Bool) =>
        bif d2 then
          some (3 : Int)
        else
          Option.bind (r21 (a.1, a.2)) fun (y3 : Bool) =>
            bif !(y3) then
              some (2 : Int)
            else
              Option.bind (r22 a.2) fun (y4 : Bool) =>
                bif !(y4) then
                  some (4 : Int)
                else
                  bif decide (a.2.1 = (1 : Int)) then
                    Option.bind (r23 a.2.2.2.2.2.2.2.1) fun (y5 : Int) =>
                      some y5
                  else
                    some (0 : Int)
def an13 : Ann := .two (.leaf) (.two (.two (.leaf) (.two (.leaf) (.two (.two (.leaf) (.leaf)) (.leaf)))) (.two (.one (.two (.join [2, 3] [2, 3] [⟨.normal, [], [.tmp 11 (.bool)]⟩] (.leaf)) (.two (.two (.leaf) (.leaf)) (.two (.leaf) (.two (.two (.leaf) (.leaf)) (.two (.leaf) (.two (.two (.leaf) (.leaf)) (.two (.leaf) (.two (.two (.leaf) (.leaf)) (.leaf)))))))))) (.two (.leaf) (.leaf))))
theorem s13 : SoundF cx.P cx.G 13 sg13 r13 := by
  have e : denF cx [(12, ⟨sg12, r12⟩), (21, ⟨sg21, r21⟩), (22, ⟨sg22, r22⟩), (23, ⟨sg23, r23⟩)] an13 Tryz.f13.ntmps (Tryz.f13.body.getD .skip) Tryz.f13.results.toList sg13 = r13 := by kernel_rfl
  rw [← e]
  exact sound_of_den (c := cx) (Known.cons (.ofF s12 (by kernel_rfl)) Tryz.func12 (by kernel_rfl) (by kernel_rfl) (Known.cons (.ofF s21 (by kernel_rfl)) Tryz.func21 (by kernel_rfl) (by kernel_rfl) (Known.cons (.ofF s22 (by kernel_rfl)) Tryz.func22 (by kernel_rfl) (by kernel_rfl) (Known.cons (.ofF s23 (by kernel_rfl)) Tryz.func23 (by kernel_rfl) (by kernel_rfl) (Known.nil))))) Tryz.func13 (by kernel_rfl) (Nat.le_of_ble_eq_true (by kernel_rfl)) rfl
/-! reredos/cluster.Run -/
noncomputable def r7_L0 (a : (T_9 × List (T_7))) (d5 : T_1) : Option (T_1 ⊕ (T_3 ⊕ T_0)) :=
  bif decide (d5.2.1 < (↑a.2.length : Int)) then
    Option.bind (idxI a.2 d5.2.1) fun (b6 : T_7) =>
      Option.bind (r13 (a.1, b6)) fun (y7 : Int) =>
        bif !(decide (y7 = (0 : Int))) then
          some (Sum.inr (Sum.inr ((), (d5.2.1, (y7, ([], ([], ((0 : Int), []))))))))
        else
          some (Sum.inl ((), ((Go.IntKind.wrap .i64 (d5.2.1 + (1 : Int))), d5.2.2)))
  else
    some (Sum.inr (Sum.inl ((), d5.2.2)))
def sg7 : Sig := ⟨[⟨true, .bo, (.pair (.int .i64) (.pair (.sl (.pair (.int .i64) (.int .i64))) (.int .i64)))⟩, ⟨false, .bo, E_19⟩], [⟨true, .ro, E_11⟩, ⟨false, .own, (.int .i64)⟩, ⟨false, .own, (.int .i64)⟩]⟩
noncomputable def r7 (a : (T_9 × List (T_7))) : Option T_2 :=
  Option.bind (r12 a.1) fun (y1 : Int) =>
    bif !(decide (y1 = (0 : Int))) then
      some (([], ([], ((0 : Int), []))), ((0 : Int), y1))
    else
      bif decide ((3000 : Int) < (↑a.2.length : Int)) then
        some (([], ([], ((0 : Int), []))), ((0 : Int), (1 : Int)))
      else
        Option.bind (loopR (r7_L0 a) ((), ((0 : Int), ([], ([], ((0 : Int), [])))))) fun (q8 : (T_3 ⊕ T_0)) =>
          Sum.elim (fun (v9 : T_3) =>
              none)
            (fun (v10 : T_0) =>
              some (v10.2.2.2, (v10.2.1, v10.2.2.1))) q8
def an7 : Ann := .two (.leaf) (.two (.two (.leaf) (.two (.leaf) (.two (.two (.leaf) (.leaf)) (.leaf)))) (.two (.two (.leaf) (.two (.two (.leaf) (.leaf)) (.leaf))) (.two (.two (.leaf) (.one (.loop [1, 2, 28, 29] [2] [] [.tmp 4 (.pt 4 [(0, 0)] 0 0 4), .tmp 30 (.int .i64), .box 4 [.sl .own E_14, .sl .own .bool, .int .i64, .sl .own E_24]] [⟨.exit 0, [], [.tmp 4 (.pt 4 [(0, 0)] 0 0 4), .box 4 [.sl .own E_14, .sl .own .bool, .int .i64, .sl .own E_24]]⟩, ⟨.ret, [], [.tmp 4 (.pt 4 [(0, 0)] 0 0 4), .tmp 5 (.int .i64), .tmp 6 (.int .i64), .box 4 [.sl .own E_14, .sl .own .bool, .int .i64, .sl .own E_24]]⟩] (.two (.leaf) (.two (.two (.leaf) (.leaf)) (.two (.one (.two (.leaf) (.two (.leaf) (.two (.leaf) (.two (.two (.leaf) (.leaf)) (.leaf)))))) (.leaf))))))) (.two (.inl 1 118 (.two (.leaf) (.two (.leaf) .leaf)) .leaf) .leaf))))
theorem s7 : SoundF cx.P cx.G 7 sg7 r7 := by
  have e : denF cx [(12, ⟨sg12, r12⟩), (13, ⟨sg13, r13⟩)] an7 Tryz.f7.ntmps (Tryz.f7.body.getD .skip) Tryz.f7.results.toList sg7 = r7 := by kernel_rfl
  rw [← e]
  exact sound_of_den (c := cx) (Known.cons (.ofF s12 (by kernel_rfl)) Tryz.func12 (by kernel_rfl) (by kernel_rfl) (Known.cons (.ofF s13 (by kernel_rfl)) Tryz.func13 (by kernel_rfl) (by kernel_rfl) (Known.nil))) Tryz.func7 (by kernel_rfl) (Nat.le_of_ble_eq_true (by kernel_rfl)) rfl
/-! reredos/reredostop.TopBad -/
def sg3 : Sig := ⟨[⟨false, .bo, (.int .i64)⟩, ⟨false, .bo, (.sl (.int .i64))⟩, ⟨false, .bo, (.int .i64)⟩, ⟨false, .bo, (.sl E_26)⟩, ⟨false, .bo, (.int .i64)⟩], [⟨false, .own, .bool⟩]⟩
noncomputable def r3 (a : (Int × (List Int × (Int × (List ((Int × T_8)) × Int))))) : Option Bool :=
  Option.bind (r4 (a.1, a.2.1, a.2.2.1)) fun (y1 : T_9) =>
    Option.bind (r5 (y1, a.2.2.2.1, (30 : Int), true)) fun (y2 : List (T_7)) =>
      Option.bind (r6 (a.2.2.2.2, (Go.IntKind.wrap .i64 ((↑y2.length : Int) + (1 : Int))))) fun (y3 : Int) =>
        Option.bind (
          bif okB none (some y3) none y2.length then
            bif roomOk true 0 ((midL y2 0 (Int.toNat y3)).length) 120 then
              bif okB (some y3) none none y2.length then
                
                  bif roomOk false ((midL y2 0 (Int.toNat y3)).length) 1 120 then
                    bif roomOk false ((app (midL y2 0 (Int.toNat y3)) [((9 : Int), ((0 : Int), ((0 : Int), ((0 : Int), ((0 : Int), ([], (((0 : Int), ((0 : Int), ((0 : Int), ((0 : Int), (0 : Int))))), ([] : List UInt8))))))))]).length) ((midL y2 (Int.toNat y3) (y2.length - (Int.toNat y3))).length) 120 then
                      some ((), app (app (midL y2 0 (Int.toNat y3)) [((9 : Int), ((0 : Int), ((0 : Int), ((0 : Int), ((0 : Int), ([], (((0 : Int), ((0 : Int), ((0 : Int), ((0 : Int), (0 : Int))))), ([] : List UInt8))))))))]) (midL y2 (Int.toNat y3) (y2.length - (Int.toNat y3))))
                    else
                      none
                  else
                    none
              else
                none
            else
              none
          else
            none) fun (d4 : T_6) =>
          Option.bind (r7 (y1, d4.2)) fun (y5 : T_2) =>
            Option.bind (r7 (((0 : Int), ([], (0 : Int))), y2)) fun (y6 : T_2) =>
              Option.bind (
                bif (decide (0 ≤ (3001 : Int)) && (decide ((3001 : Int) ≤ (3001 : Int)) && (decide ((120 : Int) * (3001 : Int) ≤ 281474976710656) && decide ((3001 : Int) ≤ 9223372036854775807)))) then
                  Option.bind (r7 (y1, List.replicate 3001 ((0 : Int), ((0 : Int), ((0 : Int), ((0 : Int), ((0 : Int), ([], (((0 : Int), ((0 : Int), ((0 : Int), ((0 : Int), (0 : Int))))), ([] : List UInt8)))))))))) fun (y9 : T_2) =>
                    
                      some y9.2.2
                else
                  none) fun (d10 : Int) =>
                Option.bind (
                  bif decide (y5.2.2 = (3 : Int)) then
                    some (decide (y5.2.1 = y3))
                  else
                    some false) fun (g11 : Bool) =>
                  Option.bind (
                    bif g11 then
                      some (decide (y6.2.2 = (2 : Int)))
                    else
                      some false) fun (g12 : Bool) =>
                    Option.bind (
                      bif g12 then
                        some (decide (d10 = (1 : Int)))
                      else
                        some false) fun (g13 : Bool) =>
                      bif g13 then
                        some (decide ((↑y5.1.1.length : Int) = (0 : Int)))
                      else
                        some false
noncomputable def r3_s0 (y2 : List (T_7)) (y3 : Int) : Option T_6 :=
    bif roomOk false ((app (midL y2 0 (Int.toNat y3)) [((9 : Int), ((0 : Int), ((0 : Int), ((0 : Int), ((0 : Int), ([], (((0 : Int), ((0 : Int), ((0 : Int), ((0 : Int), (0 : Int))))), ([] : List UInt8))))))))]).length) ((midL y2 (Int.toNat y3) (y2.length - (Int.toNat y3))).length) 120 then
        some ((), app (app (midL y2 0 (Int.toNat y3)) [((9 : Int), ((0 : Int), ((0 : Int), ((0 : Int), ((0 : Int), ([], (((0 : Int), ((0 : Int), ((0 : Int), ((0 : Int), (0 : Int))))), ([] : List UInt8))))))))]) (midL y2 (Int.toNat y3) (y2.length - (Int.toNat y3))))
    else
      none
noncomputable def r3_s1 (y3 : Int) (y2 : List (T_7)) : Option T_6 :=
  sameR (
    bif okB (some y3) none none y2.length then
        bif roomOk false ((midL y2 0 (Int.toNat y3)).length) 1 120 then
          r3_s0 y2 y3
        else
          none
    else
      none)
 (
    bif roomOk false ((midL y2 0 (Int.toNat y3)).length) 1 120 then
        bif okB (some y3) none none y2.length then
          r3_s0 y2 y3
        else
          none
    else
      none)
noncomputable def r3q : (Int × (List Int × (Int × (List ((Int × T_8)) × Int)))) → Option Bool := fun a =>
  Option.bind (r4 (a.1, a.2.1, a.2.2.1)) fun (y1 : T_9) =>
    Option.bind (r5 (y1, a.2.2.2.1, (30 : Int), true)) fun (y2 : List (T_7)) =>
      Option.bind (r6 (a.2.2.2.2, (Go.IntKind.wrap .i64 ((↑y2.length : Int) + (1 : Int))))) fun (y3 : Int) =>
        Option.bind (
          bif okB none (some y3) none y2.length then
            bif roomOk true 0 ((midL y2 0 (Int.toNat y3)).length) 120 then
              bif okB (some y3) none none y2.length then
                sameR (
                    bif roomOk false ((midL y2 0 (Int.toNat y3)).length) 1 120 then
                      r3_s0 y2 y3
                    else
                      none)
 (
                sameR (
                  r3_s1 y3 y2)
 (
                sameR (
                  sameR (
                    r3_s1 y3 y2)
 (
                    bif roomOk false ((midL y2 0 (Int.toNat y3)).length) 1 120 then
                          bif okB (some y3) none none y2.length then
                            r3_s0 y2 y3
                          else
                            none
                    else
                      none))
 (
                sameR (
                  sameR (
                    r3_s1 y3 y2)
 (
                    bif roomOk false ((midL y2 0 (Int.toNat y3)).length) 1 120 then
                          bif okB (some y3) none none y2.length then
                            r3_s0 y2 y3
                          else
                            none
                    else
                      none))
 (
                  sameR (
                    sameR (
                      r3_s1 y3 y2)
 (
                      bif roomOk false ((midL y2 0 (Int.toNat y3)).length) 1 120 then
                            bif okB (some y3) none none y2.length then
                              r3_s0 y2 y3
                            else
                              none
                      else
                        none))
 (
                  sameR (
                    sameR (
                      r3_s1 y3 y2)
 (
                      bif roomOk false ((midL y2 0 (Int.toNat y3)).length) 1 120 then
                            bif okB (some y3) none none y2.length then
                              r3_s0 y2 y3
                            else
                              none
                      else
                        none))
 (
                    bif roomOk false ((midL y2 0 (Int.toNat y3)).length) 1 120 then
                      sameR (
                            bif okB (some y3) none none y2.length then
                              r3_s0 y2 y3
                            else
                              none)
 (
                            bif okB (some y3) none none y2.length then
                              r3_s0 y2 y3
                            else
                              none)
                    else
                      none))))))
              else
                none
            else
              none
          else
            none) fun (d4 : T_6) =>
          Option.bind (r7 (y1, d4.2)) fun (y5 : T_2) =>
            Option.bind (r7 (((0 : Int), ([], (0 : Int))), y2)) fun (y6 : T_2) =>
              Option.bind (
                bif (decide (0 ≤ (3001 : Int)) && (decide ((3001 : Int) ≤ (3001 : Int)) && (decide ((120 : Int) * (3001 : Int) ≤ 281474976710656) && decide ((3001 : Int) ≤ 9223372036854775807)))) then
                  Option.bind (r7 (y1, List.replicate 3001 ((0 : Int), ((0 : Int), ((0 : Int), ((0 : Int), ((0 : Int), ([], (((0 : Int), ((0 : Int), ((0 : Int), ((0 : Int), (0 : Int))))), ([] : List UInt8)))))))))) fun (y9 : T_2) =>
                    sameR (
                            some y9.2.2)
 (
                    sameR (
                      sameR (
                              some y9.2.2)
 (
                        sameR (
                              some y9.2.2)
 (
                              some y9.2.2)))
 (
                    sameR (
                      sameR (
                              some y9.2.2)
 (
                              some y9.2.2))
 (
                      sameR (
                        sameR (
                                some y9.2.2)
 (
                          sameR (
                                some y9.2.2)
 (
                                some y9.2.2)))
 (
                      sameR (
                        sameR (
                                some y9.2.2)
 (
                                some y9.2.2))
 (
                        sameR (
                          sameR (
                                some y9.2.2)
 (
                                some y9.2.2))
 (
                                some y9.2.2))))))
                else
                  none) fun (d10 : Int) =>
                Option.bind (
                  bif decide (y5.2.2 = (3 : Int)) then
                    some (decide (y5.2.1 = y3))
                  else
                    some false) fun (g11 : Bool) =>
                  Option.bind (
                    bif g11 then
                      some (decide (y6.2.2 = (2 : Int)))
                    else
                      some false) fun (g12 : Bool) =>
                    Option.bind (
                      bif g12 then
                        some (decide (d10 = (1 : Int)))
                      else
                        some false) fun (g13 : Bool) =>
                      bif g13 then
                        some (decide ((↑y5.1.1.length : Int) = (0 : Int)))
                      else
                        some false
theorem r3e : r3q = r3 := by
  unfold r3q r3
  funext a
  refine congrArg (Option.bind _) (funext fun y1 => congrArg (Option.bind _) (funext fun y2 => congrArg (Option.bind _) (funext fun y3 => ?_)))
  simp only [r3_s0, r3_s1]
  cases okB none (some y3) none y2.length with
  | false => rfl
  | true =>
    cases okB (some y3) none none y2.length with
    | false => simp only [cond_true, cond_false, sameN_self, sameR_self]
    | true => simp only [cond_true, cond_false, sameN_self, sameR_self, sameR_dup, sameR_bind, sameR_cond]
def an3 : Ann := .two (.leaf) (.two (.leaf) (.two (.leaf) (.two (.leaf) (.two (.join [11, 12, 13] [11, 30] [⟨.normal, [], [.tmp 14 (.own 46 [(0, 0)] E_20), .row 46 [.sl .own E_20]]⟩] (.drawT [0, 1, 2, 3, 4, 5, 7, 8, 9] [7, 8, 9])) (.two (.leaf) (.two (.leaf) (.two (.join [13, 15, 16, 17, 20] [15] [⟨.normal, [], [.tmp 23 (.int .i64)]⟩] (.drawT [0, 1, 2, 3, 4, 5, 6, 7] [5, 6])) (.two (.segs [(7, ([15, 20, 23], ([15], [.tmp 74 (.bool)]))), (4, ([15, 23], ([15], [.tmp 78 (.bool)]))), (4, ([15], ([15], [.tmp 82 (.bool)])))]) (.leaf)))))))))
theorem s3 : SoundF cx.P cx.G 3 sg3 r3 := by
  have e : denF cx [(4, ⟨sg4, r4⟩), (5, ⟨sg5, r5⟩), (6, ⟨sg6, r6⟩), (7, ⟨sg7, r7⟩)] an3 Tryz.f3.ntmps (Tryz.f3.body.getD .skip) Tryz.f3.results.toList sg3 = r3q := by kernel_rfl
  rw [← r3e, ← e]
  exact sound_of_den (c := cx) (Known.cons (.ofF s4 (by kernel_rfl)) Tryz.func4 (by kernel_rfl) (by kernel_rfl) (Known.cons (.ofF s5 (by kernel_rfl)) Tryz.func5 (by kernel_rfl) (by kernel_rfl) (Known.cons (.ofF s6 (by kernel_rfl)) Tryz.func6 (by kernel_rfl) (by kernel_rfl) (Known.cons (.ofF s7 (by kernel_rfl)) Tryz.func7 (by kernel_rfl) (by kernel_rfl) (Known.nil))))) Tryz.func3 (by kernel_rfl) (Nat.le_of_ble_eq_true (by kernel_rfl)) rfl
end Go.Hu
