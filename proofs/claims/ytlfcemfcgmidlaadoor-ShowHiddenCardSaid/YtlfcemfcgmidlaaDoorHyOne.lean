/- What the functions compute: written by gen.py. -/
import Derived.Test.YtlfcemfcgmidlaaDoorLibL
import Derived.Lib.Builder
import Derived.Test.YtlfcemfcgmidlaaDoorLibI
import Derived.WalkKit
import Derived.Lib.Walk
import Derived.Lib.JoinLaws
import Derived.Test.YtlfcemfcgmidlaaDoorLibK
import Derived.Test.YtlfcemfcgmidlaaDoorHwShelf
import Derived.Test.YtlfcemfcgmidlaaDoorProg
import Derived.KernelRfl
namespace Go.Hy
open Go.RowKit Go.Proofs Go.V Go.Proofs
abbrev E_20 : Ty := (.pair (.pair (.int .i64) (.int .i64)) (.int .i64))
abbrev E_19 : Ty := (.pair (.int .i64) (.pair (.int .i64) (.int .i64)))
abbrev E_18 : Ty := (.pair (.pair (.int .i64) (.int .i64)) (.pair (.int .i64) (.pair .bool (.pair (.int .i64) (.int .i64)))))
abbrev E_17 : Ty := (.pair (.int .i64) (.pair (.int .i64) (.pair (.int .i64) E_19)))
abbrev E_16 : Ty := (.pair (.sl E_19) (.pair (.sl E_18) (.pair (.sl E_20) (.sl (.pair (.int .i64) (.int .i64))))))
abbrev E_15 : Ty := (.pair (.rsl E_19) (.pair (.rsl E_18) (.pair (.rsl E_20) (.rsl (.pair (.int .i64) (.int .i64))))))
abbrev T_14 : Type := (Int × (Int × (Int × (Int × (Int × Int)))))
abbrev T_13 : Type := ((Int × Int) × (Int × (Bool × (Int × Int))))
abbrev T_12 : Type := (List ((Int × (Int × Int))) × (List (T_13) × (List (((Int × Int) × Int)) × List ((Int × Int)))))
abbrev T_11 : Type := (Int × T_12)
abbrev T_10 : Type := (T_12 × Int)
abbrev T_9 : Type := (Unit × T_12)
abbrev T_8 : Type := (T_12 × (Int × Int))
abbrev T_7 : Type := (Unit × T_11)
abbrev T_6 : Type := (T_12 × (Int × (Int × Int)))
abbrev T_5 : Type := (T_12 × ((Int × Int) × Int))
abbrev T_4 : Type := (T_12 × ((Int × Int) × Bool))
abbrev T_3 : Type := (Unit × T_7)
abbrev T_2 : Type := (Unit × (Int × (Int × T_11)))
abbrev T_1 : Type := (Unit × (Unit × (Int × T_11)))
abbrev T_0 : Type := ((Int × (List ((Int × Int)) × Int)) × (Int × (List (T_12) × (List (List (((Int × Int) × (Bool × Bool)))) × (Int × (Int × ((Int × Int) × Bool)))))))
def tys : List (Nat × TyInfo) := [
 (3, ⟨.int .i64, 1, 8, [.int .i64 0], false, [none], [none], (.int .i64)⟩),
 (4, ⟨.bool, 1, 1, [.bool false], false, [none], [none], .bool⟩),
 (5, ⟨.int .u8, 1, 1, [.int .u8 0], false, [none], [none], (.int .u8)⟩),
 (9, ⟨.str, 1, 16, [.string ⟨#[]⟩], false, [none], [none], .str⟩),
 (22, ⟨.sl 55, 1, 24, [.slice none 0 0], false, [some E_17], [none], (.sl E_17)⟩),
 (23, ⟨.sl 95, 1, 24, [.slice none 0 0], false, [some (.pair (.int .i64) (.int .i64))], [none], (.sl (.pair (.int .i64) (.int .i64)))⟩),
 (25, ⟨.st [(0, 3), (1, 23), (2, 3)], 3, 40, [.int .i64 0, .slice none 0 0, .int .i64 0], false, [none, some (.pair (.int .i64) (.int .i64)), none], [none, none, none], (.pair (.int .i64) (.pair (.rsl (.pair (.int .i64) (.int .i64))) (.int .i64)))⟩),
 (32, ⟨.int .i64, 1, 8, [.int .i64 0], false, [none], [none], (.int .i64)⟩),
 (48, ⟨.st [(0, 3), (1, 3)], 2, 16, [.int .i64 0, .int .i64 0], true, [none, none], [none, none], (.pair (.int .i64) (.int .i64))⟩),
 (49, ⟨.sl 3, 1, 24, [.slice none 0 0], false, [some (.int .i64)], [none], (.sl (.int .i64))⟩),
 (55, ⟨.st [(0, 3), (1, 3), (2, 3), (3, 3), (4, 3), (5, 3)], 6, 48, [.int .i64 0, .int .i64 0, .int .i64 0, .int .i64 0, .int .i64 0, .int .i64 0], false, [none, none, none, none, none, none], [none, none, none, none, none, none], E_17⟩),
 (72, ⟨.st [(0, 3), (1, 3), (2, 48), (4, 4)], 5, 40, [.int .i64 0, .int .i64 0, .int .i64 0, .int .i64 0, .bool false], false, [none, none, none, none, none], [none, none, none, none, none], (.pair (.int .i64) (.pair (.int .i64) (.pair (.pair (.int .i64) (.int .i64)) .bool)))⟩),
 (74, ⟨.st [(0, 48), (2, 4), (3, 4)], 4, 24, [.int .i64 0, .int .i64 0, .bool false, .bool false], false, [none, none, none, none], [none, none, none, none], (.pair (.pair (.int .i64) (.int .i64)) (.pair .bool .bool))⟩),
 (75, ⟨.sl 74, 1, 24, [.slice none 0 0], false, [some (.pair (.pair (.int .i64) (.int .i64)) (.pair .bool .bool))], [none], (.rsl (.pair (.pair (.int .i64) (.int .i64)) (.pair .bool .bool)))⟩),
 (76, ⟨.sl 75, 1, 24, [.slice none 0 0], false, [some (.rsl (.pair (.pair (.int .i64) (.int .i64)) (.pair .bool .bool)))], [none], (.sl (.rsl (.pair (.pair (.int .i64) (.int .i64)) (.pair .bool .bool))))⟩),
 (79, ⟨.sl 167, 1, 24, [.slice none 0 0], false, [some E_19], [none], (.sl E_19)⟩),
 (80, ⟨.sl 138, 1, 24, [.slice none 0 0], false, [some E_18], [none], (.sl E_18)⟩),
 (81, ⟨.sl 90, 1, 24, [.slice none 0 0], false, [some E_20], [none], (.sl E_20)⟩),
 (82, ⟨.sl 48, 1, 24, [.slice none 0 0], false, [some (.pair (.int .i64) (.int .i64))], [none], (.sl (.pair (.int .i64) (.int .i64)))⟩),
 (84, ⟨.st [(0, 79), (1, 80), (2, 81), (3, 82)], 4, 96, [.slice none 0 0, .slice none 0 0, .slice none 0 0, .slice none 0 0], false, [some E_19, some E_18, some E_20, some (.pair (.int .i64) (.int .i64))], [none, none, none, none], E_15⟩),
 (86, ⟨.sl 84, 1, 24, [.slice none 0 0], false, [some E_15], [none], (.sl E_15)⟩),
 (90, ⟨.st [(0, 48), (2, 3)], 3, 24, [.int .i64 0, .int .i64 0, .int .i64 0], false, [none, none, none], [none, none, none], E_20⟩),
 (95, ⟨.st [(0, 3), (1, 3)], 2, 16, [.int .i64 0, .int .i64 0], true, [none, none], [none, none], (.pair (.int .i64) (.int .i64))⟩),
 (118, ⟨.ptr, 1, 8, [.pointer none], false, [none], [none], .unit⟩),
 (119, ⟨.sl 5, 1, 24, [.slice none 0 0], false, [some (.int .u8)], [none], (.sl (.int .u8))⟩),
 (121, ⟨.st [(0, 118), (1, 119)], 2, 32, [.pointer none, .slice none 0 0], false, [none, some (.int .u8)], [none, none], .unit⟩),
 (138, ⟨.st [(0, 48), (2, 3), (3, 4), (4, 3), (5, 3)], 6, 48, [.int .i64 0, .int .i64 0, .int .i64 0, .bool false, .int .i64 0, .int .i64 0], false, [none, none, none, none, none, none], [none, none, none, none, none, none], E_18⟩),
 (154, ⟨.st [(0, 4), (1, 4), (2, 4), (3, 4), (4, 4), (5, 4), (6, 4), (7, 4)], 8, 8, [.bool false, .bool false, .bool false, .bool false, .bool false, .bool false, .bool false, .bool false], false, [none, none, none, none, none, none, none, none], [none, none, none, none, none, none, none, none], (.pair .bool (.pair .bool (.pair .bool (.pair .bool (.pair .bool (.pair .bool (.pair .bool .bool)))))))⟩),
 (155, ⟨.arr 10 154, 80, 80, [.bool false, .bool false, .bool false, .bool false, .bool false, .bool false, .bool false, .bool false, .bool false, .bool false, .bool false, .bool false, .bool false, .bool false, .bool false, .bool false, .bool false, .bool false, .bool false, .bool false, .bool false, .bool false, .bool false, .bool false, .bool false, .bool false, .bool false, .bool false, .bool false, .bool false, .bool false, .bool false, .bool false, .bool false, .bool false, .bool false, .bool false, .bool false, .bool false, .bool false, .bool false, .bool false, .bool false, .bool false, .bool false, .bool false, .bool false, .bool false, .bool false, .bool false, .bool false, .bool false, .bool false, .bool false, .bool false, .bool false, .bool false, .bool false, .bool false, .bool false, .bool false, .bool false, .bool false, .bool false, .bool false, .bool false, .bool false, .bool false, .bool false, .bool false, .bool false, .bool false, .bool false, .bool false, .bool false, .bool false, .bool false, .bool false, .bool false, .bool false], false, [none, none, none, none, none, none, none, none, none, none, none, none, none, none, none, none, none, none, none, none, none, none, none, none, none, none, none, none, none, none, none, none, none, none, none, none, none, none, none, none, none, none, none, none, none, none, none, none, none, none, none, none, none, none, none, none, none, none, none, none, none, none, none, none, none, none, none, none, none, none, none, none, none, none, none, none, none, none, none, none], [none, none, none, none, none, none, none, none, none, none, none, none, none, none, none, none, none, none, none, none, none, none, none, none, none, none, none, none, none, none, none, none, none, none, none, none, none, none, none, none, none, none, none, none, none, none, none, none, none, none, none, none, none, none, none, none, none, none, none, none, none, none, none, none, none, none, none, none, none, none, none, none, none, none, none, none, none, none, none, none], .unit⟩),
 (167, ⟨.st [(0, 3), (1, 3), (2, 3)], 3, 24, [.int .i64 0, .int .i64 0, .int .i64 0], false, [none, none, none], [none, none, none], E_19⟩),
 (174, ⟨.ptr, 1, 8, [.pointer none], false, [none], [none], .unit⟩),
 (208, ⟨.int .u64, 1, 8, [.int .u64 0], false, [none], [none], (.int .u64)⟩),
 (222, ⟨.int .u64, 1, 8, [.int .u64 0], false, [none], [none], (.int .u64)⟩),
 (235, ⟨.arr 20 222, 20, 160, [.int .u64 0, .int .u64 0, .int .u64 0, .int .u64 0, .int .u64 0, .int .u64 0, .int .u64 0, .int .u64 0, .int .u64 0, .int .u64 0, .int .u64 0, .int .u64 0, .int .u64 0, .int .u64 0, .int .u64 0, .int .u64 0, .int .u64 0, .int .u64 0, .int .u64 0, .int .u64 0], false, [none, none, none, none, none, none, none, none, none, none, none, none, none, none, none, none, none, none, none, none], [none, none, none, none, none, none, none, none, none, none, none, none, none, none, none, none, none, none, none, none], .unit⟩),
 (240, ⟨.arr 32 5, 32, 32, [.int .u8 0, .int .u8 0, .int .u8 0, .int .u8 0, .int .u8 0, .int .u8 0, .int .u8 0, .int .u8 0, .int .u8 0, .int .u8 0, .int .u8 0, .int .u8 0, .int .u8 0, .int .u8 0, .int .u8 0, .int .u8 0, .int .u8 0, .int .u8 0, .int .u8 0, .int .u8 0, .int .u8 0, .int .u8 0, .int .u8 0, .int .u8 0, .int .u8 0, .int .u8 0, .int .u8 0, .int .u8 0, .int .u8 0, .int .u8 0, .int .u8 0, .int .u8 0], false, [none, none, none, none, none, none, none, none, none, none, none, none, none, none, none, none, none, none, none, none, none, none, none, none, none, none, none, none, none, none, none, none], [none, none, none, none, none, none, none, none, none, none, none, none, none, none, none, none, none, none, none, none, none, none, none, none, none, none, none, none, none, none, none, none], .unit⟩),
 (241, ⟨.arr 64 5, 64, 64, [.int .u8 0, .int .u8 0, .int .u8 0, .int .u8 0, .int .u8 0, .int .u8 0, .int .u8 0, .int .u8 0, .int .u8 0, .int .u8 0, .int .u8 0, .int .u8 0, .int .u8 0, .int .u8 0, .int .u8 0, .int .u8 0, .int .u8 0, .int .u8 0, .int .u8 0, .int .u8 0, .int .u8 0, .int .u8 0, .int .u8 0, .int .u8 0, .int .u8 0, .int .u8 0, .int .u8 0, .int .u8 0, .int .u8 0, .int .u8 0, .int .u8 0, .int .u8 0, .int .u8 0, .int .u8 0, .int .u8 0, .int .u8 0, .int .u8 0, .int .u8 0, .int .u8 0, .int .u8 0, .int .u8 0, .int .u8 0, .int .u8 0, .int .u8 0, .int .u8 0, .int .u8 0, .int .u8 0, .int .u8 0, .int .u8 0, .int .u8 0, .int .u8 0, .int .u8 0, .int .u8 0, .int .u8 0, .int .u8 0, .int .u8 0, .int .u8 0, .int .u8 0, .int .u8 0, .int .u8 0, .int .u8 0, .int .u8 0, .int .u8 0, .int .u8 0], false, [none, none, none, none, none, none, none, none, none, none, none, none, none, none, none, none, none, none, none, none, none, none, none, none, none, none, none, none, none, none, none, none, none, none, none, none, none, none, none, none, none, none, none, none, none, none, none, none, none, none, none, none, none, none, none, none, none, none, none, none, none, none, none, none], [none, none, none, none, none, none, none, none, none, none, none, none, none, none, none, none, none, none, none, none, none, none, none, none, none, none, none, none, none, none, none, none, none, none, none, none, none, none, none, none, none, none, none, none, none, none, none, none, none, none, none, none, none, none, none, none, none, none, none, none, none, none, none, none], .unit⟩)]
theorem tysOk : TyOk Tryd.prog tys := tyOk_of fun e he => by
  simp only [tys, List.mem_cons, List.not_mem_nil, or_false] at he
  rcases he with rfl | rfl | rfl | rfl | rfl | rfl | rfl | rfl | rfl | rfl | rfl | rfl | rfl | rfl | rfl | rfl | rfl | rfl | rfl | rfl | rfl | rfl | rfl | rfl | rfl | rfl | rfl | rfl | rfl | rfl | rfl | rfl | rfl | rfl | rfl | rfl
  · exact ⟨by kernel_rfl, by kernel_rfl, fun h => nomatch h⟩
  · exact ⟨by kernel_rfl, by kernel_rfl, fun h => nomatch h⟩
  · exact ⟨by kernel_rfl, by kernel_rfl, fun h => nomatch h⟩
  · exact ⟨by kernel_rfl, by kernel_rfl, fun h => nomatch h⟩
  · exact ⟨by kernel_rfl, by kernel_rfl, fun h => nomatch h⟩
  · exact ⟨by kernel_rfl, by kernel_rfl, fun h => nomatch h⟩
  · exact ⟨by kernel_rfl, by kernel_rfl, fun h => nomatch h⟩
  · exact ⟨by kernel_rfl, by kernel_rfl, fun h => nomatch h⟩
  · exact ⟨by kernel_rfl, by kernel_rfl, fun _ => ⟨by kernel_rfl, by kernel_rfl, by kernel_rfl⟩⟩
  · exact ⟨by kernel_rfl, by kernel_rfl, fun h => nomatch h⟩
  · exact ⟨by kernel_rfl, by kernel_rfl, fun h => nomatch h⟩
  · exact ⟨by kernel_rfl, by kernel_rfl, fun h => nomatch h⟩
  · exact ⟨by kernel_rfl, by kernel_rfl, fun h => nomatch h⟩
  · exact ⟨by kernel_rfl, by kernel_rfl, fun h => nomatch h⟩
  · exact ⟨by kernel_rfl, by kernel_rfl, fun h => nomatch h⟩
  · exact ⟨by kernel_rfl, by kernel_rfl, fun h => nomatch h⟩
  · exact ⟨by kernel_rfl, by kernel_rfl, fun h => nomatch h⟩
  · exact ⟨by kernel_rfl, by kernel_rfl, fun h => nomatch h⟩
  · exact ⟨by kernel_rfl, by kernel_rfl, fun h => nomatch h⟩
  · exact ⟨by kernel_rfl, by kernel_rfl, fun h => nomatch h⟩
  · exact ⟨by kernel_rfl, by kernel_rfl, fun h => nomatch h⟩
  · exact ⟨by kernel_rfl, by kernel_rfl, fun h => nomatch h⟩
  · exact ⟨by kernel_rfl, by kernel_rfl, fun _ => ⟨by kernel_rfl, by kernel_rfl, by kernel_rfl⟩⟩
  · exact ⟨by kernel_rfl, by kernel_rfl, fun h => nomatch h⟩
  · exact ⟨by kernel_rfl, by kernel_rfl, fun h => nomatch h⟩
  · exact ⟨by kernel_rfl, by kernel_rfl, fun h => nomatch h⟩
  · exact ⟨by kernel_rfl, by kernel_rfl, fun h => nomatch h⟩
  · exact ⟨by kernel_rfl, by kernel_rfl, fun h => nomatch h⟩
  · exact ⟨by kernel_rfl, by kernel_rfl, fun h => nomatch h⟩
  · exact ⟨by kernel_rfl, by kernel_rfl, fun h => nomatch h⟩
  · exact ⟨by kernel_rfl, by kernel_rfl, fun h => nomatch h⟩
  · exact ⟨by kernel_rfl, by kernel_rfl, fun h => nomatch h⟩
  · exact ⟨by kernel_rfl, by kernel_rfl, fun h => nomatch h⟩
  · exact ⟨by kernel_rfl, by kernel_rfl, fun h => nomatch h⟩
  · exact ⟨by kernel_rfl, by kernel_rfl, fun h => nomatch h⟩
  · exact ⟨by kernel_rfl, by kernel_rfl, fun h => nomatch h⟩
def tab1 : List Int := [(1 : Int),
 (10 : Int),
 (100 : Int),
 (1000 : Int),
 (10000 : Int),
 (100000 : Int),
 (1000000 : Int),
 (10000000 : Int),
 (100000000 : Int),
 (1000000000 : Int),
 (10000000000 : Int),
 (100000000000 : Int),
 (1000000000000 : Int),
 (10000000000000 : Int),
 (100000000000000 : Int),
 (1000000000000000 : Int),
 (10000000000000000 : Int),
 (100000000000000000 : Int),
 (1000000000000000000 : Int),
 (10000000000000000000 : Int)]
noncomputable def inls : List (Nat × Go.Func) := [(93, Tryd.f93), (94, Tryd.f94), (95, Tryd.f95), (96, Tryd.f96), (106, Tryd.f106), (107, Tryd.f107), (111, Tryd.f111), (112, Tryd.f112), (118, Tryd.f118), (119, Tryd.f119), (120, Tryd.f120), (124, Tryd.f124), (128, Tryd.f128), (129, Tryd.f129)]
theorem inlsOk : ∀ f fn, Go.V.look inls f = some fn → Tryd.prog.funcs[f]? = some fn ∧ (fn.name == "runtime.NumGoroutine") = false := inlOk_of fun e he => by
  simp only [inls, List.mem_cons, List.not_mem_nil, or_false] at he
  rcases he with rfl | rfl | rfl | rfl | rfl | rfl | rfl | rfl | rfl | rfl | rfl | rfl | rfl | rfl
  · exact ⟨Tryd.func93, by kernel_rfl⟩
  · exact ⟨Tryd.func94, by kernel_rfl⟩
  · exact ⟨Tryd.func95, by kernel_rfl⟩
  · exact ⟨Tryd.func96, by kernel_rfl⟩
  · exact ⟨Tryd.func106, by kernel_rfl⟩
  · exact ⟨Tryd.func107, by kernel_rfl⟩
  · exact ⟨Tryd.func111, by kernel_rfl⟩
  · exact ⟨Tryd.func112, by kernel_rfl⟩
  · exact ⟨Tryd.func118, by kernel_rfl⟩
  · exact ⟨Tryd.func119, by kernel_rfl⟩
  · exact ⟨Tryd.func120, by kernel_rfl⟩
  · exact ⟨Tryd.func124, by kernel_rfl⟩
  · exact ⟨Tryd.func128, by kernel_rfl⟩
  · exact ⟨Tryd.func129, by kernel_rfl⟩
noncomputable def cx : Ctx := ⟨Tryd.prog, tys, tysOk, [(1, .ga (.int .u64) tab1)], 0, inls, inlsOk, by kernel_rfl⟩
/-! reredos/reredoskeep.picked -/
def sg15 : Sig := ⟨[⟨false, .bo, (.int .i64)⟩, ⟨false, .bo, (.int .i64)⟩], [⟨false, .own, (.int .i64)⟩]⟩
noncomputable def r15 (a : (Int × Int)) : Option Int :=
 Option.bind (
 bif decide (a.1 < (0 : Int)) then
 some (Go.IntKind.wrap .i64 (0 - (Go.IntKind.wrap .i64 (a.1 + (1 : Int)))))
 else
 some a.1) fun (d1 : Int) =>
 bif decide (a.2 = 0) then
 none
 else
 some (Int.tmod d1 a.2)
def an15 : Ann := .two (.leaf) (.two (.join [1] [] [⟨.normal, [], [.tmp 0 (.int .i64)]⟩] (.two (.leaf) (.two (.leaf) (.leaf)))) (.two (.leaf) (.leaf)))
theorem s15 : SoundF cx.P cx.G 15 sg15 r15 := by
  have e : denF cx [] an15 Tryd.f15.ntmps (Tryd.f15.body.getD .skip) Tryd.f15.results.toList sg15 = r15 := by kernel_rfl
  rw [← e]
  exact sound_of_den (c := cx) (Known.nil) Tryd.func15 (by kernel_rfl) (Nat.le_of_ble_eq_true (by kernel_rfl)) rfl
/-! reredos/reredoskeep.two -/
def sg13 : Sig := ⟨[⟨false, .bo, (.int .i64)⟩], [⟨true, .ro, (.pair (.int .i64) (.pair (.sl (.pair (.int .i64) (.int .i64))) (.int .i64)))⟩]⟩
noncomputable def r13 (a : Int) : Option (Int × (List ((Int × Int)) × Int)) :=
 Option.bind (r15 (a, (3 : Int))) fun (y1 : Int) =>
 some ((Go.IntKind.wrap .i64 ((1 : Int) + y1)), ([((0 : Int), (0 : Int)), ((1 : Int), (0 : Int))], (3 : Int)))
def an13 : Ann := .two (.leaf) (.two (.leaf) (.leaf))
theorem s13 : SoundF cx.P cx.G 13 sg13 r13 := by
  have e : denF cx [(15, ⟨sg15, r15⟩)] an13 Tryd.f13.ntmps (Tryd.f13.body.getD .skip) Tryd.f13.results.toList sg13 = r13 := by kernel_rfl
  rw [← e]
  exact sound_of_den (c := cx) (Known.cons (.ofF s15 (by kernel_rfl)) Tryd.func15 (by kernel_rfl) (by kernel_rfl) (Known.nil)) Tryd.func13 (by kernel_rfl) (Nat.le_of_ble_eq_true (by kernel_rfl)) rfl
/-! reredos/store.items -/
noncomputable def r78_L0 (a : List ((Int × (Int × Int)))) (d1 : Int) : Option (Int ⊕ (Unit ⊕ Bool)) :=
 bif decide (d1 < (↑a.length : Int)) then
 Option.bind (idxI a d1) fun (b2 : (Int × (Int × Int))) =>
 Option.bind (
 Option.bind (
 bif !(decide (b2.1 < (0 : Int))) then
 some (decide ((8 : Int) ≤ b2.1))
 else
 some true) fun (g11 : Bool) =>
 Option.bind (
 bif !(g11) then
 some (decide (b2.2.1 < (0 : Int)))
 else
 some true) fun (g12 : Bool) =>
 Option.bind (
 bif !(g12) then
 some (decide ((1073741824 : Int) < b2.2.1))
 else
 some true) fun (g13 : Bool) =>
 Option.bind (
 bif !(g13) then
 some (decide (b2.2.2 < (1 : Int)))
 else
 some true) fun (g14 : Bool) =>
 bif !(g14) then
 some (decide ((1048576 : Int) < b2.2.2))
 else
 some true) fun (d15 : Bool) =>
 bif d15 then
 some (Sum.inr (Sum.inr false))
 else
 Option.bind (
 bif decide ((0 : Int) < d1) then
 Option.bind (idxI a (Go.IntKind.wrap .i64 (d1 - (1 : Int)))) fun (b21 : (Int × (Int × Int))) =>
 some (decide (b2.1 ≤ b21.1))
 else
 some false) fun (d22 : Bool) =>
 bif d22 then
 some (Sum.inr (Sum.inr false))
 else
 some (Sum.inl (Go.IntKind.wrap .i64 (d1 + (1 : Int))))
 else
 some (Sum.inr (Sum.inl ()))
def sg78 : Sig := ⟨[⟨false, .bo, (.sl E_19)⟩], [⟨false, .own, .bool⟩]⟩
noncomputable def r78 (a : List ((Int × (Int × Int)))) : Option Bool :=
 Option.bind (loopR (r78_L0 a) (0 : Int)) fun (q23 : (Unit ⊕ Bool)) =>
 Sum.elim (fun (v24 : Unit) =>
 some true)
 (fun (v25 : Bool) =>
 some v25) q23
def an78 : Ann := .two (.leaf) (.two (.two (.leaf) (.one (.loop [0, 5, 6] [] [] [.tmp 7 (.int .i64)] [⟨.exit 0, [], []⟩, ⟨.ret, [], [.tmp 2 (.bool)]⟩] (.two (.leaf) (.two (.two (.leaf) (.leaf)) (.two (.one (.two (.leaf) (.two (.two (.join [0, 3, 4, 5, 6, 7] [4] [⟨.normal, [], [.tmp 39 (.bool)]⟩] (.segs [(8, ([0, 3, 4, 5, 6, 7], ([4], [.tmp 19 (.bool)]))), (5, ([0, 3, 4, 5, 6, 7], ([4], [.tmp 24 (.bool)]))), (5, ([0, 3, 4, 5, 6, 7], ([4], [.tmp 29 (.bool)]))), (5, ([0, 3, 4, 5, 6, 7], ([4], [.tmp 34 (.bool)])))])) (.two (.two (.leaf) (.leaf)) (.leaf))) (.two (.join [0, 5, 6, 7] [] [⟨.normal, [], [.tmp 52 (.bool)]⟩] (.draw 11)) (.two (.two (.leaf) (.leaf)) (.leaf)))))) (.leaf))))))) (.two (.leaf) (.leaf)))
theorem s78 : SoundF cx.P cx.G 78 sg78 r78 := by
  have e : denF cx [] an78 Tryd.f78.ntmps (Tryd.f78.body.getD .skip) Tryd.f78.results.toList sg78 = r78 := by kernel_rfl
  rw [← e]
  exact sound_of_den (c := cx) (Known.nil) Tryd.func78 (by kernel_rfl) (Nat.le_of_ble_eq_true (by kernel_rfl)) rfl
/-! slices.Index[[]reredos/api.Txn,reredos/api.Txn] -/
noncomputable def r117_L0 (a : (List ((Int × Int)) × (Int × Int))) (d1 : Int) : Option (Int ⊕ (Unit ⊕ Int)) :=
 bif decide (d1 < (↑a.1.length : Int)) then
 Option.bind (idxI a.1 d1) fun (b3 : (Int × Int)) =>
 bif (decide (a.2.1 = b3.1) && (decide (a.2.2 = b3.2) && true)) then
 some (Sum.inr (Sum.inr d1))
 else
 some (Sum.inl (Go.IntKind.wrap .i64 (d1 + (1 : Int))))
 else
 some (Sum.inr (Sum.inl ()))
def sg117 : Sig := ⟨[⟨false, .bo, (.sl (.pair (.int .i64) (.int .i64)))⟩, ⟨true, .bo, (.pair (.int .i64) (.int .i64))⟩], [⟨false, .own, (.int .i64)⟩]⟩
noncomputable def r117 (a : (List ((Int × Int)) × (Int × Int))) : Option Int :=
 Option.bind (loopR (r117_L0 a) (0 : Int)) fun (q4 : (Unit ⊕ Int)) =>
 Sum.elim (fun (v5 : Unit) =>
 some (-1 : Int))
 (fun (v6 : Int) =>
 some v6) q4
def an117 : Ann := .two (.leaf) (.two (.two (.leaf) (.one (.loop [0, 3, 7] [3] [] [.tmp 8 (.int .i64)] [⟨.exit 0, [], []⟩, ⟨.ret, [], [.tmp 4 (.int .i64)]⟩] (.two (.leaf) (.two (.two (.leaf) (.leaf)) (.two (.one (.two (.leaf) (.two (.draw 5) (.two (.two (.leaf) (.leaf)) (.leaf))))) (.leaf))))))) (.two (.leaf) (.leaf)))
theorem s117 : SoundF cx.P cx.G 117 sg117 r117 := by
  have e : denF cx [] an117 Tryd.f117.ntmps (Tryd.f117.body.getD .skip) Tryd.f117.results.toList sg117 = r117 := by kernel_rfl
  rw [← e]
  exact sound_of_den (c := cx) (Known.nil) Tryd.func117 (by kernel_rfl) (Nat.le_of_ble_eq_true (by kernel_rfl)) rfl
/-! slices.Contains[[]reredos/api.Txn,reredos/api.Txn] -/
def sg88 : Sig := ⟨[⟨false, .bo, (.sl (.pair (.int .i64) (.int .i64)))⟩, ⟨true, .bo, (.pair (.int .i64) (.int .i64))⟩], [⟨false, .own, .bool⟩]⟩
noncomputable def r88 (a : (List ((Int × Int)) × (Int × Int))) : Option Bool :=
 Option.bind (r117 (a.1, a.2)) fun (y1 : Int) =>
 some (decide ((0 : Int) ≤ y1))
def an88 : Ann := .two (.leaf) (.two (.leaf) (.leaf))
theorem s88 : SoundF cx.P cx.G 88 sg88 r88 := by
  have e : denF cx [(117, ⟨sg117, r117⟩)] an88 Tryd.f88.ntmps (Tryd.f88.body.getD .skip) Tryd.f88.results.toList sg88 = r88 := by kernel_rfl
  rw [← e]
  exact sound_of_den (c := cx) (Known.cons (.ofF s117 (by kernel_rfl)) Tryd.func117 (by kernel_rfl) (by kernel_rfl) (Known.nil)) Tryd.func88 (by kernel_rfl) (Nat.le_of_ble_eq_true (by kernel_rfl)) rfl
/-! reredos/store.txn -/
def sg97 : Sig := ⟨[⟨true, .bo, (.pair (.int .i64) (.int .i64))⟩], [⟨false, .own, .bool⟩]⟩
noncomputable def r97 (a : (Int × Int)) : Option Bool :=
 Option.bind (
 bif decide ((0 : Int) ≤ a.1) then
 some (decide (a.1 < (4 : Int)))
 else
 some false) fun (g1 : Bool) =>
 Option.bind (
 bif g1 then
 some (decide ((1 : Int) ≤ a.2))
 else
 some false) fun (g2 : Bool) =>
 bif g2 then
 some (decide (a.2 ≤ (1048576 : Int)))
 else
 some false
def an97 : Ann := .two (.leaf) (.two (.segs [(8, ([1], ([1], [.tmp 10 (.bool)]))), (5, ([1], ([1], [.tmp 15 (.bool)])))]) (.leaf))
theorem s97 : SoundF cx.P cx.G 97 sg97 r97 := by
  have e : denF cx [] an97 Tryd.f97.ntmps (Tryd.f97.body.getD .skip) Tryd.f97.results.toList sg97 = r97 := by kernel_rfl
  rw [← e]
  exact sound_of_den (c := cx) (Known.nil) Tryd.func97 (by kernel_rfl) (Nat.le_of_ble_eq_true (by kernel_rfl)) rfl
/-! reredos/store.doubts -/
noncomputable def r79_L0 (a : T_12) (b2 : ((Int × Int) × Int)) (d26 : Int) : Option (Int ⊕ (Unit ⊕ Int)) :=
 bif decide (d26 < (↑a.2.1.length : Int)) then
 Option.bind (idxI a.2.1 d26) fun (b27 : T_13) =>
 bif (decide (b27.1.1 = b2.1.1) && (decide (b27.1.2 = b2.1.2) && true)) then
 some (Sum.inr (Sum.inr d26))
 else
 some (Sum.inl (Go.IntKind.wrap .i64 (d26 + (1 : Int))))
 else
 some (Sum.inr (Sum.inl ()))
noncomputable def r79_L1 (d1 : Int) (a : T_12) (b2 : ((Int × Int) × Int)) (d32 : Int) : Option (Int ⊕ (Unit ⊕ Bool)) :=
 bif decide (d32 < (↑((List.take (Int.toNat d1) a.2.2.1).length) : Int)) then
 Option.bind (idxI (List.take (Int.toNat d1) a.2.2.1) d32) fun (b33 : ((Int × Int) × Int)) =>
 bif (decide (b33.1.1 = b2.1.1) && (decide (b33.1.2 = b2.1.2) && true)) then
 some (Sum.inr (Sum.inr false))
 else
 some (Sum.inl (Go.IntKind.wrap .i64 (d32 + (1 : Int))))
 else
 some (Sum.inr (Sum.inl ()))
noncomputable def r79_L2 (a : T_12) (d1 : Int) : Option (Int ⊕ (Unit ⊕ Bool)) :=
 bif decide (d1 < (↑a.2.2.1.length : Int)) then
 Option.bind (idxI a.2.2.1 d1) fun (b2 : ((Int × Int) × Int)) =>
 Option.bind (
 Option.bind (
 Option.bind (r97 b2.1) fun (y11 : Bool) =>
 bif !(!(y11)) then
 some (decide (b2.2 < (0 : Int)))
 else
 some true) fun (g12 : Bool) =>
 Option.bind (
 bif !(g12) then
 some (decide ((1048576 : Int) < b2.2))
 else
 some true) fun (g13 : Bool) =>
 bif !(g13) then
 Option.bind (r88 (a.2.2.2, b2.1)) fun (y14 : Bool) =>
 some y14
 else
 some true) fun (d15 : Bool) =>
 bif d15 then
 some (Sum.inr (Sum.inr false))
 else
 Option.bind (
 Option.bind (loopR (r79_L0 a b2) (0 : Int)) fun (q28 : (Unit ⊕ Int)) =>
 Sum.elim (fun (v29 : Unit) =>
 some (-1 : Int))
 (fun (v30 : Int) =>
 some v30) q28) fun (d31 : Int) =>
 bif !(decide ((0 : Int) ≤ d31)) then
 some (Sum.inr (Sum.inr false))
 else
 bif okB none (some d1) none a.2.2.1.length then
 Option.bind (loopR (r79_L1 d1 a b2) (0 : Int)) fun (q34 : (Unit ⊕ Bool)) =>
 Sum.elim (fun (v35 : Unit) =>
 some (Sum.inl (Go.IntKind.wrap .i64 (d1 + (1 : Int)))))
 (fun (v36 : Bool) =>
 some (Sum.inr (Sum.inr v36))) q34
 else
 none
 else
 some (Sum.inr (Sum.inl ()))
noncomputable def r79_L3 (a : T_12) (d40 : Int) : Option (Int ⊕ (Unit ⊕ Bool)) :=
 bif decide (d40 < (↑a.2.2.2.length : Int)) then
 Option.bind (idxI a.2.2.2 d40) fun (b41 : (Int × Int)) =>
 Option.bind (
 Option.bind (r97 b41) fun (y52 : Bool) =>
 bif !(!(y52)) then
 bif okB none (some d40) none a.2.2.2.length then
 Option.bind (r88 (List.take (Int.toNat d40) a.2.2.2, b41)) fun (y53 : Bool) =>
 some y53
 else
 none
 else
 some true) fun (d54 : Bool) =>
 bif d54 then
 some (Sum.inr (Sum.inr false))
 else
 some (Sum.inl (Go.IntKind.wrap .i64 (d40 + (1 : Int))))
 else
 some (Sum.inr (Sum.inl ()))
def sg79 : Sig := ⟨[⟨true, .bo, E_16⟩], [⟨false, .own, .bool⟩]⟩
noncomputable def r79 (a : T_12) : Option Bool :=
 Option.bind (loopR (r79_L2 a) (0 : Int)) fun (q37 : (Unit ⊕ Bool)) =>
 Sum.elim (fun (v38 : Unit) =>
 Option.bind (loopR (r79_L3 a) (0 : Int)) fun (q55 : (Unit ⊕ Bool)) =>
 Sum.elim (fun (v56 : Unit) =>
 some true)
 (fun (v57 : Bool) =>
 some v57) q55)
 (fun (v39 : Bool) =>
 some v39) q37
def an79 : Ann := .two (.leaf) (.two (.two (.leaf) (.one (.loop [1, 10, 11] [1] [] [.tmp 12 (.int .i64)] [⟨.exit 0, [], []⟩, ⟨.ret, [], [.tmp 2 (.bool)]⟩] (.two (.leaf) (.two (.two (.leaf) (.leaf)) (.two (.one (.two (.leaf) (.two (.two (.join [1, 3, 4, 10, 11, 12] [1, 4] [⟨.normal, [], [.tmp 37 (.bool)]⟩] (.segs [(9, ([1, 3, 4, 10, 11, 12], ([1, 4], [.tmp 25 (.bool)]))), (5, ([1, 3, 4, 10, 11, 12], ([1, 4], [.tmp 30 (.bool)])))])) (.two (.two (.leaf) (.leaf)) (.leaf))) (.two (.two (.inl 3 79 (.two (.leaf) (.two (.inl 2 88 (.join [1, 3, 4, 10, 11, 12] [1, 4] [⟨.ret, [], [.tmp 92 (.int .i64)]⟩] (.two (.leaf) (.two (.two (.leaf) (.one (.loop [1, 3, 4, 10, 11, 12, 88, 89, 95] [1, 4] [] [.tmp 96 (.int .i64)] [⟨.exit 0, [], []⟩, ⟨.ret, [], [.tmp 92 (.int .i64)]⟩] (.two (.leaf) (.two (.two (.leaf) (.leaf)) (.two (.one (.two (.leaf) (.two (.inl 5 107 (.two (.leaf) (.two (.leaf) (.leaf))) (.leaf)) (.two (.two (.leaf) (.leaf)) (.leaf))))) (.leaf))))))) (.two (.leaf) (.leaf))))) (.leaf)) (.leaf))) (.leaf)) (.two (.two (.leaf) (.leaf)) (.leaf))) (.two (.leaf) (.one (.loop [1, 4, 10, 11, 12, 46, 47] [1, 4] [] [.tmp 48 (.int .i64)] [⟨.exit 2, [], []⟩, ⟨.ret, [], [.tmp 2 (.bool)]⟩] (.two (.leaf) (.two (.two (.leaf) (.leaf)) (.two (.one (.two (.leaf) (.two (.leaf) (.two (.two (.leaf) (.leaf)) (.leaf))))) (.leaf))))))))))) (.leaf))))))) (.two (.two (.leaf) (.one (.loop [1, 60, 61] [1] [] [.tmp 62 (.int .i64)] [⟨.exit 4, [], []⟩, ⟨.ret, [], [.tmp 2 (.bool)]⟩] (.two (.leaf) (.two (.two (.leaf) (.leaf)) (.two (.one (.two (.leaf) (.two (.join [1, 60, 61, 62] [1] [⟨.normal, [], [.tmp 77 (.bool)]⟩] (.draw 9)) (.two (.two (.leaf) (.leaf)) (.leaf))))) (.leaf))))))) (.two (.leaf) (.leaf))))
theorem s79 : SoundF cx.P cx.G 79 sg79 r79 := by
  have e : denF cx [(88, ⟨sg88, r88⟩), (97, ⟨sg97, r97⟩)] an79 Tryd.f79.ntmps (Tryd.f79.body.getD .skip) Tryd.f79.results.toList sg79 = r79 := by kernel_rfl
  rw [← e]
  exact sound_of_den (c := cx) (Known.cons (.ofF s88 (by kernel_rfl)) Tryd.func88 (by kernel_rfl) (by kernel_rfl) (Known.cons (.ofF s97 (by kernel_rfl)) Tryd.func97 (by kernel_rfl) (by kernel_rfl) (Known.nil))) Tryd.func79 (by kernel_rfl) (Nat.le_of_ble_eq_true (by kernel_rfl)) rfl
/-! reredos/store.doubted -/
noncomputable def r108_L0 (a : T_8) (d11 : Int) : Option (Int ⊕ (Unit ⊕ Int)) :=
 bif decide (d11 < (↑a.1.2.2.1.length : Int)) then
 Option.bind (idxI a.1.2.2.1 d11) fun (b12 : ((Int × Int) × Int)) =>
 bif (decide (b12.1.1 = a.2.1) && (decide (b12.1.2 = a.2.2) && true)) then
 some (Sum.inr (Sum.inr d11))
 else
 some (Sum.inl (Go.IntKind.wrap .i64 (d11 + (1 : Int))))
 else
 some (Sum.inr (Sum.inl ()))
def sg108 : Sig := ⟨[⟨true, .bo, E_16⟩, ⟨true, .bo, (.pair (.int .i64) (.int .i64))⟩], [⟨false, .own, .bool⟩]⟩
noncomputable def r108 (a : T_8) : Option Bool :=
 Option.bind (
 Option.bind (loopR (r108_L0 a) (0 : Int)) fun (q13 : (Unit ⊕ Int)) =>
 Sum.elim (fun (v14 : Unit) =>
 some (-1 : Int))
 (fun (v15 : Int) =>
 some v15) q13) fun (d16 : Int) =>
 some (decide ((0 : Int) ≤ d16))
def an108 : Ann := .two (.leaf) (.two (.inl 3 9 (.two (.leaf) (.two (.inl 2 18 (.join [] [] [⟨.ret, [], [.tmp 22 (.int .i64)]⟩] (.two (.leaf) (.two (.two (.leaf) (.one (.loop [18, 19, 25] [3] [] [.tmp 26 (.int .i64)] [⟨.exit 0, [], []⟩, ⟨.ret, [], [.tmp 22 (.int .i64)]⟩] (.two (.leaf) (.two (.two (.leaf) (.leaf)) (.two (.one (.two (.leaf) (.two (.inl 5 37 (.two (.leaf) (.two (.leaf) (.leaf))) (.leaf)) (.two (.two (.leaf) (.leaf)) (.leaf))))) (.leaf))))))) (.two (.leaf) (.leaf))))) (.leaf)) (.leaf))) (.leaf)) (.leaf))
theorem s108 : SoundF cx.P cx.G 108 sg108 r108 := by
  have e : denF cx [] an108 Tryd.f108.ntmps (Tryd.f108.body.getD .skip) Tryd.f108.results.toList sg108 = r108 := by kernel_rfl
  rw [← e]
  exact sound_of_den (c := cx) (Known.nil) Tryd.func108 (by kernel_rfl) (Nat.le_of_ble_eq_true (by kernel_rfl)) rfl
/-! reredos/store.locks -/
noncomputable def r80_L0 (d1 : Int) (a : T_12) (b2 : T_13) (d25 : Int) : Option (Int ⊕ (Unit ⊕ Bool)) :=
 bif decide (d25 < (↑((List.take (Int.toNat d1) a.2.1).length) : Int)) then
 Option.bind (idxI (List.take (Int.toNat d1) a.2.1) d25) fun (b26 : T_13) =>
 Option.bind (
 bif decide (b26.2.1 = b2.2.1) then
 bif !((decide (b26.1.1 = b2.1.1) && (decide (b26.1.2 = b2.1.2) && true))) then
 bif !(b26.2.2.1) then
 some b2.2.2.1
 else
 some true
 else
 some true
 else
 some false) fun (d27 : Bool) =>
 bif d27 then
 some (Sum.inr (Sum.inr false))
 else
 some (Sum.inl (Go.IntKind.wrap .i64 (d25 + (1 : Int))))
 else
 some (Sum.inr (Sum.inl ()))
noncomputable def r80_L1 (a : T_12) (d1 : Int) : Option (Int ⊕ (Unit ⊕ Bool)) :=
 bif decide (d1 < (↑a.2.1.length : Int)) then
 Option.bind (idxI a.2.1 d1) fun (b2 : T_13) =>
 Option.bind (
 Option.bind (
 Option.bind (r108 (a, b2.1)) fun (y17 : Bool) =>
 bif !(!(y17)) then
 some (decide (b2.2.1 < (0 : Int)))
 else
 some true) fun (g18 : Bool) =>
 Option.bind (
 bif !(g18) then
 some (decide ((8 : Int) ≤ b2.2.1))
 else
 some true) fun (g19 : Bool) =>
 Option.bind (
 bif !(g19) then
 some (decide (b2.2.2.2.1 < (0 : Int)))
 else
 some true) fun (g20 : Bool) =>
 Option.bind (
 bif !(g20) then
 some (decide ((1073741824 : Int) < b2.2.2.2.1))
 else
 some true) fun (g21 : Bool) =>
 Option.bind (
 bif !(g21) then
 some (decide (b2.2.2.2.2 < (0 : Int)))
 else
 some true) fun (g22 : Bool) =>
 Option.bind (
 bif !(g22) then
 some (decide ((1048576 : Int) < b2.2.2.2.2))
 else
 some true) fun (g23 : Bool) =>
 bif !(g23) then
 bif !(b2.2.2.1) then
 some (!(decide ((Go.IntKind.wrap .i64 (b2.2.2.2.1 + b2.2.2.2.2)) = (0 : Int))))
 else
 some false
 else
 some true) fun (d24 : Bool) =>
 bif d24 then
 some (Sum.inr (Sum.inr false))
 else
 bif okB none (some d1) none a.2.1.length then
 Option.bind (loopR (r80_L0 d1 a b2) (0 : Int)) fun (q28 : (Unit ⊕ Bool)) =>
 Sum.elim (fun (v29 : Unit) =>
 some (Sum.inl (Go.IntKind.wrap .i64 (d1 + (1 : Int)))))
 (fun (v30 : Bool) =>
 some (Sum.inr (Sum.inr v30))) q28
 else
 none
 else
 some (Sum.inr (Sum.inl ()))
def sg80 : Sig := ⟨[⟨true, .bo, E_16⟩], [⟨false, .own, .bool⟩]⟩
noncomputable def r80 (a : T_12) : Option Bool :=
 Option.bind (loopR (r80_L1 a) (0 : Int)) fun (q31 : (Unit ⊕ Bool)) =>
 Sum.elim (fun (v32 : Unit) =>
 some (decide ((↑a.2.1.length : Int) ≤ (24 : Int))))
 (fun (v33 : Bool) =>
 some v33) q31
def an80 : Ann := .two (.leaf) (.two (.two (.leaf) (.one (.loop [1, 8, 9] [1] [] [.tmp 10 (.int .i64)] [⟨.exit 0, [], []⟩, ⟨.ret, [], [.tmp 2 (.bool)]⟩] (.two (.leaf) (.two (.two (.leaf) (.leaf)) (.two (.one (.two (.leaf) (.two (.two (.join [1, 3, 4, 8, 9, 10] [1, 4] [⟨.normal, [], [.tmp 62 (.bool)]⟩] (.segs [(10, ([1, 3, 4, 8, 9, 10], ([1, 4], [.tmp 24 (.bool)]))), (5, ([1, 3, 4, 8, 9, 10], ([1, 4], [.tmp 29 (.bool)]))), (5, ([1, 3, 4, 8, 9, 10], ([1, 4], [.tmp 34 (.bool)]))), (5, ([1, 3, 4, 8, 9, 10], ([1, 4], [.tmp 39 (.bool)]))), (5, ([1, 3, 4, 8, 9, 10], ([1, 4], [.tmp 44 (.bool)]))), (5, ([1, 3, 4, 8, 9, 10], ([1, 4], [.tmp 49 (.bool)])))])) (.two (.two (.leaf) (.leaf)) (.leaf))) (.two (.leaf) (.one (.loop [1, 4, 8, 9, 10, 66, 67] [1, 4] [] [.tmp 68 (.int .i64)] [⟨.exit 2, [], []⟩, ⟨.ret, [], [.tmp 2 (.bool)]⟩] (.two (.leaf) (.two (.two (.leaf) (.leaf)) (.two (.one (.two (.leaf) (.two (.join [1, 4, 8, 9, 10, 66, 67, 68] [1, 4] [⟨.normal, [], [.tmp 91 (.bool)]⟩] (.leaf)) (.two (.two (.leaf) (.leaf)) (.leaf))))) (.leaf)))))))))) (.leaf))))))) (.two (.leaf) (.leaf)))
theorem s80 : SoundF cx.P cx.G 80 sg80 r80 := by
  have e : denF cx [(108, ⟨sg108, r108⟩)] an80 Tryd.f80.ntmps (Tryd.f80.body.getD .skip) Tryd.f80.results.toList sg80 = r80 := by kernel_rfl
  rw [← e]
  exact sound_of_den (c := cx) (Known.cons (.ofF s108 (by kernel_rfl)) Tryd.func108 (by kernel_rfl) (by kernel_rfl) (Known.nil)) Tryd.func80 (by kernel_rfl) (Nat.le_of_ble_eq_true (by kernel_rfl)) rfl
/-! reredos/store.Check -/
def sg47 : Sig := ⟨[⟨true, .bo, E_16⟩], [⟨false, .own, (.int .i64)⟩]⟩
noncomputable def r47 (a : T_12) : Option Int :=
 Option.bind (
 Option.bind (
 Option.bind (r78 a.1) fun (y9 : Bool) =>
 bif !(!(y9)) then
 Option.bind (r79 a) fun (y10 : Bool) =>
 some !(y10)
 else
 some true) fun (g11 : Bool) =>
 bif !(g11) then
 Option.bind (r80 a) fun (y12 : Bool) =>
 some !(y12)
 else
 some true) fun (d13 : Bool) =>
 bif d13 then
 some (9 : Int)
 else
 some (0 : Int)
def an47 : Ann := .two (.leaf) (.two (.two (.join [] [] [⟨.normal, [], [.tmp 16 (.bool)]⟩] (.segs [(9, ([1], ([1], [.tmp 11 (.bool)])))])) (.two (.two (.leaf) (.leaf)) (.leaf))) (.two (.leaf) (.leaf)))
theorem s47 : SoundF cx.P cx.G 47 sg47 r47 := by
  have e : denF cx [(78, ⟨sg78, r78⟩), (79, ⟨sg79, r79⟩), (80, ⟨sg80, r80⟩)] an47 Tryd.f47.ntmps (Tryd.f47.body.getD .skip) Tryd.f47.results.toList sg47 = r47 := by kernel_rfl
  rw [← e]
  exact sound_of_den (c := cx) (Known.cons (.ofF s78 (by kernel_rfl)) Tryd.func78 (by kernel_rfl) (by kernel_rfl) (Known.cons (.ofF s79 (by kernel_rfl)) Tryd.func79 (by kernel_rfl) (by kernel_rfl) (Known.cons (.ofF s80 (by kernel_rfl)) Tryd.func80 (by kernel_rfl) (by kernel_rfl) (Known.nil)))) Tryd.func47 (by kernel_rfl) (Nat.le_of_ble_eq_true (by kernel_rfl)) rfl
/-! reredos/store.call -/
def sg57 : Sig := ⟨[⟨true, .bo, E_16⟩, ⟨true, .bo, (.pair (.int .i64) (.int .i64))⟩, ⟨false, .bo, (.int .i64)⟩], [⟨false, .own, (.int .i64)⟩]⟩
noncomputable def r57 (a : T_5) : Option Int :=
 Option.bind (r47 a.1) fun (y1 : Int) =>
 bif !(decide (y1 = (0 : Int))) then
 some y1
 else
 Option.bind (
 Option.bind (
 Option.bind (r97 a.2.1) fun (y6 : Bool) =>
 bif !(!(y6)) then
 some (decide (a.2.2 < (0 : Int)))
 else
 some true) fun (g7 : Bool) =>
 bif !(g7) then
 some (decide ((8 : Int) ≤ a.2.2))
 else
 some true) fun (d8 : Bool) =>
 bif d8 then
 some (2 : Int)
 else
 some (0 : Int)
def an57 : Ann := .two (.leaf) (.two (.two (.leaf) (.two (.leaf) (.two (.two (.leaf) (.leaf)) (.leaf)))) (.two (.two (.join [] [] [⟨.normal, [], [.tmp 23 (.bool)]⟩] (.segs [(7, ([2], ([], [.tmp 19 (.bool)])))])) (.two (.two (.leaf) (.leaf)) (.leaf))) (.two (.leaf) (.leaf))))
theorem s57 : SoundF cx.P cx.G 57 sg57 r57 := by
  have e : denF cx [(47, ⟨sg47, r47⟩), (97, ⟨sg97, r97⟩)] an57 Tryd.f57.ntmps (Tryd.f57.body.getD .skip) Tryd.f57.results.toList sg57 = r57 := by kernel_rfl
  rw [← e]
  exact sound_of_den (c := cx) (Known.cons (.ofF s47 (by kernel_rfl)) Tryd.func47 (by kernel_rfl) (by kernel_rfl) (Known.cons (.ofF s97 (by kernel_rfl)) Tryd.func97 (by kernel_rfl) (by kernel_rfl) (Known.nil))) Tryd.func57 (by kernel_rfl) (Nat.le_of_ble_eq_true (by kernel_rfl)) rfl
/-! reredos/store.Writes -/
noncomputable def r27_L0 (a : T_8) (d2 : (Int × Int)) : Option ((Int × Int) ⊕ Int) :=
 bif decide (d2.2 < (↑a.1.2.1.length : Int)) then
 Option.bind (
 Option.bind (idxI a.1.2.1 d2.2) fun (b7 : T_13) =>
 Option.bind (
 bif (decide (b7.1.1 = a.2.1) && (decide (b7.1.2 = a.2.2) && true)) then
 some b7.2.2.1
 else
 some false) fun (d8 : Bool) =>
 bif d8 then
 some (Go.IntKind.wrap .i64 (d2.1 + (1 : Int)))
 else
 some d2.1) fun (d9 : Int) =>
 some (Sum.inl (d9, (Go.IntKind.wrap .i64 (d2.2 + (1 : Int)))))
 else
 some (Sum.inr d2.1)
def sg27 : Sig := ⟨[⟨true, .bo, E_16⟩, ⟨true, .bo, (.pair (.int .i64) (.int .i64))⟩], [⟨false, .own, (.int .i64)⟩, ⟨false, .own, (.int .i64)⟩]⟩
noncomputable def r27 (a : T_8) : Option (Int × Int) :=
 Option.bind (r57 (a.1, a.2, (0 : Int))) fun (y1 : Int) =>
 bif !(decide (y1 = (0 : Int))) then
 some ((0 : Int), y1)
 else
 Option.bind (loopR (r27_L0 a) ((0 : Int), (0 : Int))) fun (q10 : Int) =>
 some (q10, (0 : Int))
def an27 : Ann := .two (.leaf) (.two (.two (.leaf) (.two (.leaf) (.two (.two (.leaf) (.leaf)) (.leaf)))) (.two (.leaf) (.two (.two (.leaf) (.one (.loop [3, 17, 18] [3] [] [.tmp 7 (.int .i64), .tmp 19 (.int .i64)] [⟨.exit 0, [], [.tmp 7 (.int .i64)]⟩] (.two (.leaf) (.two (.two (.leaf) (.leaf)) (.two (.join [3, 17, 18, 19] [3] [⟨.normal, [], [.tmp 7 (.int .i64)]⟩] (.one (.two (.leaf) (.two (.join [3, 7, 17, 18, 19] [3] [⟨.normal, [], [.tmp 30 (.bool)]⟩] (.leaf)) (.two (.leaf) (.leaf)))))) (.leaf))))))) (.two (.leaf) (.leaf)))))
theorem s27 : SoundF cx.P cx.G 27 sg27 r27 := by
  have e : denF cx [(57, ⟨sg57, r57⟩)] an27 Tryd.f27.ntmps (Tryd.f27.body.getD .skip) Tryd.f27.results.toList sg27 = r27 := by kernel_rfl
  rw [← e]
  exact sound_of_den (c := cx) (Known.cons (.ofF s57 (by kernel_rfl)) Tryd.func57 (by kernel_rfl) (by kernel_rfl) (Known.nil)) Tryd.func27 (by kernel_rfl) (Nat.le_of_ble_eq_true (by kernel_rfl)) rfl
/-! reredos/label.one -/
def sg58 : Sig := ⟨[⟨true, .bo, (.pair (.int .i64) (.int .i64))⟩], [⟨false, .own, .bool⟩]⟩
noncomputable def r58 (a : (Int × Int)) : Option Bool :=
 Option.bind (
 bif decide ((0 : Int) ≤ a.1) then
 some (decide (a.1 ≤ (9 : Int)))
 else
 some false) fun (g1 : Bool) =>
 Option.bind (
 bif g1 then
 some (decide ((0 : Int) ≤ a.2))
 else
 some false) fun (g2 : Bool) =>
 bif g2 then
 some (decide (a.2 ≤ (15 : Int)))
 else
 some false
def an58 : Ann := .two (.leaf) (.two (.segs [(8, ([1], ([1], [.tmp 10 (.bool)]))), (5, ([1], ([1], [.tmp 15 (.bool)])))]) (.leaf))
theorem s58 : SoundF cx.P cx.G 58 sg58 r58 := by
  have e : denF cx [] an58 Tryd.f58.ntmps (Tryd.f58.body.getD .skip) Tryd.f58.results.toList sg58 = r58 := by kernel_rfl
  rw [← e]
  exact sound_of_den (c := cx) (Known.nil) Tryd.func58 (by kernel_rfl) (Nat.le_of_ble_eq_true (by kernel_rfl)) rfl
/-! reredos/label.Check -/
noncomputable def r29_L0 (d3 : Int) (a : (Int × (List ((Int × Int)) × Int))) (b4 : (Int × Int)) (d6 : Int) : Option (Int ⊕ (Unit ⊕ Int)) :=
 bif decide (d6 < (↑((List.take (Int.toNat d3) a.2.1).length) : Int)) then
 Option.bind (idxI (List.take (Int.toNat d3) a.2.1) d6) fun (b7 : (Int × Int)) =>
 bif (decide (b7.1 = b4.1) && (decide (b7.2 = b4.2) && true)) then
 some (Sum.inr (Sum.inr (7 : Int)))
 else
 some (Sum.inl (Go.IntKind.wrap .i64 (d6 + (1 : Int))))
 else
 some (Sum.inr (Sum.inl ()))
noncomputable def r29_L1 (a : (Int × (List ((Int × Int)) × Int))) (d3 : Int) : Option (Int ⊕ (Unit ⊕ Int)) :=
 bif decide (d3 < (↑a.2.1.length : Int)) then
 Option.bind (idxI a.2.1 d3) fun (b4 : (Int × Int)) =>
 Option.bind (r58 b4) fun (y5 : Bool) =>
 bif !(y5) then
 some (Sum.inr (Sum.inr (2 : Int)))
 else
 bif okB none (some d3) none a.2.1.length then
 Option.bind (loopR (r29_L0 d3 a b4) (0 : Int)) fun (q8 : (Unit ⊕ Int)) =>
 Sum.elim (fun (v9 : Unit) =>
 some (Sum.inl (Go.IntKind.wrap .i64 (d3 + (1 : Int)))))
 (fun (v10 : Int) =>
 some (Sum.inr (Sum.inr v10))) q8
 else
 none
 else
 some (Sum.inr (Sum.inl ()))
def sg29 : Sig := ⟨[⟨true, .bo, (.pair (.int .i64) (.pair (.sl (.pair (.int .i64) (.int .i64))) (.int .i64)))⟩], [⟨false, .own, (.int .i64)⟩]⟩
noncomputable def r29 (a : (Int × (List ((Int × Int)) × Int))) : Option Int :=
 Option.bind (
 bif !(decide (a.1 < (1 : Int))) then
 some (decide ((4 : Int) < a.1))
 else
 some true) fun (d1 : Bool) =>
 bif d1 then
 some (2 : Int)
 else
 Option.bind (
 bif !(decide ((↑a.2.1.length : Int) < (1 : Int))) then
 some (decide ((6 : Int) < (↑a.2.1.length : Int)))
 else
 some true) fun (d2 : Bool) =>
 bif d2 then
 some (1 : Int)
 else
 Option.bind (loopR (r29_L1 a) (0 : Int)) fun (q11 : (Unit ⊕ Int)) =>
 Sum.elim (fun (v12 : Unit) =>
 Option.bind (
 bif !(decide (a.2.2 < (1 : Int))) then
 some (decide ((1048576 : Int) < a.2.2))
 else
 some true) fun (d14 : Bool) =>
 bif d14 then
 some (2 : Int)
 else
 some (0 : Int))
 (fun (v13 : Int) =>
 some v13) q11
def an29 : Ann := .two (.leaf) (.two (.two (.join [1] [1] [⟨.normal, [], [.tmp 14 (.bool)]⟩] (.leaf)) (.two (.two (.leaf) (.leaf)) (.leaf))) (.two (.two (.join [1] [1] [⟨.normal, [], [.tmp 24 (.bool)]⟩] (.leaf)) (.two (.two (.leaf) (.leaf)) (.leaf))) (.two (.two (.leaf) (.one (.loop [1, 26, 27] [1] [] [.tmp 28 (.int .i64)] [⟨.exit 0, [], []⟩, ⟨.ret, [], [.tmp 2 (.int .i64)]⟩] (.two (.leaf) (.two (.two (.leaf) (.leaf)) (.two (.one (.two (.leaf) (.two (.two (.leaf) (.two (.two (.leaf) (.leaf)) (.leaf))) (.two (.leaf) (.one (.loop [1, 4, 26, 27, 28, 39, 40] [1, 4] [] [.tmp 41 (.int .i64)] [⟨.exit 2, [], []⟩, ⟨.ret, [], [.tmp 2 (.int .i64)]⟩] (.two (.leaf) (.two (.two (.leaf) (.leaf)) (.two (.one (.two (.leaf) (.two (.leaf) (.two (.two (.leaf) (.leaf)) (.leaf))))) (.leaf)))))))))) (.leaf))))))) (.two (.two (.join [] [] [⟨.normal, [], [.tmp 57 (.bool)]⟩] (.leaf)) (.two (.two (.leaf) (.leaf)) (.leaf))) (.two (.leaf) (.leaf))))))
theorem s29 : SoundF cx.P cx.G 29 sg29 r29 := by
  have e : denF cx [(58, ⟨sg58, r58⟩)] an29 Tryd.f29.ntmps (Tryd.f29.body.getD .skip) Tryd.f29.results.toList sg29 = r29 := by kernel_rfl
  rw [← e]
  exact sound_of_den (c := cx) (Known.cons (.ofF s58 (by kernel_rfl)) Tryd.func58 (by kernel_rfl) (by kernel_rfl) (Known.nil)) Tryd.func29 (by kernel_rfl) (Nat.le_of_ble_eq_true (by kernel_rfl)) rfl
/-! reredos/label.Above -/
def sg48 : Sig := ⟨[⟨true, .bo, (.pair (.int .i64) (.int .i64))⟩, ⟨true, .bo, (.pair (.int .i64) (.int .i64))⟩], [⟨false, .own, .bool⟩]⟩
noncomputable def r48 (a : ((Int × Int) × (Int × Int))) : Option Bool :=
 bif decide (a.2.1 ≤ a.1.1) then
 some (decide ((Go.bits .and .i64 a.1.2 a.2.2) = a.2.2))
 else
 some false
def an48 : Ann := .two (.leaf) (.two (.leaf) (.leaf))
theorem s48 : SoundF cx.P cx.G 48 sg48 r48 := by
  have e : denF cx [] an48 Tryd.f48.ntmps (Tryd.f48.body.getD .skip) Tryd.f48.results.toList sg48 = r48 := by kernel_rfl
  rw [← e]
  exact sound_of_den (c := cx) (Known.nil) Tryd.func48 (by kernel_rfl) (Nat.le_of_ble_eq_true (by kernel_rfl)) rfl
/-! reredos/console.prepared -/
def sg51 : Sig := ⟨[⟨true, .bo, E_16⟩, ⟨true, .bo, (.pair (.int .i64) (.int .i64))⟩], [⟨false, .own, .bool⟩]⟩
noncomputable def r51 (a : T_8) : Option Bool :=
 Option.bind (r27 (a.1, a.2)) fun (y1 : (Int × Int)) =>
 bif decide (y1.2 = (0 : Int)) then
 some (decide ((0 : Int) < y1.1))
 else
 some false
def an51 : Ann := .two (.leaf) (.two (.leaf) (.two (.leaf) (.leaf)))
theorem s51 : SoundF cx.P cx.G 51 sg51 r51 := by
  have e : denF cx [(27, ⟨sg27, r27⟩)] an51 Tryd.f51.ntmps (Tryd.f51.body.getD .skip) Tryd.f51.results.toList sg51 = r51 := by kernel_rfl
  rw [← e]
  exact sound_of_den (c := cx) (Known.cons (.ofF s27 (by kernel_rfl)) Tryd.func27 (by kernel_rfl) (by kernel_rfl) (Known.nil)) Tryd.func51 (by kernel_rfl) (Nat.le_of_ble_eq_true (by kernel_rfl)) rfl
/-! (*strings.Builder).WriteString -/
theorem bldCheck52 : CheckOk cx.P 84 121 := ⟨Tryd.copyCheck_used, Tryd.copyCheck_fresh⟩
set_option maxRecDepth 20000 in
theorem walk52 (w w1 w2 : World) (b : Nat) (base : Option Addr) (n cap : Nat) (s : ByteArray) (b' : Option Addr) (n' cap' : Nat)
    (hcc : Calls Tryd.prog 84 #[.pointer (some ⟨b, 0, none⟩)] w fun e w' => e = .returned (.tuple #[]) ∧ w' = w1)
    (hb1 : w1.heap[b]? = some (.cells #[.pointer (some ⟨b, 0, none⟩), .slice base n cap] 121 (0, 0)))
    (happ : (Builtin.append_ #[119, 9] 119 #[.slice base n cap, .string s]).run Tryd.prog w1 = .ok (.slice b' n' cap') w2)
    (hb2 : w2.heap[b]? = some (.cells #[.pointer (some ⟨b, 0, none⟩), .slice base n cap] 121 (0, 0))) :
    Calls Tryd.prog 52 #[.pointer (some ⟨b, 0, none⟩), .string s] w fun e w' => e = .returned (.tuple #[.int .i64 s.size, .nilIface]) ∧ w' = w2.setCell ⟨b, 1, none⟩ (.slice b' n' cap') := by
  have c0 : w1.cell? ⟨b, 0, none⟩ = some (.pointer (some ⟨b, 0, none⟩)) := by rw [Lib.cell_of_heap hb1]; rfl
  have c1 : w1.cell? ⟨b, 1, none⟩ = some (.slice base n cap) := by rw [Lib.cell_of_heap hb1]; rfl
  have d0 : w2.cell? ⟨b, 0, none⟩ = some (.pointer (some ⟨b, 0, none⟩)) := by rw [Lib.cell_of_heap hb2]; rfl
  have d1 : w2.cell? ⟨b, 1, none⟩ = some (.slice base n cap) := by rw [Lib.cell_of_heap hb2]; rfl
  have f1 : w2.frozen? ⟨b, 1, none⟩ = false := Lib.frozen_of_heap hb2 1
  have ec : ∀ args w, (callFunc 84 args).run Tryd.prog w = .ok (.enter 84 args) w := fun args w => enters_of Tryd.func84 (by kernel_rfl) rfl args w
  go_enter Tryd.func52, Tryd.f52
  go_wp2_with (go_at_call 84; refine hcc.mono ?_)
  rintro e w' ⟨rfl, rfl⟩
  go_wp2_with (at_builtin; refine wpList_val rfl (v := .slice b' n' cap') (w' := w2) (by simp [execOp, resolve, invoke, builtin, Act.eval, happ]) ?_)
  go_wp2
  go_ret2
  exact ⟨rfl, rfl⟩
def sg52 : Sig := ⟨[⟨false, .own, .bld (121, 5)⟩, ⟨false, .bo, .str⟩], [⟨false, .own, .int .i64⟩, ⟨false, .own, .ifc⟩, ⟨false, .own, .bld (121, 5)⟩]⟩
noncomputable def r52 (a : List UInt8 × List UInt8) : Option (Int × Bool × List UInt8) := writeStrR a
theorem s52 : SoundM cx.P cx.G 52 sg52 r52 := writeStr_sound (c := cx) (cc := 84) (t := (121, 5)) (st := 119) (xt := 9) (tysOk 119 ⟨.sl 5, 1, 24, [.slice none 0 0], false, [some (.int .u8)], [none], (.sl (.int .u8))⟩ (by kernel_rfl)) rfl (tysOk 5 ⟨.int .u8, 1, 1, [.int .u8 0], false, [none], [none], (.int .u8)⟩ (by kernel_rfl)) rfl rfl rfl Tryd.underlying9 bldCheck52 walk52
/-! strconv.Itoa -/
def sg82 : Sig := ⟨[⟨false, .bo, (.int .i64)⟩], [⟨false, .own, .str⟩]⟩
noncomputable def r82 (a : Int) : Option (List UInt8) := itoaR a
theorem s82 : SoundF cx.P cx.G 82 sg82 r82 := itoa_sound (g := 1) Tryd.strconv_Itoa (by kernel_rfl) (show Go.V.look cx.G 1 = some (.ga (.int .u64) tab1) by kernel_rfl) (by kernel_rfl)
/-! reredos/console.words -/
def sg81 : Sig := ⟨[⟨false, .bo, (.int .i64)⟩, ⟨true, .bo, (.pair (.int .i64) (.int .i64))⟩], [⟨false, .own, .str⟩]⟩
noncomputable def r81 (a : (Int × (Int × Int))) : Option (List UInt8) :=
 Option.bind (r82 a.1) fun (y4 : List UInt8) =>
 bif decide (y4.length + ([32] : List UInt8).length ≤ 9223372036854775807) then
 Option.bind (r82 a.2.1) fun (y5 : List UInt8) =>
 bif decide ((y4 ++ ([32] : List UInt8)).length + y5.length ≤ 9223372036854775807) then
 bif decide (((y4 ++ ([32] : List UInt8)) ++ y5).length + ([32] : List UInt8).length ≤ 9223372036854775807) then
 Option.bind (r82 a.2.2) fun (y6 : List UInt8) =>
 bif decide ((((y4 ++ ([32] : List UInt8)) ++ y5) ++ ([32] : List UInt8)).length + y6.length ≤ 9223372036854775807) then
 some ((((y4 ++ ([32] : List UInt8)) ++ y5) ++ ([32] : List UInt8)) ++ y6)
 else
 none
 else
 none
 else
 none
 else
 none
def an81 : Ann := .two (.leaf) (.two (.draw 11) (.leaf))
theorem s81 : SoundF cx.P cx.G 81 sg81 r81 := by
  have e : denF cx [(82, ⟨sg82, r82⟩)] an81 Tryd.f81.ntmps (Tryd.f81.body.getD .skip) Tryd.f81.results.toList sg81 = r81 := by kernel_rfl
  rw [← e]
  exact sound_of_den (c := cx) (Known.cons (.ofF s82 (by kernel_rfl)) Tryd.func82 (by kernel_rfl) (by kernel_rfl) (Known.nil)) Tryd.func81 (by kernel_rfl) (Nat.le_of_ble_eq_true (by kernel_rfl)) rfl
/-! reredos/console.list -/
noncomputable def r49_L0 (a : (List UInt8 × T_11)) (d27 : (Unit × (Int × List UInt8))) : Option ((Unit × (Int × List UInt8)) ⊕ (Unit × List UInt8)) :=
 bif decide (d27.2.1 < (↑a.2.2.2.2.1.length : Int)) then
 Option.bind (
 Option.bind (idxI a.2.2.2.2.1 d27.2.1) fun (b44 : ((Int × Int) × Int)) =>
 Option.bind (r51 (a.2.2, b44.1)) fun (y45 : Bool) =>
 bif y45 then
 Option.bind (r81 (a.2.1, b44.1)) fun (y49 : List UInt8) =>
 bif decide (y49.length + ([32] : List UInt8).length ≤ 9223372036854775807) then
 Option.bind (r82 b44.2) fun (y50 : List UInt8) =>
 bif decide ((y49 ++ ([32] : List UInt8)).length + y50.length ≤ 9223372036854775807) then
 bif decide (((y49 ++ ([32] : List UInt8)) ++ y50).length + ([10] : List UInt8).length ≤ 9223372036854775807) then
 Option.bind (r52 (d27.2.2, (((y49 ++ ([32] : List UInt8)) ++ y50) ++ ([10] : List UInt8)))) fun (y51 : (Int × (Bool × List UInt8))) =>
 some ((), y51.2.2)
 else
 none
 else
 none
 else
 none
 else
 some ((), d27.2.2)) fun (d52 : (Unit × List UInt8)) =>
 some (Sum.inl ((), ((Go.IntKind.wrap .i64 (d27.2.1 + (1 : Int))), d52.2)))
 else
 some (Sum.inr ((), d27.2.2))
def sg49 : Sig := ⟨[⟨false, .own, (.bld (121, 5))⟩, ⟨false, .bo, (.int .i64)⟩, ⟨true, .bo, E_16⟩], [⟨false, .own, (.bld (121, 5))⟩]⟩
noncomputable def r49 (a : (List UInt8 × T_11)) : Option (List UInt8) :=
 Option.bind (loopR (r49_L0 a) ((), ((0 : Int), a.1))) fun (q53 : (Unit × List UInt8)) =>
 some q53.2
def an49 : Ann := .two (.leaf) (.two (.leaf) (.one (.loop [1, 5, 9, 10] [5] [] [.tmp 0 (.pt 0 [(0, 0)] 0 0 0), .tmp 11 (.int .i64), .row 0 [.bld (121, 5)]] [⟨.exit 0, [], [.tmp 0 (.pt 0 [(0, 0)] 0 0 0), .row 0 [.bld (121, 5)]]⟩] (.two (.leaf) (.two (.two (.leaf) (.leaf)) (.two (.join [1, 5, 9, 10, 11] [5] [⟨.normal, [], [.tmp 0 (.pt 0 [(0, 0)] 0 0 0), .row 0 [.bld (121, 5)]]⟩] (.one (.two (.leaf) (.two (.leaf) (.two (.draw 11) (.leaf)))))) (.leaf)))))))
theorem s49 : SoundM cx.P cx.G 49 sg49 r49 := by
  have e : denM cx [(51, ⟨sg51, r51⟩), (52, ⟨sg52, r52⟩), (81, ⟨sg81, r81⟩), (82, ⟨sg82, r82⟩)] an49 Tryd.f49.ntmps (Tryd.f49.body.getD .skip) Tryd.f49.results.toList sg49 = r49 := by kernel_rfl
  rw [← e]
  exact sound_of_denM (c := cx) (Known.cons (.ofF s51 (by kernel_rfl)) Tryd.func51 (by kernel_rfl) (by kernel_rfl) (Known.cons (.ofM s52 (by kernel_rfl)) Tryd.func52 (by kernel_rfl) (by kernel_rfl) (Known.cons (.ofF s81 (by kernel_rfl)) Tryd.func81 (by kernel_rfl) (by kernel_rfl) (Known.cons (.ofF s82 (by kernel_rfl)) Tryd.func82 (by kernel_rfl) (by kernel_rfl) (Known.nil))))) Tryd.func49 (by kernel_rfl) (Nat.le_of_ble_eq_true (by kernel_rfl)) rfl
/-! (*strings.Builder).WriteByte -/
theorem bldCheck83 : CheckOk cx.P 84 121 := ⟨Tryd.copyCheck_used, Tryd.copyCheck_fresh⟩
set_option maxRecDepth 20000 in
theorem walk83 (w w1 w2 : World) (b : Nat) (base : Option Addr) (n cap : Nat) (ch : Int) (b' : Option Addr) (n' cap' : Nat)
    (hcc : Calls Tryd.prog 84 #[.pointer (some ⟨b, 0, none⟩)] w fun e w' => e = .returned (.tuple #[]) ∧ w' = w1)
    (hb1 : w1.heap[b]? = some (.cells #[.pointer (some ⟨b, 0, none⟩), .slice base n cap] 121 (0, 0)))
    (happ : (Builtin.append_ #[119, 119] 119 #[.slice base n cap, .slice (some ⟨w1.heap.size, 0, none⟩) 1 1]).run Tryd.prog (w1.alloc (.cells #[.int .u8 ch] 5)) = .ok (.slice b' n' cap') w2)
    (hb2 : w2.heap[b]? = some (.cells #[.pointer (some ⟨b, 0, none⟩), .slice base n cap] 121 (0, 0))) :
    Calls Tryd.prog 83 #[.pointer (some ⟨b, 0, none⟩), .int .u8 ch] w fun e w' => e = .returned .nilIface ∧ w' = w2.setCell ⟨b, 1, none⟩ (.slice b' n' cap') := by
  have c0 : w1.cell? ⟨b, 0, none⟩ = some (.pointer (some ⟨b, 0, none⟩)) := by rw [Lib.cell_of_heap hb1]; rfl
  have c1 : w1.cell? ⟨b, 1, none⟩ = some (.slice base n cap) := by rw [Lib.cell_of_heap hb1]; rfl
  have d0 : w2.cell? ⟨b, 0, none⟩ = some (.pointer (some ⟨b, 0, none⟩)) := by rw [Lib.cell_of_heap hb2]; rfl
  have d1 : w2.cell? ⟨b, 1, none⟩ = some (.slice base n cap) := by rw [Lib.cell_of_heap hb2]; rfl
  have f1 : w2.frozen? ⟨b, 1, none⟩ = false := Lib.frozen_of_heap hb2 1
  have ec : ∀ args w, (callFunc 84 args).run Tryd.prog w = .ok (.enter 84 args) w := fun args w => enters_of Tryd.func84 (by kernel_rfl) rfl args w
  go_enter Tryd.func83, Tryd.f83
  go_wp2_with (go_at_call 84; refine hcc.mono ?_)
  rintro e w' ⟨rfl, rfl⟩
  go_wp2_with (at_builtin; refine wpList_val rfl (v := .slice b' n' cap') (w' := w2) (by simp [execOp, resolve, invoke, builtin, Act.eval, happ]) ?_)
  go_wp2
  go_ret
  exact ⟨rfl, rfl⟩
def sg83 : Sig := ⟨[⟨false, .own, .bld (121, 5)⟩, ⟨false, .bo, .int .u8⟩], [⟨false, .own, .ifc⟩, ⟨false, .own, .bld (121, 5)⟩]⟩
noncomputable def r83 (a : List UInt8 × Int) : Option (Bool × List UInt8) := writeByteR a
theorem s83 : SoundM cx.P cx.G 83 sg83 r83 := writeByte_sound (c := cx) (cc := 84) (t := (121, 5)) (st := 119) (tysOk 119 ⟨.sl 5, 1, 24, [.slice none 0 0], false, [some (.int .u8)], [none], (.sl (.int .u8))⟩ (by kernel_rfl)) rfl (tysOk 5 ⟨.int .u8, 1, 1, [.int .u8 0], false, [none], [none], (.int .u8)⟩ (by kernel_rfl)) rfl rfl rfl bldCheck83 walk83
/-! reredos/console.audit -/
noncomputable def r50_L0 (a : (List UInt8 × (Int × List (((Int × Int) × (Bool × Bool)))))) (d17 : (Unit × (Int × List UInt8))) : Option ((Unit × (Int × List UInt8)) ⊕ (Unit × List UInt8)) :=
 bif decide (d17.2.1 < (↑a.2.2.length : Int)) then
 Option.bind (idxI a.2.2 d17.2.1) fun (b18 : ((Int × Int) × (Bool × Bool))) =>
 Option.bind (r81 (a.2.1, b18.1)) fun (y19 : List UInt8) =>
 Option.bind (r52 (d17.2.2, y19)) fun (y20 : (Int × (Bool × List UInt8))) =>
 Option.bind (
 bif b18.2.1 then
 Option.bind (r52 (y20.2.2, ([32, 99, 111, 109, 109, 105, 116] : List UInt8))) fun (y25 : (Int × (Bool × List UInt8))) =>
 some ((), y25.2.2)
 else
 Option.bind (r52 (y20.2.2, ([32, 97, 98, 111, 114, 116] : List UInt8))) fun (y26 : (Int × (Bool × List UInt8))) =>
 some ((), y26.2.2)) fun (d27 : (Unit × List UInt8)) =>
 Option.bind (
 bif b18.2.2 then
 Option.bind (r52 (d27.2, ([32, 100, 97, 109, 97, 103, 101] : List UInt8))) fun (y30 : (Int × (Bool × List UInt8))) =>
 some ((), y30.2.2)
 else
 some ((), d27.2)) fun (d31 : (Unit × List UInt8)) =>
 Option.bind (r83 (d31.2, (10 : Int))) fun (y32 : (Bool × List UInt8)) =>
 some (Sum.inl ((), ((Go.IntKind.wrap .i64 (d17.2.1 + (1 : Int))), y32.2)))
 else
 some (Sum.inr ((), d17.2.2))
def sg50 : Sig := ⟨[⟨false, .own, (.bld (121, 5))⟩, ⟨false, .bo, (.int .i64)⟩, ⟨false, .bo, (.sl (.pair (.pair (.int .i64) (.int .i64)) (.pair .bool .bool)))⟩], [⟨false, .own, (.bld (121, 5))⟩]⟩
noncomputable def r50 (a : (List UInt8 × (Int × List (((Int × Int) × (Bool × Bool)))))) : Option (List UInt8) :=
 Option.bind (loopR (r50_L0 a) ((), ((0 : Int), a.1))) fun (q33 : (Unit × List UInt8)) =>
 some q33.2
def an50 : Ann := .two (.leaf) (.one (.loop [1, 8, 9] [] [] [.tmp 0 (.pt 0 [(0, 0)] 0 0 0), .tmp 10 (.int .i64), .row 0 [.bld (121, 5)]] [⟨.exit 0, [], [.tmp 0 (.pt 0 [(0, 0)] 0 0 0), .row 0 [.bld (121, 5)]]⟩] (.two (.leaf) (.two (.two (.leaf) (.leaf)) (.two (.one (.two (.leaf) (.two (.leaf) (.two (.join [1, 7, 8, 9, 10] [7] [⟨.normal, [], [.tmp 0 (.pt 0 [(0, 0)] 0 0 0), .row 0 [.bld (121, 5)]]⟩] (.two (.leaf) (.two (.leaf) (.leaf)))) (.two (.join [1, 8, 9, 10] [] [⟨.normal, [], [.tmp 0 (.pt 0 [(0, 0)] 0 0 0), .row 0 [.bld (121, 5)]]⟩] (.two (.leaf) (.two (.leaf) (.leaf)))) (.leaf)))))) (.leaf))))))
theorem s50 : SoundM cx.P cx.G 50 sg50 r50 := by
  have e : denM cx [(52, ⟨sg52, r52⟩), (81, ⟨sg81, r81⟩), (83, ⟨sg83, r83⟩)] an50 Tryd.f50.ntmps (Tryd.f50.body.getD .skip) Tryd.f50.results.toList sg50 = r50 := by kernel_rfl
  rw [← e]
  exact sound_of_denM (c := cx) (Known.cons (.ofM s52 (by kernel_rfl)) Tryd.func52 (by kernel_rfl) (by kernel_rfl) (Known.cons (.ofF s81 (by kernel_rfl)) Tryd.func81 (by kernel_rfl) (by kernel_rfl) (Known.cons (.ofM s83 (by kernel_rfl)) Tryd.func83 (by kernel_rfl) (by kernel_rfl) (Known.nil)))) Tryd.func50 (by kernel_rfl) (Nat.le_of_ble_eq_true (by kernel_rfl)) rfl
/-! (*strings.Builder).String -/
set_option maxHeartbeats 2000000 in
set_option maxRecDepth 100000 in
theorem walk53 (w w2 : World) (b : Nat) (x0 : Value) (base : Option Addr) (n cap : Nat) (q : Option Addr) (r : ByteArray)
    (hb : w.heap[b]? = some (.cells #[x0, .slice base n cap] 121 (0, 0)))
    (hSD : (Builtin.unsafeSliceData_ #[119] 165 #[.slice base n cap]).run Tryd.prog w.drew = .ok (.pointer q) w.drew)
    (hUS : (Builtin.unsafeString_ #[165, 3] 9 #[.pointer q, .int .i64 n]).run Tryd.prog w.drew = .ok (.string r) w2) :
    Calls Tryd.prog 53 #[.pointer (some ⟨b, 0, none⟩)] w fun e w' => e = .returned (.string r) ∧ w' = w2 := by
  have c1 : w.drew.cell? ⟨b, 1, none⟩ = some (.slice base n cap) := by
    have : w.drew.heap[b]? = some (.cells #[x0, .slice base n cap] 121 (0, 0)) := hb
    rw [Lib.cell_of_heap this]; rfl
  go_enter Tryd.func53, Tryd.f53
  go_wp2
  go_region
  all_goals (go_wp2; go_ret; exact ⟨rfl, rfl⟩)
def sg53 : Sig := ⟨[⟨false, .own, .bld (121, 5)⟩], [⟨false, .own, .str⟩]⟩
noncomputable def r53 (a : List UInt8) : Option (List UInt8) := textR a
theorem s53 : SoundT cx.P 53 sg53 r53 := text_sound (c := cx) (t := (121, 5)) (st := 119) (pt := 165) (it := 3) (ty := 9) Tryd.underlying165 (by kernel_rfl) walk53
/-! reredos/console.Show -/
noncomputable def r24_L0 (a : T_0) (d4 : Int) : Option (Int ⊕ (Unit ⊕ (List UInt8 × Int))) :=
 bif decide (d4 < (↑a.2.2.1.length : Int)) then
 Option.bind (idxI a.2.2.1 d4) fun (b5 : T_12) =>
 Option.bind (r47 b5) fun (y6 : Int) =>
 bif !(decide (y6 = (0 : Int))) then
 some (Sum.inr (Sum.inr (([] : List UInt8), y6)))
 else
 some (Sum.inl (Go.IntKind.wrap .i64 (d4 + (1 : Int))))
 else
 some (Sum.inr (Sum.inl ()))
noncomputable def r24_L1 (b11 : List (((Int × Int) × (Bool × Bool)))) (d12 : Int) : Option (Int ⊕ (Unit ⊕ (List UInt8 × Int))) :=
 bif decide (d12 < (↑b11.length : Int)) then
 Option.bind (idxI b11 d12) fun (b13 : ((Int × Int) × (Bool × Bool))) =>
 Option.bind (r27 (([], ([], ([], []))), b13.1)) fun (y14 : (Int × Int)) =>
 bif !(decide (y14.2 = (0 : Int))) then
 some (Sum.inr (Sum.inr (([] : List UInt8), (9 : Int))))
 else
 some (Sum.inl (Go.IntKind.wrap .i64 (d12 + (1 : Int))))
 else
 some (Sum.inr (Sum.inl ()))
noncomputable def r24_L2 (a : T_0) (d10 : Int) : Option (Int ⊕ (Unit ⊕ (List UInt8 × Int))) :=
 bif decide (d10 < (↑a.2.2.2.1.length : Int)) then
 Option.bind (idxI a.2.2.2.1 d10) fun (b11 : List (((Int × Int) × (Bool × Bool)))) =>
 Option.bind (loopR (r24_L1 b11) (0 : Int)) fun (q15 : (Unit ⊕ (List UInt8 × Int))) =>
 Sum.elim (fun (v16 : Unit) =>
 some (Sum.inl (Go.IntKind.wrap .i64 (d10 + (1 : Int)))))
 (fun (v17 : (List UInt8 × Int)) =>
 some (Sum.inr (Sum.inr v17))) q15
 else
 some (Sum.inr (Sum.inl ()))
noncomputable def r24_L3 (a : T_0) (d252 : (Unit × (Int × List UInt8))) : Option ((Unit × (Int × List UInt8)) ⊕ (Unit × List UInt8)) :=
 bif decide (d252.2.1 < (↑a.1.2.1.length : Int)) then
 Option.bind (
 Option.bind (idxI a.1.2.1 a.2.1) fun (b276 : (Int × Int)) =>
 Option.bind (idxI a.1.2.1 d252.2.1) fun (b277 : (Int × Int)) =>
 Option.bind (r48 (b276, b277)) fun (y278 : Bool) =>
 bif !(y278) then
 some ((), d252.2.2)
 else
 bif decide (a.2.2.2.2.1 = (1 : Int)) then
 Option.bind (idxI a.2.2.1 d252.2.1) fun (b279 : T_12) =>
 Option.bind (r49 (d252.2.2, d252.2.1, b279)) fun (y280 : List UInt8) =>
 some ((), y280)
 else
 Option.bind (idxI a.2.2.2.1 d252.2.1) fun (b281 : List (((Int × Int) × (Bool × Bool)))) =>
 Option.bind (r50 (d252.2.2, d252.2.1, b281)) fun (y282 : List UInt8) =>
 some ((), y282)) fun (d283 : (Unit × List UInt8)) =>
 some (Sum.inl ((), ((Go.IntKind.wrap .i64 (d252.2.1 + (1 : Int))), d283.2)))
 else
 some (Sum.inr ((), d252.2.2))
def sg24 : Sig := ⟨[⟨true, .bo, (.pair (.int .i64) (.pair (.sl (.pair (.int .i64) (.int .i64))) (.int .i64)))⟩, ⟨false, .bo, (.int .i64)⟩, ⟨false, .bo, (.sl E_15)⟩, ⟨false, .bo, (.sl (.rsl (.pair (.pair (.int .i64) (.int .i64)) (.pair .bool .bool))))⟩, ⟨true, .bo, (.pair (.int .i64) (.pair (.int .i64) (.pair (.pair (.int .i64) (.int .i64)) .bool)))⟩], [⟨false, .own, .str⟩, ⟨false, .own, (.int .i64)⟩]⟩
noncomputable def r24 (a : T_0) : Option (List UInt8 × Int) :=
 Option.bind (r29 a.1) fun (y1 : Int) =>
 bif !(decide (y1 = (0 : Int))) then
 some (([] : List UInt8), y1)
 else
 Option.bind (
 bif !(decide (a.2.1 < (0 : Int))) then
 some (decide ((↑a.1.2.1.length : Int) ≤ a.2.1))
 else
 some true) fun (d2 : Bool) =>
 bif d2 then
 some (([] : List UInt8), (6 : Int))
 else
 Option.bind (
 bif !(!(decide ((↑a.2.2.1.length : Int) = (↑a.1.2.1.length : Int)))) then
 some (!(decide ((↑a.2.2.2.1.length : Int) = (↑a.1.2.1.length : Int))))
 else
 some true) fun (d3 : Bool) =>
 bif d3 then
 some (([] : List UInt8), (9 : Int))
 else
 Option.bind (loopR (r24_L0 a) (0 : Int)) fun (q7 : (Unit ⊕ (List UInt8 × Int))) =>
 Sum.elim (fun (v8 : Unit) =>
 Option.bind (loopR (r24_L2 a) (0 : Int)) fun (q18 : (Unit ⊕ (List UInt8 × Int))) =>
 Sum.elim (fun (v19 : Unit) =>
 Option.bind (
 Option.bind (
 bif decide (a.2.2.2.2.1 = (1 : Int)) then
 some (decide (a.2.2.2.2.1 = (1 : Int)))
 else
 some (decide (a.2.2.2.2.1 = (4 : Int)))) fun (d219 : Bool) =>
 bif d219 then
 Option.bind (loopR (r24_L3 a) ((), ((0 : Int), ([] : List UInt8)))) fun (q284 : (Unit × List UInt8)) =>
 some (Sum.inl ((), q284.2))
 else
 bif decide (a.2.2.2.2.1 = (2 : Int)) then
 Option.bind (
 bif decide ((0 : Int) ≤ a.2.2.2.2.2.1) then
 bif decide (a.2.2.2.2.2.1 < (↑a.1.2.1.length : Int)) then
 Option.bind (idxI a.1.2.1 a.2.1) fun (b310 : (Int × Int)) =>
 Option.bind (idxI a.1.2.1 a.2.2.2.2.2.1) fun (b311 : (Int × Int)) =>
 Option.bind (r48 (b310, b311)) fun (y312 : Bool) =>
 bif y312 then
 Option.bind (idxI a.2.2.1 a.2.2.2.2.2.1) fun (b313 : T_12) =>
 Option.bind (r51 (b313, a.2.2.2.2.2.2.1)) fun (y314 : Bool) =>
 some y314
 else
 some false
 else
 some false
 else
 some false) fun (d315 : Bool) =>
 bif d315 then
 Option.bind (r52 (([] : List UInt8), ([112, 114, 101, 112, 97, 114, 101, 100, 10] : List UInt8))) fun (y316 : (Int × (Bool × List UInt8))) =>
 some (Sum.inl ((), y316.2.2))
 else
 Option.bind (r52 (([] : List UInt8), ([117, 110, 107, 110, 111, 119, 110, 10] : List UInt8))) fun (y317 : (Int × (Bool × List UInt8))) =>
 some (Sum.inl ((), y317.2.2))
 else
 some (Sum.inr (([] : List UInt8), (3 : Int)))) fun (d318 : ((Unit × List UInt8) ⊕ (List UInt8 × Int))) =>
 Sum.elim (fun (v319 : (Unit × List UInt8)) =>
 Option.bind (r53 v319.2) fun (y321 : List UInt8) =>
 some (y321, (0 : Int)))
 (fun (v320 : (List UInt8 × Int)) =>
 some v320) d318)
 (fun (v20 : (List UInt8 × Int)) =>
 some v20) q18)
 (fun (v9 : (List UInt8 × Int)) =>
 some v9) q7
def an24 : Ann := .two (.leaf) (.two (.two (.leaf) (.two (.leaf) (.two (.two (.leaf) (.leaf)) (.leaf)))) (.two (.two (.join [1, 2, 3, 5, 9] [5, 9] [⟨.normal, [], [.tmp 38 (.bool)]⟩] (.leaf)) (.two (.two (.leaf) (.leaf)) (.leaf))) (.two (.two (.join [1, 2, 3, 5, 9] [5, 9] [⟨.normal, [], [.tmp 52 (.bool)]⟩] (.leaf)) (.two (.two (.leaf) (.leaf)) (.leaf))) (.two (.two (.leaf) (.one (.loop [1, 2, 3, 5, 9, 53, 54] [5, 9] [] [.tmp 55 (.int .i64)] [⟨.exit 0, [], []⟩, ⟨.ret, [], [.tmp 10 (.str), .tmp 11 (.int .i64)]⟩] (.two (.leaf) (.two (.two (.leaf) (.leaf)) (.two (.one (.two (.leaf) (.two (.leaf) (.two (.leaf) (.two (.two (.leaf) (.leaf)) (.leaf)))))) (.leaf))))))) (.two (.two (.leaf) (.one (.loop [1, 2, 3, 5, 9, 65, 66] [5, 9] [] [.tmp 67 (.int .i64)] [⟨.exit 2, [], []⟩, ⟨.ret, [], [.tmp 10 (.str), .tmp 11 (.int .i64)]⟩] (.two (.leaf) (.two (.two (.leaf) (.leaf)) (.two (.one (.two (.leaf) (.two (.leaf) (.one (.loop [1, 2, 3, 5, 9, 65, 66, 67, 71, 72] [5, 9] [] [.tmp 73 (.int .i64)] [⟨.exit 4, [], []⟩, ⟨.ret, [], [.tmp 10 (.str), .tmp 11 (.int .i64)]⟩] (.two (.leaf) (.two (.two (.leaf) (.leaf)) (.two (.one (.two (.leaf) (.two (.leaf) (.two (.leaf) (.two (.two (.leaf) (.leaf)) (.leaf)))))) (.leaf))))))))) (.leaf))))))) (.two (.leaf) (.two (.join [] [] [⟨.normal, [], [.tmp 22 (.pt 22 [(0, 0)] 0 0 2), .row 22 [.bld (121, 5)]]⟩, ⟨.ret, [], [.tmp 10 (.str), .tmp 11 (.int .i64)]⟩] (.two (.leaf) (.one (.two (.join [1, 2, 3, 5, 9, 22, 89] [5, 9, 22] [⟨.normal, [], [.tmp 90 (.bool)]⟩] (.two (.leaf) (.two (.leaf) (.leaf)))) (.two (.two (.leaf) (.one (.loop [1, 2, 3, 5, 9, 95] [5, 9] [] [.tmp 22 (.pt 22 [(0, 0)] 0 0 2), .tmp 96 (.int .i64), .row 22 [.bld (121, 5)]] [⟨.exit 7, [], [.tmp 22 (.pt 22 [(0, 0)] 0 0 2), .row 22 [.bld (121, 5)]]⟩] (.two (.leaf) (.two (.two (.leaf) (.leaf)) (.two (.join [1, 2, 3, 5, 9, 95, 96] [5, 9] [⟨.normal, [], [.tmp 22 (.pt 22 [(0, 0)] 0 0 2), .row 22 [.bld (121, 5)]]⟩] (.one (.two (.leaf) (.two (.two (.draw 10) (.two (.leaf) (.leaf))) (.two (.leaf) (.two (.leaf) (.leaf))))))) (.leaf))))))) (.two (.leaf) (.two (.two (.leaf) (.two (.join [22] [22] [⟨.normal, [], [.tmp 161 (.bool)]⟩] (.draw 29)) (.two (.leaf) (.leaf)))) (.two (.leaf) (.leaf))))))))) (.two (.leaf) (.leaf)))))))))
theorem s24 : SoundF cx.P cx.G 24 sg24 r24 := by
  have e : denF cx [(27, ⟨sg27, r27⟩), (29, ⟨sg29, r29⟩), (47, ⟨sg47, r47⟩), (48, ⟨sg48, r48⟩), (49, ⟨sg49, r49⟩), (50, ⟨sg50, r50⟩), (51, ⟨sg51, r51⟩), (52, ⟨sg52, r52⟩), (53, ⟨sg53, r53⟩)] an24 Tryd.f24.ntmps (Tryd.f24.body.getD .skip) Tryd.f24.results.toList sg24 = r24 := by kernel_rfl
  rw [← e]
  exact sound_of_den (c := cx) (Known.cons (.ofF s27 (by kernel_rfl)) Tryd.func27 (by kernel_rfl) (by kernel_rfl) (Known.cons (.ofF s29 (by kernel_rfl)) Tryd.func29 (by kernel_rfl) (by kernel_rfl) (Known.cons (.ofF s47 (by kernel_rfl)) Tryd.func47 (by kernel_rfl) (by kernel_rfl) (Known.cons (.ofF s48 (by kernel_rfl)) Tryd.func48 (by kernel_rfl) (by kernel_rfl) (Known.cons (.ofM s49 (by kernel_rfl)) Tryd.func49 (by kernel_rfl) (by kernel_rfl) (Known.cons (.ofM s50 (by kernel_rfl)) Tryd.func50 (by kernel_rfl) (by kernel_rfl) (Known.cons (.ofF s51 (by kernel_rfl)) Tryd.func51 (by kernel_rfl) (by kernel_rfl) (Known.cons (.ofM s52 (by kernel_rfl)) Tryd.func52 (by kernel_rfl) (by kernel_rfl) (Known.cons (.ofT s53 (by kernel_rfl)) Tryd.func53 (by kernel_rfl) (by kernel_rfl) (Known.nil)))))))))) Tryd.func24 (by kernel_rfl) (Nat.le_of_ble_eq_true (by kernel_rfl)) rfl
/-! cmp.isNaN[int] -/
def sg131 : Sig := ⟨[⟨false, .bo, (.int .i64)⟩], [⟨false, .own, .bool⟩]⟩
noncomputable def r131 (a : Int) : Option Bool :=
 some (!(decide (a = a)))
def an131 : Ann := .two (.leaf) (.two (.leaf) (.leaf))
theorem s131 : SoundF cx.P cx.G 131 sg131 r131 := by
  have e : denF cx [] an131 Tryd.f131.ntmps (Tryd.f131.body.getD .skip) Tryd.f131.results.toList sg131 = r131 := by kernel_rfl
  rw [← e]
  exact sound_of_den (c := cx) (Known.nil) Tryd.func131 (by kernel_rfl) (Nat.le_of_ble_eq_true (by kernel_rfl)) rfl
/-! cmp.Compare[int] -/
def sg121 : Sig := ⟨[⟨false, .bo, (.int .i64)⟩, ⟨false, .bo, (.int .i64)⟩], [⟨false, .own, (.int .i64)⟩]⟩
noncomputable def r121 (a : (Int × Int)) : Option Int :=
 Option.bind (r131 a.1) fun (y1 : Bool) =>
 Option.bind (r131 a.2) fun (y2 : Bool) =>
 bif y1 then
 bif y2 then
 some (0 : Int)
 else
 some (-1 : Int)
 else
 bif y2 then
 some (1 : Int)
 else
 bif decide (a.1 < a.2) then
 some (-1 : Int)
 else
 bif decide (a.2 < a.1) then
 some (1 : Int)
 else
 some (0 : Int)
def an121 : Ann := .two (.leaf) (.two (.leaf) (.two (.leaf) (.two (.two (.leaf) (.two (.two (.two (.leaf) (.two (.two (.leaf) (.leaf)) (.leaf))) (.two (.leaf) (.leaf))) (.leaf))) (.two (.two (.leaf) (.two (.two (.leaf) (.leaf)) (.leaf))) (.two (.two (.leaf) (.two (.two (.leaf) (.leaf)) (.leaf))) (.two (.two (.leaf) (.two (.two (.leaf) (.leaf)) (.leaf))) (.two (.leaf) (.leaf))))))))
theorem s121 : SoundF cx.P cx.G 121 sg121 r121 := by
  have e : denF cx [(131, ⟨sg131, r131⟩)] an121 Tryd.f121.ntmps (Tryd.f121.body.getD .skip) Tryd.f121.results.toList sg121 = r121 := by kernel_rfl
  rw [← e]
  exact sound_of_den (c := cx) (Known.cons (.ofF s131 (by kernel_rfl)) Tryd.func131 (by kernel_rfl) (by kernel_rfl) (Known.nil)) Tryd.func121 (by kernel_rfl) (Nat.le_of_ble_eq_true (by kernel_rfl)) rfl
/-! reredos/store.at -/
noncomputable def r91_L0 (a : (List ((Int × (Int × Int))) × Int)) (d13 : (Int × Int)) : Option ((Int × Int) ⊕ Int) :=
 bif decide (d13.1 < d13.2) then
 Option.bind (idxI a.1 (Go.IntKind.wrap .i64 (Int.fdiv (Go.IntKind.wrap .u64 (Go.IntKind.wrap .i64 (d13.1 + d13.2))) (2 ^ 1)))) fun (b14 : (Int × (Int × Int))) =>
 Option.bind (r121 (b14.1, a.2)) fun (y15 : Int) =>
 bif decide (y15 < (0 : Int)) then
 some (Sum.inl ((Go.IntKind.wrap .i64 ((Go.IntKind.wrap .i64 (Int.fdiv (Go.IntKind.wrap .u64 (Go.IntKind.wrap .i64 (d13.1 + d13.2))) (2 ^ 1))) + (1 : Int))), d13.2))
 else
 some (Sum.inl (d13.1, (Go.IntKind.wrap .i64 (Int.fdiv (Go.IntKind.wrap .u64 (Go.IntKind.wrap .i64 (d13.1 + d13.2))) (2 ^ 1)))))
 else
 some (Sum.inr d13.1)
def sg91 : Sig := ⟨[⟨false, .bo, (.sl E_19)⟩, ⟨false, .bo, (.int .i64)⟩], [⟨false, .own, (.int .i64)⟩, ⟨false, .own, .bool⟩]⟩
noncomputable def r91 (a : (List ((Int × (Int × Int))) × Int)) : Option (Int × Bool) :=
 Option.bind (
 Option.bind (loopR (r91_L0 a) ((0 : Int), (↑a.1.length : Int))) fun (q16 : Int) =>
 bif decide (q16 < (↑a.1.length : Int)) then
 Option.bind (idxI a.1 q16) fun (b17 : (Int × (Int × Int))) =>
 Option.bind (r121 (b17.1, a.2)) fun (y18 : Int) =>
 some (q16, decide (y18 = (0 : Int)))
 else
 some (q16, false)) fun (d19 : (Int × Bool)) =>
 some d19
def an91 : Ann := .two (.leaf) (.two (.inl 2 11 (.join [] [] [⟨.ret, [], [.tmp 17 (.int .i64), .tmp 18 (.bool)]⟩] (.two (.leaf) (.two (.leaf) (.two (.leaf) (.two (.one (.loop [11, 12, 13, 19] [] [] [.tmp 20 (.int .i64), .tmp 21 (.int .i64)] [⟨.exit 0, [], [.tmp 20 (.int .i64)]⟩] (.two (.two (.leaf) (.two (.leaf) (.leaf))) (.one (.two (.leaf) (.two (.inl 6 60 (.two (.leaf) (.two (.leaf) (.leaf))) (.leaf)) (.two (.leaf) (.leaf)))))))) (.two (.inl 11 69 (.two (.leaf) (.two (.leaf) (.leaf))) (.leaf)) (.leaf))))))) (.leaf)) (.leaf))
theorem s91 : SoundF cx.P cx.G 91 sg91 r91 := by
  have e : denF cx [(121, ⟨sg121, r121⟩)] an91 Tryd.f91.ntmps (Tryd.f91.body.getD .skip) Tryd.f91.results.toList sg91 = r91 := by kernel_rfl
  rw [← e]
  exact sound_of_den (c := cx) (Known.cons (.ofF s121 (by kernel_rfl)) Tryd.func121 (by kernel_rfl) (by kernel_rfl) (Known.nil)) Tryd.func91 (by kernel_rfl) (Nat.le_of_ble_eq_true (by kernel_rfl)) rfl
/-! reredos/store.item -/
def sg85 : Sig := ⟨[⟨true, .bo, E_16⟩, ⟨false, .bo, (.int .i64)⟩], [⟨true, .own, E_19⟩]⟩
noncomputable def r85 (a : T_10) : Option (Int × (Int × Int)) :=
 Option.bind (r91 (a.1.1, a.2)) fun (y1 : (Int × Bool)) =>
 bif y1.2 then
 Option.bind (idxI a.1.1 y1.1) fun (b2 : (Int × (Int × Int))) =>
 some b2
 else
 some (a.2, ((0 : Int), (0 : Int)))
def an85 : Ann := .two (.leaf) (.two (.two (.leaf) (.two (.leaf) (.two (.two (.leaf) (.leaf)) (.leaf)))) (.two (.leaf) (.leaf)))
theorem s85 : SoundF cx.P cx.G 85 sg85 r85 := by
  have e : denF cx [(91, ⟨sg91, r91⟩)] an85 Tryd.f85.ntmps (Tryd.f85.body.getD .skip) Tryd.f85.results.toList sg85 = r85 := by kernel_rfl
  rw [← e]
  exact sound_of_den (c := cx) (Known.cons (.ofF s91 (by kernel_rfl)) Tryd.func91 (by kernel_rfl) (by kernel_rfl) (Known.nil)) Tryd.func85 (by kernel_rfl) (Nat.le_of_ble_eq_true (by kernel_rfl)) rfl
/-! reredos/store.lock -/
noncomputable def r86_L0 (a : T_5) (d13 : Int) : Option (Int ⊕ (Unit ⊕ Int)) :=
 bif decide (d13 < (↑a.1.2.1.length : Int)) then
 Option.bind (idxI a.1.2.1 d13) fun (b14 : T_13) =>
 Option.bind (
 bif (decide (b14.1.1 = a.2.1.1) && (decide (b14.1.2 = a.2.1.2) && true)) then
 some (decide (b14.2.1 = a.2.2))
 else
 some false) fun (d15 : Bool) =>
 bif d15 then
 some (Sum.inr (Sum.inr d13))
 else
 some (Sum.inl (Go.IntKind.wrap .i64 (d13 + (1 : Int))))
 else
 some (Sum.inr (Sum.inl ()))
def sg86 : Sig := ⟨[⟨true, .bo, E_16⟩, ⟨true, .bo, (.pair (.int .i64) (.int .i64))⟩, ⟨false, .bo, (.int .i64)⟩], [⟨false, .own, (.int .i64)⟩]⟩
noncomputable def r86 (a : T_5) : Option Int :=
 Option.bind (
 Option.bind (loopR (r86_L0 a) (0 : Int)) fun (q16 : (Unit ⊕ Int)) =>
 Sum.elim (fun (v17 : Unit) =>
 some (-1 : Int))
 (fun (v18 : Int) =>
 some v18) q16) fun (d19 : Int) =>
 some d19
def an86 : Ann := .two (.leaf) (.two (.inl 3 11 (.join [] [] [⟨.ret, [], [.tmp 15 (.int .i64)]⟩] (.two (.leaf) (.two (.two (.leaf) (.one (.loop [11, 12, 18] [4, 5] [] [.tmp 19 (.int .i64)] [⟨.exit 0, [], []⟩, ⟨.ret, [], [.tmp 15 (.int .i64)]⟩] (.two (.leaf) (.two (.two (.leaf) (.leaf)) (.two (.one (.two (.leaf) (.two (.inl 5 30 (.join [11, 12, 16, 18, 19] [4, 5] [⟨.ret, [], [.tmp 34 (.bool)]⟩] (.two (.leaf) (.two (.leaf) (.leaf)))) (.leaf)) (.two (.two (.leaf) (.leaf)) (.leaf))))) (.leaf))))))) (.two (.leaf) (.leaf))))) (.leaf)) (.leaf))
theorem s86 : SoundF cx.P cx.G 86 sg86 r86 := by
  have e : denF cx [] an86 Tryd.f86.ntmps (Tryd.f86.body.getD .skip) Tryd.f86.results.toList sg86 = r86 := by kernel_rfl
  rw [← e]
  exact sound_of_den (c := cx) (Known.nil) Tryd.func86 (by kernel_rfl) (Nat.le_of_ble_eq_true (by kernel_rfl)) rfl
/-! slices.Clone[[]reredos/api.Item,reredos/api.Item] -/
def sg113 : Sig := ⟨[⟨false, .bo, (.sl E_19)⟩], [⟨false, .own, (.sl E_19)⟩]⟩
noncomputable def r113 (a : List ((Int × (Int × Int)))) : Option (List ((Int × (Int × Int)))) :=
 nilR a fun (n1 : Bool) =>
 bif n1 then
 some []
 else
 bif roomOk false 0 a.length 24 then
 some a
 else
 none
def an113 : Ann := .two (.leaf) (.two (.two (.leaf) (.two (.two (.leaf) (.leaf)) (.leaf))) (.two (.leaf) (.leaf)))
theorem s113 : SoundF cx.P cx.G 113 sg113 r113 := by
  have e : denF cx [] an113 Tryd.f113.ntmps (Tryd.f113.body.getD .skip) Tryd.f113.results.toList sg113 = r113 := by kernel_rfl
  rw [← e]
  exact sound_of_den (c := cx) (Known.nil) Tryd.func113 (by kernel_rfl) (Nat.le_of_ble_eq_true (by kernel_rfl)) rfl
/-! slices.Clone[[]reredos/api.Lock,reredos/api.Lock] -/
def sg114 : Sig := ⟨[⟨false, .bo, (.sl E_18)⟩], [⟨false, .own, (.sl E_18)⟩]⟩
noncomputable def r114 (a : List (T_13)) : Option (List (T_13)) :=
 nilR a fun (n1 : Bool) =>
 bif n1 then
 some []
 else
 bif roomOk false 0 a.length 48 then
 some a
 else
 none
def an114 : Ann := .two (.leaf) (.two (.two (.leaf) (.two (.two (.leaf) (.leaf)) (.leaf))) (.two (.leaf) (.leaf)))
theorem s114 : SoundF cx.P cx.G 114 sg114 r114 := by
  have e : denF cx [] an114 Tryd.f114.ntmps (Tryd.f114.body.getD .skip) Tryd.f114.results.toList sg114 = r114 := by kernel_rfl
  rw [← e]
  exact sound_of_den (c := cx) (Known.nil) Tryd.func114 (by kernel_rfl) (Nat.le_of_ble_eq_true (by kernel_rfl)) rfl
/-! slices.Clone[[]reredos/api.Doubt,reredos/api.Doubt] -/
def sg115 : Sig := ⟨[⟨false, .bo, (.sl E_20)⟩], [⟨false, .own, (.sl E_20)⟩]⟩
noncomputable def r115 (a : List (((Int × Int) × Int))) : Option (List (((Int × Int) × Int))) :=
 nilR a fun (n1 : Bool) =>
 bif n1 then
 some []
 else
 bif roomOk false 0 a.length 24 then
 some a
 else
 none
def an115 : Ann := .two (.leaf) (.two (.two (.leaf) (.two (.two (.leaf) (.leaf)) (.leaf))) (.two (.leaf) (.leaf)))
theorem s115 : SoundF cx.P cx.G 115 sg115 r115 := by
  have e : denF cx [] an115 Tryd.f115.ntmps (Tryd.f115.body.getD .skip) Tryd.f115.results.toList sg115 = r115 := by kernel_rfl
  rw [← e]
  exact sound_of_den (c := cx) (Known.nil) Tryd.func115 (by kernel_rfl) (Nat.le_of_ble_eq_true (by kernel_rfl)) rfl
/-! slices.Clone[[]reredos/api.Txn,reredos/api.Txn] -/
def sg116 : Sig := ⟨[⟨false, .bo, (.sl (.pair (.int .i64) (.int .i64)))⟩], [⟨false, .own, (.sl (.pair (.int .i64) (.int .i64)))⟩]⟩
noncomputable def r116 (a : List ((Int × Int))) : Option (List ((Int × Int))) :=
 nilR a fun (n1 : Bool) =>
 bif n1 then
 some []
 else
 bif roomOk false 0 a.length 16 then
 some a
 else
 none
def an116 : Ann := .two (.leaf) (.two (.two (.leaf) (.two (.two (.leaf) (.leaf)) (.leaf))) (.two (.leaf) (.leaf)))
theorem s116 : SoundF cx.P cx.G 116 sg116 r116 := by
  have e : denF cx [] an116 Tryd.f116.ntmps (Tryd.f116.body.getD .skip) Tryd.f116.results.toList sg116 = r116 := by kernel_rfl
  rw [← e]
  exact sound_of_den (c := cx) (Known.nil) Tryd.func116 (by kernel_rfl) (Nat.le_of_ble_eq_true (by kernel_rfl)) rfl
/-! reredos/store.own -/
def sg87 : Sig := ⟨[⟨true, .bo, E_16⟩], [⟨true, .own, E_16⟩]⟩
noncomputable def r87 (a : T_12) : Option T_12 :=
 Option.bind (r113 a.1) fun (y5 : List ((Int × (Int × Int)))) =>
 Option.bind (r114 a.2.1) fun (y6 : List (T_13)) =>
 Option.bind (r115 a.2.2.1) fun (y7 : List (((Int × Int) × Int))) =>
 Option.bind (r116 a.2.2.2) fun (y8 : List ((Int × Int))) =>
 some (y5, (y6, (y7, y8)))
def an87 : Ann := .two (.leaf) (.two (.draw 11) (.leaf))
theorem s87 : SoundF cx.P cx.G 87 sg87 r87 := by
  have e : denF cx [(113, ⟨sg113, r113⟩), (114, ⟨sg114, r114⟩), (115, ⟨sg115, r115⟩), (116, ⟨sg116, r116⟩)] an87 Tryd.f87.ntmps (Tryd.f87.body.getD .skip) Tryd.f87.results.toList sg87 = r87 := by kernel_rfl
  rw [← e]
  exact sound_of_den (c := cx) (Known.cons (.ofF s113 (by kernel_rfl)) Tryd.func113 (by kernel_rfl) (by kernel_rfl) (Known.cons (.ofF s114 (by kernel_rfl)) Tryd.func114 (by kernel_rfl) (by kernel_rfl) (Known.cons (.ofF s115 (by kernel_rfl)) Tryd.func115 (by kernel_rfl) (by kernel_rfl) (Known.cons (.ofF s116 (by kernel_rfl)) Tryd.func116 (by kernel_rfl) (by kernel_rfl) (Known.nil))))) Tryd.func87 (by kernel_rfl) (Nat.le_of_ble_eq_true (by kernel_rfl)) rfl
/-! reredos/store.busy -/
noncomputable def r89_L0 (a : (T_12 × ((Int × Int) × (Int × Bool)))) (d19 : Int) : Option (Int ⊕ (Unit ⊕ Int)) :=
 bif decide (d19 < (↑a.1.2.1.length : Int)) then
 Option.bind (idxI a.1.2.1 d19) fun (b20 : T_13) =>
 Option.bind (
 Option.bind (
 bif decide (b20.2.1 = a.2.2.1) then
 some (!((decide (b20.1.1 = a.2.1.1) && (decide (b20.1.2 = a.2.1.2) && true))))
 else
 some false) fun (g23 : Bool) =>
 bif g23 then
 bif !(a.2.2.2) then
 some b20.2.2.1
 else
 some true
 else
 some false) fun (d24 : Bool) =>
 bif d24 then
 some (Sum.inr (Sum.inr d19))
 else
 some (Sum.inl (Go.IntKind.wrap .i64 (d19 + (1 : Int))))
 else
 some (Sum.inr (Sum.inl ()))
def sg89 : Sig := ⟨[⟨true, .bo, E_16⟩, ⟨true, .bo, (.pair (.int .i64) (.int .i64))⟩, ⟨false, .bo, (.int .i64)⟩, ⟨false, .bo, .bool⟩], [⟨false, .own, .bool⟩]⟩
noncomputable def r89 (a : (T_12 × ((Int × Int) × (Int × Bool)))) : Option Bool :=
 Option.bind (
 Option.bind (loopR (r89_L0 a) (0 : Int)) fun (q25 : (Unit ⊕ Int)) =>
 Sum.elim (fun (v26 : Unit) =>
 some (-1 : Int))
 (fun (v27 : Int) =>
 some v27) q25) fun (d28 : Int) =>
 some (decide ((0 : Int) ≤ d28))
def an89 : Ann := .two (.leaf) (.two (.inl 3 13 (.two (.leaf) (.two (.inl 2 22 (.join [] [] [⟨.ret, [], [.tmp 26 (.int .i64)]⟩] (.two (.leaf) (.two (.two (.leaf) (.one (.loop [22, 23, 29] [5, 6, 7] [] [.tmp 30 (.int .i64)] [⟨.exit 0, [], []⟩, ⟨.ret, [], [.tmp 26 (.int .i64)]⟩] (.two (.leaf) (.two (.two (.leaf) (.leaf)) (.two (.one (.two (.leaf) (.two (.inl 5 41 (.join [22, 23, 27, 29, 30] [5, 6, 7] [⟨.ret, [], [.tmp 46 (.bool)]⟩] (.two (.leaf) (.two (.segs [(10, ([22, 23, 27, 29, 30, 44, 45], ([5, 6, 7, 45], [.tmp 56 (.bool)])))]) (.leaf)))) (.leaf)) (.two (.two (.leaf) (.leaf)) (.leaf))))) (.leaf))))))) (.two (.leaf) (.leaf))))) (.leaf)) (.leaf))) (.leaf)) (.leaf))
theorem s89 : SoundF cx.P cx.G 89 sg89 r89 := by
  have e : denF cx [] an89 Tryd.f89.ntmps (Tryd.f89.body.getD .skip) Tryd.f89.results.toList sg89 = r89 := by kernel_rfl
  rw [← e]
  exact sound_of_den (c := cx) (Known.nil) Tryd.func89 (by kernel_rfl) (Nat.le_of_ble_eq_true (by kernel_rfl)) rfl
/-! reredos/store.hand -/
def sg90 : Sig := ⟨[⟨false, .own, (.ptr E_16)⟩, ⟨true, .bo, (.pair (.int .i64) (.int .i64))⟩], [⟨false, .own, (.ptr E_16)⟩]⟩
noncomputable def r90 (a : T_8) : Option T_12 :=
 Option.bind (r108 (a.1, a.2)) fun (y2 : Bool) =>
 bif !(y2) then
 Option.bind (
 
 bif roomOk false a.1.2.2.1.length 1 24 then
 some ((), (a.1.1, (a.1.2.1, (app a.1.2.2.1 [(a.2, (0 : Int))], a.1.2.2.2))))
 else
 none) fun (d3 : T_9) =>
 some d3.2
 else
 some a.1
noncomputable def r90q : T_8 → Option T_12 := fun a =>
 Option.bind (r108 (a.1, a.2)) fun (y2 : Bool) =>
 bif !(y2) then
 Option.bind (
 sameR (
 bif roomOk false a.1.2.2.1.length 1 24 then
 some ((), (a.1.1, (a.1.2.1, (app a.1.2.2.1 [(a.2, (0 : Int))], a.1.2.2.2))))
 else
 none)
 (
 sameR (
 bif roomOk false a.1.2.2.1.length 1 24 then
 some ((), (a.1.1, (a.1.2.1, (app a.1.2.2.1 [(a.2, (0 : Int))], a.1.2.2.2))))
 else
 none)
 (
 bif roomOk false a.1.2.2.1.length 1 24 then
 some ((), (a.1.1, (a.1.2.1, (app a.1.2.2.1 [(a.2, (0 : Int))], a.1.2.2.2))))
 else
 none))) fun (d3 : T_9) =>
 some d3.2
 else
 some a.1
theorem r90e : r90q = r90 := by unfold r90q r90; simp only [sameN_self, sameR_self, sameR_dup, sameR_bind, sameR_cond]
def an90 : Ann := .two (.leaf) (.two (.draw 4) (.two (.join [] [] [⟨.normal, [], [.tmp 0 (.pt 0 [(0, 0)] 0 0 0), .box 0 [.sl .own E_19, .sl .own E_18, .sl .own E_20, .sl .own (.pair (.int .i64) (.int .i64))]]⟩] (.drawT [0, 1, 2, 3, 4, 5, 6, 7] [0])) (.leaf)))
theorem s90 : SoundM cx.P cx.G 90 sg90 r90 := by
  have e : denM cx [(108, ⟨sg108, r108⟩)] an90 Tryd.f90.ntmps (Tryd.f90.body.getD .skip) Tryd.f90.results.toList sg90 = r90q := by kernel_rfl
  rw [← r90e, ← e]
  exact sound_of_denM (c := cx) (Known.cons (.ofF s108 (by kernel_rfl)) Tryd.func108 (by kernel_rfl) (by kernel_rfl) (Known.nil)) Tryd.func90 (by kernel_rfl) (Nat.le_of_ble_eq_true (by kernel_rfl)) rfl
/-! reredos/store.Read -/
def sg54 : Sig := ⟨[⟨true, .bo, E_16⟩, ⟨true, .bo, (.pair (.int .i64) (.int .i64))⟩, ⟨false, .bo, (.int .i64)⟩], [⟨true, .own, E_16⟩, ⟨false, .own, (.int .i64)⟩, ⟨false, .own, (.int .i64)⟩, ⟨false, .own, (.int .i64)⟩]⟩
noncomputable def r54 (a : T_5) : Option T_6 :=
 Option.bind (r57 (a.1, a.2.1, a.2.2)) fun (y1 : Int) =>
 bif !(decide (y1 = (0 : Int))) then
 some (([], ([], ([], []))), ((0 : Int), ((0 : Int), y1)))
 else
 Option.bind (r85 (a.1, a.2.2)) fun (y2 : (Int × (Int × Int))) =>
 Option.bind (r86 (a.1, a.2.1, a.2.2)) fun (y3 : Int) =>
 bif decide ((0 : Int) ≤ y3) then
 Option.bind (idxI a.1.2.1 y3) fun (b4 : T_13) =>
 bif b4.2.2.1 then
 Option.bind (
 Option.bind (r87 a.1) fun (y31 : T_12) =>
 Option.bind (idxI a.1.2.1 y3) fun (b32 : T_13) =>
 
 some ((), (b32.2.2.2.1, (y2.2.2, ((0 : Int), y31))))) fun (d51 : T_2) =>
 some (d51.2.2.2.2, (d51.2.1, (d51.2.2.1, d51.2.2.2.1)))
 else
 Option.bind (
 Option.bind (r87 a.1) fun (y56 : T_12) =>
 
 some ((), (y2.2.1, (y2.2.2, ((0 : Int), y56))))) fun (d57 : T_2) =>
 some (d57.2.2.2.2, (d57.2.1, (d57.2.2.1, d57.2.2.2.1)))
 else
 Option.bind (r88 (a.1.2.2.2, a.2.1)) fun (y58 : Bool) =>
 bif y58 then
 some (([], ([], ([], []))), ((0 : Int), ((0 : Int), (13 : Int))))
 else
 Option.bind (r89 (a.1, a.2.1, a.2.2, false)) fun (y59 : Bool) =>
 bif y59 then
 some (([], ([], ([], []))), ((0 : Int), ((0 : Int), (11 : Int))))
 else
 bif decide ((↑a.1.2.1.length : Int) = (24 : Int)) then
 some (([], ([], ([], []))), ((0 : Int), ((0 : Int), (8 : Int))))
 else
 Option.bind (r87 a.1) fun (y60 : T_12) =>
 bif roomOk false y60.2.1.length 1 48 then
 Option.bind (r90 ((y60.1, (app y60.2.1 [(a.2.1, (a.2.2, (false, ((0 : Int), (0 : Int)))))], y60.2.2)), a.2.1)) fun (y61 : T_12) =>
 Option.bind (
 
 some ((), (y2.2.1, (y2.2.2, ((0 : Int), y61))))) fun (d62 : T_2) =>
 some (d62.2.2.2.2, (d62.2.1, (d62.2.2.1, d62.2.2.2.1)))
 else
 none
noncomputable def r54_s0 (b32 : T_13) (y2 : (Int × (Int × Int))) (y31 : T_12) : Option T_2 :=
 sameR (
 some ((), (b32.2.2.2.1, (y2.2.2, ((0 : Int), y31)))))
 (
 sameR (
 some ((), (b32.2.2.2.1, (y2.2.2, ((0 : Int), y31)))))
 (
 some ((), (b32.2.2.2.1, (y2.2.2, ((0 : Int), y31))))))
noncomputable def r54_s1 (a : T_5) (y3 : Int) (y2 : (Int × (Int × Int))) (y31 : T_12) : Option T_2 :=
 Option.bind (idxI a.1.2.1 y3) fun (b34 : T_13) =>
 sameR (
 some ((), (b34.2.2.2.1, (y2.2.2, ((0 : Int), y31)))))
 (
 some ((), (b34.2.2.2.1, (y2.2.2, ((0 : Int), y31)))))
noncomputable def r54_s2 (y2 : (Int × (Int × Int))) (y56 : T_12) : Option T_2 :=
 sameR (
 some ((), (y2.2.1, (y2.2.2, ((0 : Int), y56)))))
 (
 sameR (
 sameR (
 some ((), (y2.2.1, (y2.2.2, ((0 : Int), y56)))))
 (
 some ((), (y2.2.1, (y2.2.2, ((0 : Int), y56))))))
 (
 sameR (
 sameR (
 some ((), (y2.2.1, (y2.2.2, ((0 : Int), y56)))))
 (
 sameR (
 some ((), (y2.2.1, (y2.2.2, ((0 : Int), y56)))))
 (
 some ((), (y2.2.1, (y2.2.2, ((0 : Int), y56)))))))
 (
 sameR (
 some ((), (y2.2.1, (y2.2.2, ((0 : Int), y56)))))
 (
 sameR (
 sameR (
 some ((), (y2.2.1, (y2.2.2, ((0 : Int), y56)))))
 (
 some ((), (y2.2.1, (y2.2.2, ((0 : Int), y56))))))
 (
 sameR (
 sameR (
 some ((), (y2.2.1, (y2.2.2, ((0 : Int), y56)))))
 (
 sameR (
 some ((), (y2.2.1, (y2.2.2, ((0 : Int), y56)))))
 (
 some ((), (y2.2.1, (y2.2.2, ((0 : Int), y56)))))))
 (
 sameR (
 some ((), (y2.2.1, (y2.2.2, ((0 : Int), y56)))))
 (
 sameR (
 sameR (
 some ((), (y2.2.1, (y2.2.2, ((0 : Int), y56)))))
 (
 some ((), (y2.2.1, (y2.2.2, ((0 : Int), y56))))))
 (
 sameR (
 some ((), (y2.2.1, (y2.2.2, ((0 : Int), y56)))))
 (
 sameR (
 some ((), (y2.2.1, (y2.2.2, ((0 : Int), y56)))))
 (
 some ((), (y2.2.1, (y2.2.2, ((0 : Int), y56))))))))))))))
noncomputable def r54q : T_5 → Option T_6 := fun a =>
 Option.bind (r57 (a.1, a.2.1, a.2.2)) fun (y1 : Int) =>
 bif !(decide (y1 = (0 : Int))) then
 some (([], ([], ([], []))), ((0 : Int), ((0 : Int), y1)))
 else
 Option.bind (r85 (a.1, a.2.2)) fun (y2 : (Int × (Int × Int))) =>
 Option.bind (r86 (a.1, a.2.1, a.2.2)) fun (y3 : Int) =>
 bif decide ((0 : Int) ≤ y3) then
 Option.bind (idxI a.1.2.1 y3) fun (b4 : T_13) =>
 bif b4.2.2.1 then
 Option.bind (
 Option.bind (r87 a.1) fun (y31 : T_12) =>
 Option.bind (idxI a.1.2.1 y3) fun (b32 : T_13) =>
 sameR (
 some ((), (b32.2.2.2.1, (y2.2.2, ((0 : Int), y31)))))
 (
 sameR (
 sameR (
 some ((), (b32.2.2.2.1, (y2.2.2, ((0 : Int), y31)))))
 (
 some ((), (b32.2.2.2.1, (y2.2.2, ((0 : Int), y31))))))
 (
 sameR (
 r54_s0 b32 y2 y31)
 (
 sameR (
 some ((), (b32.2.2.2.1, (y2.2.2, ((0 : Int), y31)))))
 (
 sameR (
 sameR (
 some ((), (b32.2.2.2.1, (y2.2.2, ((0 : Int), y31)))))
 (
 some ((), (b32.2.2.2.1, (y2.2.2, ((0 : Int), y31))))))
 (
 sameR (
 r54_s0 b32 y2 y31)
 (
 sameR (
 some ((), (b32.2.2.2.1, (y2.2.2, ((0 : Int), y31)))))
 (
 sameR (
 sameR (
 some ((), (b32.2.2.2.1, (y2.2.2, ((0 : Int), y31)))))
 (
 some ((), (b32.2.2.2.1, (y2.2.2, ((0 : Int), y31))))))
 (
 sameR (
 r54_s0 b32 y2 y31)
 (
 sameR (
 Option.bind (idxI a.1.2.1 y3) fun (b33 : T_13) =>
 some ((), (b33.2.2.2.1, (y2.2.2, ((0 : Int), y31)))))
 (
 sameR (
 r54_s1 a y3 y2 y31)
 (
 sameR (
 Option.bind (idxI a.1.2.1 y3) fun (b35 : T_13) =>
 r54_s0 b35 y2 y31)
 (
 sameR (
 Option.bind (idxI a.1.2.1 y3) fun (b33 : T_13) =>
 some ((), (b33.2.2.2.1, (y2.2.2, ((0 : Int), y31)))))
 (
 sameR (
 r54_s1 a y3 y2 y31)
 (
 sameR (
 Option.bind (idxI a.1.2.1 y3) fun (b35 : T_13) =>
 r54_s0 b35 y2 y31)
 (
 sameR (
 Option.bind (idxI a.1.2.1 y3) fun (b33 : T_13) =>
 some ((), (b33.2.2.2.1, (y2.2.2, ((0 : Int), y31)))))
 (
 sameR (
 r54_s1 a y3 y2 y31)
 (
 sameR (
 Option.bind (idxI a.1.2.1 y3) fun (b35 : T_13) =>
 r54_s0 b35 y2 y31)
 (
 sameR (
 Option.bind (idxI a.1.2.1 y3) fun (b33 : T_13) =>
 some ((), (b33.2.2.2.1, (y2.2.2, ((0 : Int), y31)))))
 (
 sameR (
 r54_s1 a y3 y2 y31)
 (
 sameR (
 Option.bind (idxI a.1.2.1 y3) fun (b35 : T_13) =>
 r54_s0 b35 y2 y31)
 (
 sameR (
 Option.bind (idxI a.1.2.1 y3) fun (b33 : T_13) =>
 some ((), (b33.2.2.2.1, (y2.2.2, ((0 : Int), y31)))))
 (
 sameR (
 r54_s1 a y3 y2 y31)
 (
 sameR (
 Option.bind (idxI a.1.2.1 y3) fun (b35 : T_13) =>
 r54_s0 b35 y2 y31)
 (
 sameR (
 Option.bind (idxI a.1.2.1 y3) fun (b33 : T_13) =>
 some ((), (b33.2.2.2.1, (y2.2.2, ((0 : Int), y31)))))
 (
 sameR (
 r54_s1 a y3 y2 y31)
 (
 Option.bind (idxI a.1.2.1 y3) fun (b35 : T_13) =>
 r54_s0 b35 y2 y31))))))))))))))))))))))))))) fun (d51 : T_2) =>
 some (d51.2.2.2.2, (d51.2.1, (d51.2.2.1, d51.2.2.2.1)))
 else
 Option.bind (
 Option.bind (r87 a.1) fun (y56 : T_12) =>
 r54_s2 y2 y56) fun (d57 : T_2) =>
 some (d57.2.2.2.2, (d57.2.1, (d57.2.2.1, d57.2.2.2.1)))
 else
 Option.bind (r88 (a.1.2.2.2, a.2.1)) fun (y58 : Bool) =>
 bif y58 then
 some (([], ([], ([], []))), ((0 : Int), ((0 : Int), (13 : Int))))
 else
 Option.bind (r89 (a.1, a.2.1, a.2.2, false)) fun (y59 : Bool) =>
 bif y59 then
 some (([], ([], ([], []))), ((0 : Int), ((0 : Int), (11 : Int))))
 else
 bif decide ((↑a.1.2.1.length : Int) = (24 : Int)) then
 some (([], ([], ([], []))), ((0 : Int), ((0 : Int), (8 : Int))))
 else
 Option.bind (r87 a.1) fun (y60 : T_12) =>
 bif roomOk false y60.2.1.length 1 48 then
 Option.bind (r90 ((y60.1, (app y60.2.1 [(a.2.1, (a.2.2, (false, ((0 : Int), (0 : Int)))))], y60.2.2)), a.2.1)) fun (y61 : T_12) =>
 Option.bind (
 r54_s2 y2 y61) fun (d62 : T_2) =>
 some (d62.2.2.2.2, (d62.2.1, (d62.2.2.1, d62.2.2.2.1)))
 else
 none
theorem r54e : r54q = r54 := by unfold r54q r54; simp only [r54_s0, r54_s1, r54_s2, sameN_self, sameR_self, sameR_dup, sameR_bind, sameR_cond]
def an54 : Ann := .two (.leaf) (.two (.two (.leaf) (.two (.leaf) (.two (.two (.leaf) (.leaf)) (.leaf)))) (.two (.leaf) (.two (.two (.leaf) (.two (.leaf) (.two (.two (.two (.leaf) (.two (.two (.join [] [] [⟨.normal, [], [.tmp 6 (.pt 6 [(0, 0)] 0 0 4), .tmp 7 (.int .i64), .tmp 8 (.int .i64), .tmp 9 (.int .i64), .box 6 [.sl .own E_19, .sl .own E_18, .sl .own E_20, .sl .own (.pair (.int .i64) (.int .i64))]]⟩] (.stages [0, 1, 2, 3, 4, 5, 6, 7, 8, 9])) (.leaf)) (.leaf))) (.two (.join [] [] [⟨.normal, [], [.tmp 6 (.pt 6 [(0, 0)] 0 0 4), .tmp 7 (.int .i64), .tmp 8 (.int .i64), .tmp 9 (.int .i64), .box 6 [.sl .own E_19, .sl .own E_18, .sl .own E_20, .sl .own (.pair (.int .i64) (.int .i64))]]⟩] (.stages [0, 1, 2, 3, 4, 5])) (.leaf))) (.leaf)))) (.two (.one (.two (.leaf) (.two (.two (.leaf) (.leaf)) (.two (.leaf) (.two (.two (.leaf) (.leaf)) (.two (.leaf) (.two (.two (.leaf) (.leaf)) (.leaf)))))))) (.two (.leaf) (.two (.leaf) (.two (.leaf) (.two (.join [] [] [⟨.normal, [], [.tmp 6 (.pt 6 [(0, 0)] 0 0 4), .tmp 7 (.int .i64), .tmp 8 (.int .i64), .tmp 9 (.int .i64), .box 6 [.sl .own E_19, .sl .own E_18, .sl .own E_20, .sl .own (.pair (.int .i64) (.int .i64))]]⟩] (.stages [0, 1, 2, 3, 4])) (.leaf)))))))))
theorem s54 : SoundF cx.P cx.G 54 sg54 r54 := by
  have e : denF cx [(57, ⟨sg57, r57⟩), (85, ⟨sg85, r85⟩), (86, ⟨sg86, r86⟩), (87, ⟨sg87, r87⟩), (88, ⟨sg88, r88⟩), (89, ⟨sg89, r89⟩), (90, ⟨sg90, r90⟩)] an54 Tryd.f54.ntmps (Tryd.f54.body.getD .skip) Tryd.f54.results.toList sg54 = r54q := by kernel_rfl
  rw [← r54e, ← e]
  exact sound_of_den (c := cx) (Known.cons (.ofF s57 (by kernel_rfl)) Tryd.func57 (by kernel_rfl) (by kernel_rfl) (Known.cons (.ofF s85 (by kernel_rfl)) Tryd.func85 (by kernel_rfl) (by kernel_rfl) (Known.cons (.ofF s86 (by kernel_rfl)) Tryd.func86 (by kernel_rfl) (by kernel_rfl) (Known.cons (.ofF s87 (by kernel_rfl)) Tryd.func87 (by kernel_rfl) (by kernel_rfl) (Known.cons (.ofF s88 (by kernel_rfl)) Tryd.func88 (by kernel_rfl) (by kernel_rfl) (Known.cons (.ofF s89 (by kernel_rfl)) Tryd.func89 (by kernel_rfl) (by kernel_rfl) (Known.cons (.ofM s90 (by kernel_rfl)) Tryd.func90 (by kernel_rfl) (by kernel_rfl) (Known.nil)))))))) Tryd.func54 (by kernel_rfl) (Nat.le_of_ble_eq_true (by kernel_rfl)) rfl
/-! reredos/store.Write -/
def sg55 : Sig := ⟨[⟨true, .bo, E_16⟩, ⟨true, .bo, (.pair (.int .i64) (.int .i64))⟩, ⟨false, .bo, (.int .i64)⟩, ⟨false, .bo, (.int .i64)⟩, ⟨false, .bo, (.int .i64)⟩], [⟨true, .own, E_16⟩, ⟨false, .own, (.int .i64)⟩]⟩
noncomputable def r55 (a : (T_12 × ((Int × Int) × (Int × (Int × Int))))) : Option T_10 :=
 Option.bind (r57 (a.1, a.2.1, a.2.2.1)) fun (y1 : Int) =>
 bif !(decide (y1 = (0 : Int))) then
 some (([], ([], ([], []))), y1)
 else
 Option.bind (
 Option.bind (
 bif !(decide (a.2.2.2.1 < (0 : Int))) then
 some (decide ((1073741824 : Int) < a.2.2.2.1))
 else
 some true) fun (g6 : Bool) =>
 Option.bind (
 bif !(g6) then
 some (decide (a.2.2.2.2 < (0 : Int)))
 else
 some true) fun (g7 : Bool) =>
 bif !(g7) then
 some (decide ((1048576 : Int) < a.2.2.2.2))
 else
 some true) fun (d8 : Bool) =>
 bif d8 then
 some (([], ([], ([], []))), (2 : Int))
 else
 Option.bind (r86 (a.1, a.2.1, a.2.2.1)) fun (y9 : Int) =>
 Option.bind (
 Option.bind (r88 (a.1.2.2.2, a.2.1)) fun (y14 : Bool) =>
 bif y14 then
 some y14
 else
 bif decide ((0 : Int) ≤ y9) then
 Option.bind (idxI a.1.2.1 y9) fun (b15 : T_13) =>
 some (decide (a.2.2.2.2 < b15.2.2.2.2))
 else
 some false) fun (d16 : Bool) =>
 bif d16 then
 some (([], ([], ([], []))), (13 : Int))
 else
 Option.bind (r89 (a.1, a.2.1, a.2.2.1, true)) fun (y17 : Bool) =>
 bif y17 then
 some (([], ([], ([], []))), (11 : Int))
 else
 Option.bind (
 Option.bind (
 bif decide (y9 < (0 : Int)) then
 some (decide ((↑a.1.2.1.length : Int) = (24 : Int)))
 else
 some false) fun (d22 : Bool) =>
 bif d22 then
 some d22
 else
 Option.bind (r85 (a.1, a.2.2.1)) fun (y23 : (Int × (Int × Int))) =>
 some (decide (y23.2.2 = (1048576 : Int)))) fun (d24 : Bool) =>
 bif d24 then
 some (([], ([], ([], []))), (8 : Int))
 else
 Option.bind (r87 a.1) fun (y25 : T_12) =>
 Option.bind (
 bif decide (y9 < (0 : Int)) then
 bif roomOk false y25.2.1.length 1 48 then
 some ((), (y25.1, (app y25.2.1 [(a.2.1, (a.2.2.1, (true, a.2.2.2)))], y25.2.2)))
 else
 none
 else
 bif inB y9 y25.2.1.length then
 Option.bind (idxN y25.2.1 (Int.toNat y9)) fun (x28 : T_13) =>
 some ((), (y25.1, (List.set y25.2.1 (Int.toNat y9) (a.2.1, (a.2.2.1, (true, a.2.2.2))), y25.2.2)))
 else
 none) fun (d29 : T_9) =>
 Option.bind (r90 (d29.2, a.2.1)) fun (y30 : T_12) =>
 some (y30, (0 : Int))
def an55 : Ann := .two (.leaf) (.two (.two (.leaf) (.two (.leaf) (.two (.two (.leaf) (.leaf)) (.leaf)))) (.two (.two (.join [2, 3, 4, 5, 6, 10] [5, 6, 10] [⟨.normal, [], [.tmp 37 (.bool)]⟩] (.segs [(6, ([2, 3, 4, 5, 6, 10], ([5, 6, 10], [.tmp 29 (.bool)]))), (4, ([2, 3, 4, 5, 6, 10], ([5, 6, 10], [.tmp 33 (.bool)])))])) (.two (.two (.leaf) (.leaf)) (.leaf))) (.two (.leaf) (.two (.one (.two (.join [2, 3, 4, 5, 6, 10, 13] [5, 6, 10] [⟨.normal, [], [.tmp 43 (.bool)]⟩] (.two (.leaf) (.two (.leaf) (.leaf)))) (.two (.two (.leaf) (.leaf)) (.two (.leaf) (.two (.two (.leaf) (.leaf)) (.two (.join [2, 3, 4, 5, 6, 10, 13] [5, 6, 10] [⟨.normal, [], [.tmp 67 (.bool)]⟩] (.two (.join [2, 3, 4, 5, 6, 10, 13] [5, 6, 10] [⟨.normal, [], [.tmp 67 (.bool)]⟩] (.leaf)) (.two (.leaf) (.leaf)))) (.two (.two (.leaf) (.leaf)) (.leaf)))))))) (.two (.leaf) (.two (.leaf) (.two (.join [6, 10] [6, 10] [⟨.normal, [], [.tmp 14 (.pt 14 [(0, 0)] 0 0 4), .box 14 [.sl .own E_19, .sl .own E_18, .sl .own E_20, .sl .own (.pair (.int .i64) (.int .i64))]]⟩] (.two (.leaf) (.two (.leaf) (.leaf)))) (.two (.leaf) (.two (.leaf) (.leaf))))))))))
theorem s55 : SoundF cx.P cx.G 55 sg55 r55 := by
  have e : denF cx [(57, ⟨sg57, r57⟩), (85, ⟨sg85, r85⟩), (86, ⟨sg86, r86⟩), (87, ⟨sg87, r87⟩), (88, ⟨sg88, r88⟩), (89, ⟨sg89, r89⟩), (90, ⟨sg90, r90⟩)] an55 Tryd.f55.ntmps (Tryd.f55.body.getD .skip) Tryd.f55.results.toList sg55 = r55 := by kernel_rfl
  rw [← e]
  exact sound_of_den (c := cx) (Known.cons (.ofF s57 (by kernel_rfl)) Tryd.func57 (by kernel_rfl) (by kernel_rfl) (Known.cons (.ofF s85 (by kernel_rfl)) Tryd.func85 (by kernel_rfl) (by kernel_rfl) (Known.cons (.ofF s86 (by kernel_rfl)) Tryd.func86 (by kernel_rfl) (by kernel_rfl) (Known.cons (.ofF s87 (by kernel_rfl)) Tryd.func87 (by kernel_rfl) (by kernel_rfl) (Known.cons (.ofF s88 (by kernel_rfl)) Tryd.func88 (by kernel_rfl) (by kernel_rfl) (Known.cons (.ofF s89 (by kernel_rfl)) Tryd.func89 (by kernel_rfl) (by kernel_rfl) (Known.cons (.ofM s90 (by kernel_rfl)) Tryd.func90 (by kernel_rfl) (by kernel_rfl) (Known.nil)))))))) Tryd.func55 (by kernel_rfl) (Nat.le_of_ble_eq_true (by kernel_rfl)) rfl
/-! slices.Insert[[]reredos/api.Item,reredos/api.Item] -/
set_option maxRecDepth 20000 in
theorem ins92_none {w : World} {ad bd : Option Addr} {n cap j cv : Nat} {ei ti : TyInfo} {e : TypeId} (hi : TyOk1 Tryd.prog 79 ti) (hd : ti.d = .sl e) (hei : TyOk1 Tryd.prog e ei) (hjn : j ≤ n) (hnc : n ≤ cap) :
    Calls Tryd.prog 92 #[.slice ad n cap, iv j, .slice bd 0 cv] w fun e w' => e = .returned (.slice ad n cap) ∧ w' = w := by
  have s1 := fun w => raw_slice (P := Tryd.prog) hi hd hei (ad := ad) (n := n) (cap := cap) (l := j) (h := n) (lo := some (iv j)) (hh := none) (.inr rfl) (.inl ⟨rfl, rfl⟩) hjn hnc w
  simp only [iv] at s1 ⊢
  go_enter Tryd.func92, Tryd.f92
  go_wp
  go_ret
  exact ⟨rfl, rfl⟩
set_option maxRecDepth 20000 in
theorem ins92_end {w w1 : World} {ad bd : Option Addr} {n cap m cv : Nat} {v : Value} {ei ti : TyInfo} {e : TypeId} (hi : TyOk1 Tryd.prog 79 ti) (hd : ti.d = .sl e) (hei : TyOk1 Tryd.prog e ei) (hnc : n ≤ cap) (hm : 0 < m)
    (hap : (Builtin.append_ #[79, 79] 79 #[.slice ad n cap, .slice bd m cv]).run Tryd.prog w = .ok v w1) :
    Calls Tryd.prog 92 #[.slice ad n cap, iv n, .slice bd m cv] w fun e w' => e = .returned v ∧ w' = w1 := by
  obtain ⟨v12, s1⟩ : ∃ v12, ∀ w, (Instr.sliceAt 79 (.slice ad n cap) (some (iv n)) none none).run Tryd.prog w = .ok v12 w := ⟨_, fun w => raw_slice (P := Tryd.prog) hi hd hei (ad := ad) (n := n) (cap := cap) (l := n) (h := n) (lo := some (iv n)) (hh := none) (.inr rfl) (.inl ⟨rfl, rfl⟩) (Nat.le_refl _) hnc w⟩
  simp only [iv] at s1 ⊢
  have hm0 : ¬ (m : Int) = 0 := by omega
  go_enter Tryd.func92, Tryd.f92
  go_wp2_with (at_builtin; refine wpList_val rfl (v := v) (w' := w1) (by simp [execOp, resolve, invoke, builtin, Act.eval, hap]) ?_)
  go_ret
  exact ⟨rfl, rfl⟩
set_option maxRecDepth 20000 in
theorem ins92_shift {w w2 w3 : World} {a66 av : Option Addr} {a76 : Option Addr} {b off n cap j m cv l66 c66 l76 c76 : Nat} {ei ti : TyInfo} {e : TypeId} (hi : TyOk1 Tryd.prog 79 ti) (hd : ti.d = .sl e) (hei : TyOk1 Tryd.prog e ei) (hjn : j < n) (hnc : n ≤ cap) (hm : 0 < m) (hroom : n + m ≤ cap) (hbig : n + m ≤ 281474976710656)
    (h60 : (Instr.sliceAt 79 (.slice (some ⟨b, off, none⟩) n cap) none (some (iv (n + m))) none).run Tryd.prog w = .ok (.slice (some ⟨b, off, none⟩) (n + m) cap) w)
    (h66 : ∀ w, (Instr.sliceAt 79 (.slice (some ⟨b, off, none⟩) (n + m) cap) (some (iv (j + m))) none none).run Tryd.prog w = .ok (.slice a66 l66 c66) w)
    (h76 : ∀ w, (Instr.sliceAt 79 (.slice (some ⟨b, off, none⟩) (n + m) cap) (some (iv j)) none none).run Tryd.prog w = .ok (.slice a76 l76 c76) w)
    (hov : (callFunc 122 #[.slice av m cv, .slice a66 l66 c66]).run Tryd.prog w = .ok (.value (.bool false)) w)
    (hc1 : ∀ ty, (Builtin.copy_ #[79, 79] ty #[.slice a66 l66 c66, .slice a76 l76 c76]).run Tryd.prog { w with drawn := w.drawn + 1 } = .ok (goInt ((n - j : Nat) : Int)) w2)
    (hc2 : ∀ ty, (Builtin.copy_ #[79, 79] ty #[.slice a76 l76 c76, .slice av m cv]).run Tryd.prog w2 = .ok (goInt m) w3) :
    Calls Tryd.prog 92 #[.slice (some ⟨b, off, none⟩) n cap, iv j, .slice av m cv] w fun e w' => e = .returned (.slice (some ⟨b, off, none⟩) (n + m) cap) ∧ w' = w3 := by
  obtain ⟨v12, s1⟩ : ∃ v12, ∀ w, (Instr.sliceAt 79 (.slice (some ⟨b, off, none⟩) n cap) (some (iv j)) none none).run Tryd.prog w = .ok v12 w := ⟨_, fun w => raw_slice (P := Tryd.prog) hi hd hei (ad := some ⟨b, off, none⟩) (n := n) (cap := cap) (l := j) (h := n) (lo := some (iv j)) (hh := none) (.inr rfl) (.inl ⟨rfl, rfl⟩) (by omega) hnc w⟩
  have e1 : ((n + m : Nat) : Int) = (n : Int) + m := by omega
  have e2 : ((j + m : Nat) : Int) = (j : Int) + m := by omega
  simp only [iv, e1, e2] at s1 h60 h66 h76 ⊢
  have hm0 : ¬ (m : Int) = 0 := by omega
  have hjn0 : ¬ (j : Int) = n := by omega
  have hw1 : IntKind.i64.wrap ((n : Int) + m) = (n : Int) + m := by rw [← e1]; exact wrap_nat hbig
  have hw2 : IntKind.i64.wrap ((j : Int) + m) = (j : Int) + m := by rw [← e2]; exact wrap_nat (by omega)
  have hle : ¬ ((cap : Int) < (n : Int) + m) := by omega
  go_enter Tryd.func92, Tryd.f92
  go_wp2_with (simp only [hov])
  refine wp_drawn_pure (m := 8) (ks := [69, 70, 71, 72, 73, 74, 75, 76]) (vs := [.slice (some ⟨b, off, none⟩) (n + m) cap, .int .i64 j, .int .i64 m, .int .i64 ((j : Int) + m), .slice a66 l66 c66, .slice (some ⟨b, off, none⟩) (n + m) cap, .int .i64 j, .slice a76 l76 c76]) (by kernel_rfl) (by kernel_rfl) rfl rfl (by decide) (by simp) ?_ ?_
  · intro k ks v hk hv
    match k with
    | 0 => cases hk; cases hv; exact ⟨_, rfl, rfl, rfl, fun a' ho hd w' => by have e := ho 0 (by decide); simp at e; simp [execOp, Act.eval, e]⟩
    | 1 => cases hk; cases hv; exact ⟨_, rfl, rfl, rfl, fun a' ho hd w' => by have e := ho 1 (by decide); simp at e; simp [execOp, Act.eval, e]⟩
    | 2 => cases hk; cases hv; exact ⟨_, rfl, rfl, rfl, fun a' ho hd w' => by have e := ho 7 (by decide); simp at e; simp [execOp, Act.eval, e]⟩
    | 3 =>
      cases hk; cases hv
      exact ⟨_, rfl, rfl, rfl, fun a' ho hd w' => by
        have e0 := hd 1 70 _ ((mem_iff _ _).1 (by kernel_rfl)) rfl rfl
        have e1 := hd 2 71 _ ((mem_iff _ _).1 (by kernel_rfl)) rfl rfl
        simp [execOp, Act.eval, e0, e1, add_guard, add_run, hw2]⟩
    | 4 =>
      cases hk; cases hv
      exact ⟨_, rfl, rfl, rfl, fun a' ho hd w' => by
        have e0 := hd 0 69 _ ((mem_iff _ _).1 (by kernel_rfl)) rfl rfl
        have e1 := hd 3 72 _ ((mem_iff _ _).1 (by kernel_rfl)) rfl rfl
        simp [execOp, Act.eval, e0, e1, h66]⟩
    | 5 => cases hk; cases hv; exact ⟨_, rfl, rfl, rfl, fun a' ho hd w' => by have e := ho 0 (by decide); simp at e; simp [execOp, Act.eval, e]⟩
    | 6 => cases hk; cases hv; exact ⟨_, rfl, rfl, rfl, fun a' ho hd w' => by have e := ho 1 (by decide); simp at e; simp [execOp, Act.eval, e]⟩
    | 7 =>
      cases hk; cases hv
      exact ⟨_, rfl, rfl, rfl, fun a' ho hd w' => by
        have e0 := hd 5 74 _ ((mem_iff _ _).1 (by kernel_rfl)) rfl rfl
        have e1 := hd 6 75 _ ((mem_iff _ _).1 (by kernel_rfl)) rfl rfl
        simp [execOp, Act.eval, e0, e1, h76]⟩
    | k + 8 => simp at hk
  · simp only [Act.putAll, Act.put, List.drop_succ_cons, List.drop_zero]
    have hc1' := fun ty => (show (Builtin.copy_ #[79, 79] ty #[.slice a66 l66 c66, .slice a76 l76 c76]).run Tryd.prog w.drew = .ok (goInt ((n - j : Nat) : Int)) w2 from hc1 ty)
    refine wpList_val rfl (v := goInt ((n - j : Nat) : Int)) (w' := w2) (by simp [execOp, resolve, invoke, builtin, Act.eval, hc1']) ?_
    go_wp
    go_ret
    exact ⟨rfl, rfl⟩
set_option maxRecDepth 20000 in
theorem ins92_grow {w w1 w2 w3 : World} {av a34 a43 a50 a53 : Option Addr} {b off n cap j m cv l43 c43 l50 c50 l53 c53 l34 c34 newCap W : Nat} {ei ti : TyInfo} {e : TypeId} (hi : TyOk1 Tryd.prog 79 ti) (hd : ti.d = .sl e) (hei : TyOk1 Tryd.prog e ei) (hjn : j < n) (hnc : n ≤ cap) (hm : 0 < m) (hroom : cap < n + m) (hbig : n + m ≤ 281474976710656)
    (h34 : ∀ w, (Instr.sliceAt 79 (.slice (some ⟨b, off, none⟩) n cap) none (some (iv j)) none).run Tryd.prog w = .ok (.slice a34 l34 c34) w)
    (hap : (Builtin.append_ #[79, 3] 79 #[.slice a34 l34 c34, iv (n + m - j)]).run Tryd.prog w = .ok (.slice (some ⟨W, 0, none⟩) (n + m) newCap) w1)
    (h43 : ∀ w1, (Instr.sliceAt 79 (.slice (some ⟨W, 0, none⟩) (n + m) newCap) (some (iv j)) none none).run Tryd.prog w1 = .ok (.slice a43 l43 c43) w1)
    (h50 : ∀ w1, (Instr.sliceAt 79 (.slice (some ⟨W, 0, none⟩) (n + m) newCap) (some (iv (j + m))) none none).run Tryd.prog w1 = .ok (.slice a50 l50 c50) w1)
    (h53 : ∀ w1, (Instr.sliceAt 79 (.slice (some ⟨b, off, none⟩) n cap) (some (iv j)) none none).run Tryd.prog w1 = .ok (.slice a53 l53 c53) w1)
    (hc1 : ∀ ty, (Builtin.copy_ #[79, 79] ty #[.slice a43 l43 c43, .slice av m cv]).run Tryd.prog w1 = .ok (goInt m) w2)
    (hc2 : ∀ ty, (Builtin.copy_ #[79, 79] ty #[.slice a50 l50 c50, .slice a53 l53 c53]).run Tryd.prog { w2 with drawn := w2.drawn + 1 } = .ok (goInt ((n - j : Nat) : Int)) w3) :
    Calls Tryd.prog 92 #[.slice (some ⟨b, off, none⟩) n cap, iv j, .slice av m cv] w fun e w' => e = .returned (.slice (some ⟨W, 0, none⟩) (n + m) newCap) ∧ w' = w3 := by
  have e1 : ((n + m : Nat) : Int) = (n : Int) + m := by omega
  have e2 : ((j + m : Nat) : Int) = (j : Int) + m := by omega
  have e3 : ((n + m - j : Nat) : Int) = (n : Int) + m - j := by omega
  simp only [iv, e1, e2, e3] at h34 hap h43 h50 h53 ⊢
  have hm0 : ¬ (m : Int) = 0 := by omega
  have hjn0 : ¬ (j : Int) = n := by omega
  have hw1 : IntKind.i64.wrap ((n : Int) + m) = (n : Int) + m := by rw [← e1]; exact wrap_nat hbig
  have hw2 : IntKind.i64.wrap ((j : Int) + m) = (j : Int) + m := by rw [← e2]; exact wrap_nat (by omega)
  have hw3 : IntKind.i64.wrap ((n : Int) + m - j) = (n : Int) + m - j := by rw [← e3]; exact wrap_nat (by omega)
  have hlt : ((cap : Int) < (n : Int) + m) := by omega
  go_enter Tryd.func92, Tryd.f92
  go_wp2_with (at_builtin; refine wpList_val rfl (v := .slice (some ⟨W, 0, none⟩) (n + m) newCap) (w' := w1) (by simp [execOp, resolve, invoke, builtin, Act.eval, hap]) ?_)
  refine wp_drawn_pure (m := 8) (ks := [46, 47, 48, 49, 50, 51, 52, 53]) (vs := [.slice (some ⟨W, 0, none⟩) (n + m) newCap, .int .i64 j, .int .i64 m, .int .i64 ((j : Int) + m), .slice a50 l50 c50, .slice (some ⟨b, off, none⟩) n cap, .int .i64 j, .slice a53 l53 c53]) (by kernel_rfl) (by kernel_rfl) rfl rfl (by decide) (by simp) ?_ ?_
  · intro k ks v hk hv
    match k with
    | 0 => cases hk; cases hv; exact ⟨_, rfl, rfl, rfl, fun a' ho hd w' => by have e := ho 9 (by decide); simp at e; simp [execOp, Act.eval, e]⟩
    | 1 => cases hk; cases hv; exact ⟨_, rfl, rfl, rfl, fun a' ho hd w' => by have e := ho 1 (by decide); simp at e; simp [execOp, Act.eval, e]⟩
    | 2 => cases hk; cases hv; exact ⟨_, rfl, rfl, rfl, fun a' ho hd w' => by have e := ho 7 (by decide); simp at e; simp [execOp, Act.eval, e]⟩
    | 3 =>
      cases hk; cases hv
      exact ⟨_, rfl, rfl, rfl, fun a' ho hd w' => by
        have e0 := hd 1 47 _ ((mem_iff _ _).1 (by kernel_rfl)) rfl rfl
        have e1 := hd 2 48 _ ((mem_iff _ _).1 (by kernel_rfl)) rfl rfl
        simp [execOp, Act.eval, e0, e1, add_guard, add_run, hw2]⟩
    | 4 =>
      cases hk; cases hv
      exact ⟨_, rfl, rfl, rfl, fun a' ho hd w' => by
        have e0 := hd 0 46 _ ((mem_iff _ _).1 (by kernel_rfl)) rfl rfl
        have e1 := hd 3 49 _ ((mem_iff _ _).1 (by kernel_rfl)) rfl rfl
        simp [execOp, Act.eval, e0, e1, h50]⟩
    | 5 => cases hk; cases hv; exact ⟨_, rfl, rfl, rfl, fun a' ho hd w' => by have e := ho 0 (by decide); simp at e; simp [execOp, Act.eval, e]⟩
    | 6 => cases hk; cases hv; exact ⟨_, rfl, rfl, rfl, fun a' ho hd w' => by have e := ho 1 (by decide); simp at e; simp [execOp, Act.eval, e]⟩
    | 7 =>
      cases hk; cases hv
      exact ⟨_, rfl, rfl, rfl, fun a' ho hd w' => by
        have e0 := hd 5 51 _ ((mem_iff _ _).1 (by kernel_rfl)) rfl rfl
        have e1 := hd 6 52 _ ((mem_iff _ _).1 (by kernel_rfl)) rfl rfl
        simp [execOp, Act.eval, e0, e1, h53]⟩
    | k + 8 => simp at hk
  · simp only [Act.putAll, Act.put, List.drop_succ_cons, List.drop_zero]
    have hc2' := fun ty => (show (Builtin.copy_ #[79, 79] ty #[.slice a50 l50 c50, .slice a53 l53 c53]).run Tryd.prog w2.drew = .ok (goInt ((n - j : Nat) : Int)) w3 from hc2 ty)
    refine wpList_val rfl (v := goInt ((n - j : Nat) : Int)) (w' := w3) (by simp [execOp, resolve, invoke, builtin, Act.eval, hc2']) ?_
    go_wp
    go_ret
    exact ⟨rfl, rfl⟩
set_option maxRecDepth 20000 in
theorem ins92 : InsOk Tryd.prog 92 79 3 122 4 where
  none := fun w ad bd n cap j cv h1 h2 => ins92_none (tysOk 79 ⟨.sl 167, 1, 24, [.slice none 0 0], false, [some E_19], [none], (.sl E_19)⟩ (by kernel_rfl)) rfl (tysOk 167 ⟨.st [(0, 3), (1, 3), (2, 3)], 3, 24, [.int .i64 0, .int .i64 0, .int .i64 0], false, [none, none, none], [none, none, none], E_19⟩ (by kernel_rfl)) h1 h2
  stop := fun w w1 ad bd n cap m cv v h1 h2 h3 => ins92_end (tysOk 79 ⟨.sl 167, 1, 24, [.slice none 0 0], false, [some E_19], [none], (.sl E_19)⟩ (by kernel_rfl)) rfl (tysOk 167 ⟨.st [(0, 3), (1, 3), (2, 3)], 3, 24, [.int .i64 0, .int .i64 0, .int .i64 0], false, [none, none, none], [none, none, none], E_19⟩ (by kernel_rfl)) h1 h2 h3
  shift := fun w w2 w3 a66 av a76 b off n cap j m cv l66 c66 l76 c76 h1 h2 h3 h4 h5 h6 h7 h8 h9 h10 h11 => ins92_shift (tysOk 79 ⟨.sl 167, 1, 24, [.slice none 0 0], false, [some E_19], [none], (.sl E_19)⟩ (by kernel_rfl)) rfl (tysOk 167 ⟨.st [(0, 3), (1, 3), (2, 3)], 3, 24, [.int .i64 0, .int .i64 0, .int .i64 0], false, [none, none, none], [none, none, none], E_19⟩ (by kernel_rfl)) h1 h2 h3 h4 h5 h6 h7 h8 h9 h10 h11
  grow := fun w w1 w2 w3 av a34 a43 a50 a53 b off n cap j m cv l43 c43 l50 c50 l53 c53 l34 c34 newCap W h1 h2 h3 h4 h5 h6 h7 h8 h9 h10 h11 h12 => ins92_grow (tysOk 79 ⟨.sl 167, 1, 24, [.slice none 0 0], false, [some E_19], [none], (.sl E_19)⟩ (by kernel_rfl)) rfl (tysOk 167 ⟨.st [(0, 3), (1, 3), (2, 3)], 3, 24, [.int .i64 0, .int .i64 0, .int .i64 0], false, [none, none, none], [none, none, none], E_19⟩ (by kernel_rfl)) h1 h2 h3 h4 h5 h6 h7 h8 h9 h10 h11 h12
  over := fun args w => run_callFunc_extern Tryd.func122 (by kernel_rfl) (by kernel_rfl) (by kernel_rfl) (e := Extern.SlicesOverlaps.overlaps #[79, 79] #[4]) (by kernel_rfl) args w
def sg92 : Sig := insS E_19
noncomputable def r92 (a : List (Int × (Int × Int)) × (Int × List (Int × (Int × Int)))) : Option (List (Int × (Int × Int))) := insR 24 a
set_option maxRecDepth 20000 in
theorem s92 : SoundD cx.P 92 sg92 r92 := by
  have h : SoundD cx.P 92 (insS E_19) (insR 24) := ins_sound (c := cx) (e := E_19) (ei := ⟨.st [(0, 3), (1, 3), (2, 3)], 3, 24, [.int .i64 0, .int .i64 0, .int .i64 0], false, [none, none, none], [none, none, none], E_19⟩) ins92 (tysOk 79 ⟨.sl 167, 1, 24, [.slice none 0 0], false, [some E_19], [none], (.sl E_19)⟩ (by kernel_rfl)) (by kernel_rfl) (tysOk 167 ⟨.st [(0, 3), (1, 3), (2, 3)], 3, 24, [.int .i64 0, .int .i64 0, .int .i64 0], false, [none, none, none], [none, none, none], E_19⟩ (by kernel_rfl)) (xt := 3) (kk := .i64) (by kernel_rfl) (by kernel_rfl) (by kernel_rfl) (by decide) (by decide) (by kernel_rfl)
  exact h
/-! reredos/store.End -/
noncomputable def r56_L0 (a : T_4) (d44 : T_7) : Option (T_7 ⊕ T_9) :=
 bif decide (d44.2.1 < (↑a.1.2.1.length : Int)) then
 Option.bind (
 Option.bind (idxI a.1.2.1 d44.2.1) fun (b71 : T_13) =>
 Option.bind (
 Option.bind (
 bif !(!((decide (b71.1.1 = a.2.1.1) && (decide (b71.1.2 = a.2.1.2) && true)))) then
 some !(b71.2.2.1)
 else
 some true) fun (g74 : Bool) =>
 bif !(g74) then
 some !(a.2.2)
 else
 some true) fun (d75 : Bool) =>
 bif d75 then
 some ((), d44.2.2)
 else
 Option.bind (r91 (d44.2.2.1, b71.2.1)) fun (y76 : (Int × Bool)) =>
 Option.bind (
 bif !(y76.2) then
 Option.bind (r92 (d44.2.2.1, y76.1, [(b71.2.1, ((0 : Int), (0 : Int)))])) fun (y79 : List ((Int × (Int × Int)))) =>
 some ((), (y79, d44.2.2.2))
 else
 some ((), d44.2.2)) fun (d80 : T_9) =>
 bif inB y76.1 d80.2.1.length then
 Option.bind (idxN d80.2.1 (Int.toNat y76.1)) fun (x81 : (Int × (Int × Int))) =>
 bif inB y76.1 ((List.set d80.2.1 (Int.toNat y76.1) (x81.1, (b71.2.2.2.1, x81.2.2))).length) then
 Option.bind (idxN (List.set d80.2.1 (Int.toNat y76.1) (x81.1, (b71.2.2.2.1, x81.2.2))) (Int.toNat y76.1)) fun (x82 : (Int × (Int × Int))) =>
 bif inB y76.1 ((List.set d80.2.1 (Int.toNat y76.1) (x81.1, (b71.2.2.2.1, x81.2.2))).length) then
 Option.bind (idxN (List.set d80.2.1 (Int.toNat y76.1) (x81.1, (b71.2.2.2.1, x81.2.2))) (Int.toNat y76.1)) fun (x83 : (Int × (Int × Int))) =>
 some ((), (List.set (List.set d80.2.1 (Int.toNat y76.1) (x81.1, (b71.2.2.2.1, x81.2.2))) (Int.toNat y76.1) (x83.1, (x83.2.1, (Go.IntKind.wrap .i64 (x82.2.2 + (1 : Int))))), d80.2.2))
 else
 none
 else
 none
 else
 none) fun (d84 : T_9) =>
 some (Sum.inl ((), ((Go.IntKind.wrap .i64 (d44.2.1 + (1 : Int))), d84.2)))
 else
 some (Sum.inr ((), d44.2.2))
noncomputable def r56_L1 (q85 : T_9) (a : T_4) (d162 : Int) : Option (Int ⊕ (Unit ⊕ Int)) :=
 bif decide (d162 < (↑q85.2.2.1.length : Int)) then
 bif inB d162 q85.2.2.1.length then
 Option.bind (idxN q85.2.2.1 (Int.toNat d162)) fun (x163 : T_13) =>
 bif (decide (x163.1.1 = a.2.1.1) && (decide (x163.1.2 = a.2.1.2) && true)) then
 some (Sum.inr (Sum.inr d162))
 else
 some (Sum.inl (Go.IntKind.wrap .i64 (d162 + (1 : Int))))
 else
 none
 else
 some (Sum.inr (Sum.inl ()))
noncomputable def r56_L2 (a : T_4) (d176 : T_1) : Option (T_1 ⊕ T_3) :=
 bif decide (d176.2.2.2.1 < (↑d176.2.2.2.2.2.1.length : Int)) then
 Option.bind (
 bif inB d176.2.2.2.1 d176.2.2.2.2.2.1.length then
 Option.bind (idxN d176.2.2.2.2.2.1 (Int.toNat d176.2.2.2.1)) fun (x181 : T_13) =>
 bif !((decide (x181.1.1 = a.2.1.1) && (decide (x181.1.2 = a.2.1.2) && true))) then
 bif inB d176.2.2.1 d176.2.2.2.2.2.1.length then
 Option.bind (idxN d176.2.2.2.2.2.1 (Int.toNat d176.2.2.1)) fun (x182 : T_13) =>
 some ((), ((), ((Go.IntKind.wrap .i64 (d176.2.2.1 + (1 : Int))), (d176.2.2.2.2.1, (List.set d176.2.2.2.2.2.1 (Int.toNat d176.2.2.1) x181, d176.2.2.2.2.2.2)))))
 else
 none
 else
 some ((), ((), (d176.2.2.1, d176.2.2.2.2)))
 else
 none) fun (d183 : T_3) =>
 some (Sum.inl ((), ((), (d183.2.2.1, ((Go.IntKind.wrap .i64 (d176.2.2.2.1 + (1 : Int))), d183.2.2.2)))))
 else
 some (Sum.inr ((), ((), (d176.2.2.1, d176.2.2.2.2))))
noncomputable def r56_L3 (d185 : (Unit × (Unit × ((List ((Int × (Int × Int))) × (Unit × (List (((Int × Int) × Int)) × List ((Int × Int))))) × List (T_13))))) (a : T_4) (d262 : Int) : Option (Int ⊕ (Unit ⊕ Int)) :=
 bif decide (d262 < (↑d185.2.2.1.2.2.1.length : Int)) then
 bif inB d262 d185.2.2.1.2.2.1.length then
 Option.bind (idxN d185.2.2.1.2.2.1 (Int.toNat d262)) fun (x263 : ((Int × Int) × Int)) =>
 bif (decide (x263.1.1 = a.2.1.1) && (decide (x263.1.2 = a.2.1.2) && true)) then
 some (Sum.inr (Sum.inr d262))
 else
 some (Sum.inl (Go.IntKind.wrap .i64 (d262 + (1 : Int))))
 else
 none
 else
 some (Sum.inr (Sum.inl ()))
noncomputable def r56_L4 (a : T_4) (d276 : T_1) : Option (T_1 ⊕ T_3) :=
 bif decide (d276.2.2.2.1 < (↑d276.2.2.2.2.2.2.1.length : Int)) then
 Option.bind (
 bif inB d276.2.2.2.1 d276.2.2.2.2.2.2.1.length then
 Option.bind (idxN d276.2.2.2.2.2.2.1 (Int.toNat d276.2.2.2.1)) fun (x281 : ((Int × Int) × Int)) =>
 bif !((decide (x281.1.1 = a.2.1.1) && (decide (x281.1.2 = a.2.1.2) && true))) then
 bif inB d276.2.2.1 d276.2.2.2.2.2.2.1.length then
 Option.bind (idxN d276.2.2.2.2.2.2.1 (Int.toNat d276.2.2.1)) fun (x282 : ((Int × Int) × Int)) =>
 some ((), ((), ((Go.IntKind.wrap .i64 (d276.2.2.1 + (1 : Int))), (d276.2.2.2.2.1, (d276.2.2.2.2.2.1, (List.set d276.2.2.2.2.2.2.1 (Int.toNat d276.2.2.1) x281, d276.2.2.2.2.2.2.2))))))
 else
 none
 else
 some ((), ((), (d276.2.2.1, d276.2.2.2.2)))
 else
 none) fun (d283 : T_3) =>
 some (Sum.inl ((), ((), (d283.2.2.1, ((Go.IntKind.wrap .i64 (d276.2.2.2.1 + (1 : Int))), d283.2.2.2)))))
 else
 some (Sum.inr ((), ((), (d276.2.2.1, d276.2.2.2.2))))
def sg56 : Sig := ⟨[⟨true, .bo, E_16⟩, ⟨true, .bo, (.pair (.int .i64) (.int .i64))⟩, ⟨false, .bo, .bool⟩], [⟨true, .own, E_16⟩, ⟨false, .own, (.int .i64)⟩]⟩
noncomputable def r56 (a : T_4) : Option T_10 :=
 Option.bind (r57 (a.1, a.2.1, (0 : Int))) fun (y1 : Int) =>
 bif !(decide (y1 = (0 : Int))) then
 some (([], ([], ([], []))), y1)
 else
 Option.bind (r87 a.1) fun (y2 : T_12) =>
 Option.bind (loopR (r56_L0 a) ((), ((0 : Int), y2))) fun (q85 : T_9) =>
 Option.bind (
 Option.bind (
 Option.bind (loopR (r56_L1 q85 a) (0 : Int)) fun (q164 : (Unit ⊕ Int)) =>
 Sum.elim (fun (v165 : Unit) =>
 some (-1 : Int))
 (fun (v166 : Int) =>
 some v166) q164) fun (d167 : Int) =>
 bif decide (d167 = (-1 : Int)) then
 some ((), ((), ((q85.2.1, ((), q85.2.2.2)), q85.2.2.1)))
 else
 Option.bind (loopR (r56_L2 a) ((), ((), (d167, ((Go.IntKind.wrap .i64 (d167 + (1 : Int))), q85.2))))) fun (q184 : T_3) =>
 bif okB (some q184.2.2.1) none none q184.2.2.2.2.1.length then
 bif okB none (some q184.2.2.1) none ((app (List.take (Int.toNat q184.2.2.1) q184.2.2.2.2.1) (app (List.replicate (q184.2.2.2.2.1.length - (Int.toNat q184.2.2.1)) (((0 : Int), (0 : Int)), ((0 : Int), (false, ((0 : Int), (0 : Int)))))) (List.drop ((Int.toNat q184.2.2.1) + (q184.2.2.2.2.1.length - (Int.toNat q184.2.2.1))) q184.2.2.2.2.1))).length) then
 some ((), ((), ((q184.2.2.2.1, ((), q184.2.2.2.2.2)), midL (app (List.take (Int.toNat q184.2.2.1) q184.2.2.2.2.1) (app (List.replicate (q184.2.2.2.2.1.length - (Int.toNat q184.2.2.1)) (((0 : Int), (0 : Int)), ((0 : Int), (false, ((0 : Int), (0 : Int)))))) (List.drop ((Int.toNat q184.2.2.1) + (q184.2.2.2.2.1.length - (Int.toNat q184.2.2.1))) q184.2.2.2.2.1))) 0 (Int.toNat q184.2.2.1))))
 else
 none
 else
 none) fun (d185 : (Unit × (Unit × ((List ((Int × (Int × Int))) × (Unit × (List (((Int × Int) × Int)) × List ((Int × Int))))) × List (T_13))))) =>
 Option.bind (
 Option.bind (
 Option.bind (loopR (r56_L3 d185 a) (0 : Int)) fun (q264 : (Unit ⊕ Int)) =>
 Sum.elim (fun (v265 : Unit) =>
 some (-1 : Int))
 (fun (v266 : Int) =>
 some v266) q264) fun (d267 : Int) =>
 bif decide (d267 = (-1 : Int)) then
 some ((), ((), ((d185.2.2.1.1, (d185.2.2.2, ((), d185.2.2.1.2.2.2))), d185.2.2.1.2.2.1)))
 else
 Option.bind (loopR (r56_L4 a) ((), ((), (d267, ((Go.IntKind.wrap .i64 (d267 + (1 : Int))), (d185.2.2.1.1, (d185.2.2.2, d185.2.2.1.2.2))))))) fun (q284 : T_3) =>
 bif okB (some q284.2.2.1) none none q284.2.2.2.2.2.1.length then
 bif okB none (some q284.2.2.1) none ((app (List.take (Int.toNat q284.2.2.1) q284.2.2.2.2.2.1) (app (List.replicate (q284.2.2.2.2.2.1.length - (Int.toNat q284.2.2.1)) (((0 : Int), (0 : Int)), (0 : Int))) (List.drop ((Int.toNat q284.2.2.1) + (q284.2.2.2.2.2.1.length - (Int.toNat q284.2.2.1))) q284.2.2.2.2.2.1))).length) then
 some ((), ((), ((q284.2.2.2.1, (q284.2.2.2.2.1, ((), q284.2.2.2.2.2.2))), midL (app (List.take (Int.toNat q284.2.2.1) q284.2.2.2.2.2.1) (app (List.replicate (q284.2.2.2.2.2.1.length - (Int.toNat q284.2.2.1)) (((0 : Int), (0 : Int)), (0 : Int))) (List.drop ((Int.toNat q284.2.2.1) + (q284.2.2.2.2.2.1.length - (Int.toNat q284.2.2.1))) q284.2.2.2.2.2.1))) 0 (Int.toNat q284.2.2.1))))
 else
 none
 else
 none) fun (d285 : (Unit × (Unit × ((List ((Int × (Int × Int))) × (List (T_13) × (Unit × List ((Int × Int))))) × List (((Int × Int) × Int)))))) =>
 Option.bind (
 Option.bind (r88 (d285.2.2.1.2.2.2, a.2.1)) fun (y288 : Bool) =>
 bif !(y288) then
 bif roomOk false d285.2.2.1.2.2.2.length 1 16 then
 some ((), (d285.2.2.1.1, (d285.2.2.1.2.1, (d285.2.2.2, app d285.2.2.1.2.2.2 [a.2.1]))))
 else
 none
 else
 some ((), (d285.2.2.1.1, (d285.2.2.1.2.1, (d285.2.2.2, d285.2.2.1.2.2.2))))) fun (d289 : T_9) =>
 some (d289.2, (0 : Int))
def an56 : Ann := .two (.leaf) (.two (.two (.leaf) (.two (.leaf) (.two (.two (.leaf) (.leaf)) (.leaf)))) (.two (.leaf) (.two (.two (.leaf) (.one (.loop [2, 4, 6, 24, 25] [4, 6] [] [.tmp 9 (.pt 9 [(0, 0)] 0 0 4), .tmp 26 (.int .i64), .box 9 [.sl .own E_19, .sl .own E_18, .sl .own E_20, .sl .own (.pair (.int .i64) (.int .i64))]] [⟨.exit 0, [], [.tmp 9 (.pt 9 [(0, 0)] 0 0 4), .box 9 [.sl .own E_19, .sl .own E_18, .sl .own E_20, .sl .own (.pair (.int .i64) (.int .i64))]]⟩] (.two (.leaf) (.two (.two (.leaf) (.leaf)) (.two (.join [2, 4, 6, 24, 25, 26] [4, 6] [⟨.normal, [], [.tmp 9 (.pt 9 [(0, 0)] 0 0 4), .box 9 [.sl .own E_19, .sl .own E_18, .sl .own E_20, .sl .own (.pair (.int .i64) (.int .i64))]]⟩] (.one (.two (.leaf) (.two (.two (.join [2, 4, 6, 9, 11, 24, 25, 26] [4, 6, 9, 11] [⟨.normal, [], [.tmp 42 (.bool)]⟩] (.segs [(9, ([2, 4, 6, 9, 11, 24, 25, 26], ([4, 6, 9, 11], [.tmp 38 (.bool)])))])) (.two (.leaf) (.leaf))) (.two (.leaf) (.two (.join [2, 4, 6, 11, 12, 24, 25, 26] [4, 6, 11] [⟨.normal, [], [.tmp 9 (.pt 9 [(0, 0)] 0 0 4), .box 9 [.sl .own E_19, .sl .own E_18, .sl .own E_20, .sl .own (.pair (.int .i64) (.int .i64))]]⟩] (.two (.leaf) (.two (.leaf) (.leaf)))) (.two (.leaf) (.leaf)))))))) (.leaf))))))) (.two (.inl 3 101 (.join [4, 6] [4, 6] [⟨.ret, [(105, E_18)], [.tmp 9 (.pt 9 [(0, 0)] 0 0 4), .tmp 105 (.own 105 [(0, 0)] E_18), .box 9 [.sl .own E_19, .dead, .sl .own E_20, .sl .own (.pair (.int .i64) (.int .i64))], .row 105 [.sl .own E_18]]⟩] (.two (.leaf) (.two (.inl 2 143 (.join [4, 6, 9, 101, 102] [4, 6, 9] [⟨.ret, [], [.tmp 147 (.int .i64)]⟩] (.two (.leaf) (.two (.two (.leaf) (.one (.loop [4, 6, 9, 101, 102, 143, 144, 150] [4, 6, 9] [] [.tmp 151 (.int .i64)] [⟨.exit 0, [], []⟩, ⟨.ret, [], [.tmp 147 (.int .i64)]⟩] (.two (.leaf) (.two (.two (.leaf) (.leaf)) (.two (.one (.two (.leaf) (.two (.inl 5 162 (.two (.leaf) (.two (.leaf) (.leaf))) (.leaf)) (.two (.two (.leaf) (.leaf)) (.leaf))))) (.leaf))))))) (.two (.leaf) (.leaf))))) (.leaf)) (.two (.two (.leaf) (.two (.two (.leaf) (.leaf)) (.leaf))) (.two (.two (.leaf) (.one (.loop [4, 6, 102] [4, 6] [] [.tmp 9 (.pt 9 [(0, 0)] 0 0 4), .tmp 101 (.own 9 [(0, 0), (0, 1)] E_18), .tmp 106 (.int .i64), .tmp 107 (.int .i64), .box 9 [.sl .own E_19, .sl .own E_18, .sl .own E_20, .sl .own (.pair (.int .i64) (.int .i64))]] [⟨.exit 0, [], [.tmp 9 (.pt 9 [(0, 0)] 0 0 4), .tmp 101 (.own 9 [(0, 0), (0, 1)] E_18), .tmp 106 (.int .i64), .box 9 [.sl .own E_19, .sl .own E_18, .sl .own E_20, .sl .own (.pair (.int .i64) (.int .i64))]]⟩] (.two (.two (.leaf) (.two (.leaf) (.leaf))) (.two (.join [4, 6, 102, 107] [4, 6] [⟨.normal, [], [.tmp 9 (.pt 9 [(0, 0)] 0 0 4), .tmp 101 (.own 9 [(0, 0), (0, 1)] E_18), .tmp 106 (.int .i64), .box 9 [.sl .own E_19, .sl .own E_18, .sl .own E_20, .sl .own (.pair (.int .i64) (.int .i64))]]⟩] (.one (.two (.leaf) (.two (.inl 2 170 (.two (.leaf) (.two (.leaf) (.leaf))) (.leaf)) (.two (.two (.leaf) (.leaf)) (.leaf)))))) (.leaf)))))) (.two (.leaf) (.two (.leaf) (.leaf)))))))) (.leaf)) (.two (.inl 3 178 (.join [4, 6] [4, 6] [⟨.ret, [(182, E_20)], [.tmp 9 (.pt 9 [(0, 0)] 0 0 4), .tmp 182 (.own 182 [(0, 0)] E_20), .box 9 [.sl .own E_19, .sl .own E_18, .dead, .sl .own (.pair (.int .i64) (.int .i64))], .row 182 [.sl .own E_20]]⟩] (.two (.leaf) (.two (.inl 2 220 (.join [4, 6, 9, 178, 179] [4, 6, 9] [⟨.ret, [], [.tmp 224 (.int .i64)]⟩] (.two (.leaf) (.two (.two (.leaf) (.one (.loop [4, 6, 9, 178, 179, 220, 221, 227] [4, 6, 9] [] [.tmp 228 (.int .i64)] [⟨.exit 0, [], []⟩, ⟨.ret, [], [.tmp 224 (.int .i64)]⟩] (.two (.leaf) (.two (.two (.leaf) (.leaf)) (.two (.one (.two (.leaf) (.two (.inl 5 239 (.two (.leaf) (.two (.leaf) (.leaf))) (.leaf)) (.two (.two (.leaf) (.leaf)) (.leaf))))) (.leaf))))))) (.two (.leaf) (.leaf))))) (.leaf)) (.two (.two (.leaf) (.two (.two (.leaf) (.leaf)) (.leaf))) (.two (.two (.leaf) (.one (.loop [4, 6, 179] [4, 6] [] [.tmp 9 (.pt 9 [(0, 0)] 0 0 4), .tmp 178 (.own 9 [(0, 0), (0, 2)] E_20), .tmp 183 (.int .i64), .tmp 184 (.int .i64), .box 9 [.sl .own E_19, .sl .own E_18, .sl .own E_20, .sl .own (.pair (.int .i64) (.int .i64))]] [⟨.exit 0, [], [.tmp 9 (.pt 9 [(0, 0)] 0 0 4), .tmp 178 (.own 9 [(0, 0), (0, 2)] E_20), .tmp 183 (.int .i64), .box 9 [.sl .own E_19, .sl .own E_18, .sl .own E_20, .sl .own (.pair (.int .i64) (.int .i64))]]⟩] (.two (.two (.leaf) (.two (.leaf) (.leaf))) (.two (.join [4, 6, 179, 184] [4, 6] [⟨.normal, [], [.tmp 9 (.pt 9 [(0, 0)] 0 0 4), .tmp 178 (.own 9 [(0, 0), (0, 2)] E_20), .tmp 183 (.int .i64), .box 9 [.sl .own E_19, .sl .own E_18, .sl .own E_20, .sl .own (.pair (.int .i64) (.int .i64))]]⟩] (.one (.two (.leaf) (.two (.inl 2 247 (.two (.leaf) (.two (.leaf) (.leaf))) (.leaf)) (.two (.two (.leaf) (.leaf)) (.leaf)))))) (.leaf)))))) (.two (.leaf) (.two (.leaf) (.leaf)))))))) (.leaf)) (.two (.join [6] [6] [⟨.normal, [], [.tmp 9 (.pt 9 [(0, 0)] 0 0 4), .box 9 [.sl .own E_19, .sl .own E_18, .sl .own E_20, .sl .own (.pair (.int .i64) (.int .i64))]]⟩] (.two (.leaf) (.two (.leaf) (.leaf)))) (.two (.leaf) (.leaf))))))))
theorem s56 : SoundF cx.P cx.G 56 sg56 r56 := by
  have e : denF cx [(57, ⟨sg57, r57⟩), (87, ⟨sg87, r87⟩), (88, ⟨sg88, r88⟩), (91, ⟨sg91, r91⟩), (92, ⟨sg92, r92⟩)] an56 Tryd.f56.ntmps (Tryd.f56.body.getD .skip) Tryd.f56.results.toList sg56 = r56 := by kernel_rfl
  rw [← e]
  exact sound_of_den (c := cx) (Known.cons (.ofF s57 (by kernel_rfl)) Tryd.func57 (by kernel_rfl) (by kernel_rfl) (Known.cons (.ofF s87 (by kernel_rfl)) Tryd.func87 (by kernel_rfl) (by kernel_rfl) (Known.cons (.ofF s88 (by kernel_rfl)) Tryd.func88 (by kernel_rfl) (by kernel_rfl) (Known.cons (.ofF s91 (by kernel_rfl)) Tryd.func91 (by kernel_rfl) (by kernel_rfl) (Known.cons (.ofD s92 (by kernel_rfl)) Tryd.func92 (by kernel_rfl) (by kernel_rfl) (Known.nil)))))) Tryd.func56 (by kernel_rfl) (Nat.le_of_ble_eq_true (by kernel_rfl)) rfl
/-! reredos/reredoskeep.Store -/
noncomputable def r25_L0 (a : (List (T_14) × Int)) (d127 : T_7) : Option (T_7 ⊕ T_9) :=
 Option.bind (
 bif decide (d127.2.1 < (↑a.1.length : Int)) then
 some (decide (d127.2.1 < a.2))
 else
 some false) fun (d128 : Bool) =>
 bif d128 then
 Option.bind (
 Option.bind (idxI a.1 d127.2.1) fun (b215 : T_14) =>
 Option.bind (r15 (b215.2.1, (2 : Int))) fun (y216 : Int) =>
 Option.bind (idxI a.1 d127.2.1) fun (b217 : T_14) =>
 Option.bind (r15 (b217.2.2.1, (2 : Int))) fun (y218 : Int) =>
 Option.bind (idxI a.1 d127.2.1) fun (b219 : T_14) =>
 Option.bind (r15 (b219.2.2.2.1, (5 : Int))) fun (y220 : Int) =>
 Option.bind (idxI a.1 d127.2.1) fun (b221 : T_14) =>
 Option.bind (r15 (b221.1, (5 : Int))) fun (y222 : Int) =>
 Option.bind (
 bif decide (y222 = (0 : Int)) then
 some (decide (y222 = (0 : Int)))
 else
 some (decide (y222 = (1 : Int)))) fun (d223 : Bool) =>
 bif d223 then
 Option.bind (r54 (d127.2.2, (y216, (Go.IntKind.wrap .i64 ((1 : Int) + y218))), y220)) fun (y224 : T_6) =>
 bif decide (y224.2.2.2 = (0 : Int)) then
 some ((), y224.1)
 else
 some ((), d127.2.2)
 else
 Option.bind (
 bif decide (y222 = (2 : Int)) then
 some (decide (y222 = (2 : Int)))
 else
 some (decide (y222 = (3 : Int)))) fun (d225 : Bool) =>
 bif d225 then
 Option.bind (
 Option.bind (idxI a.1 d127.2.1) fun (b236 : T_14) =>
 Option.bind (r15 (b236.2.2.2.2.1, (100 : Int))) fun (y237 : Int) =>
 Option.bind (idxI a.1 d127.2.1) fun (b238 : T_14) =>
 Option.bind (r15 (b238.2.2.2.2.2, (5 : Int))) fun (y239 : Int) =>
 Option.bind (r55 (d127.2.2, (y216, (Go.IntKind.wrap .i64 ((1 : Int) + y218))), y220, y237, y239)) fun (y240 : T_10) =>
 
 some ((), (y240.2, y240.1))) fun (d241 : T_7) =>
 bif decide (d241.2.1 = (0 : Int)) then
 some ((), d241.2.2)
 else
 some ((), d127.2.2)
 else
 Option.bind (
 Option.bind (idxI a.1 d127.2.1) fun (b248 : T_14) =>
 Option.bind (r15 (b248.2.2.2.2.1, (2 : Int))) fun (y249 : Int) =>
 Option.bind (r56 (d127.2.2, (y216, (Go.IntKind.wrap .i64 ((1 : Int) + y218))), decide (y249 = (1 : Int)))) fun (y250 : T_10) =>
 
 some ((), (y250.2, y250.1))) fun (d251 : T_7) =>
 bif decide (d251.2.1 = (0 : Int)) then
 some ((), d251.2.2)
 else
 some ((), d127.2.2)) fun (d252 : T_9) =>
 some (Sum.inl ((), ((Go.IntKind.wrap .i64 (d127.2.1 + (1 : Int))), d252.2)))
 else
 some (Sum.inr ((), d127.2.2))
noncomputable def r25_L0q (a : (List (T_14) × Int)) : T_7 → Option (T_7 ⊕ T_9) := fun d127 =>
 Option.bind (
 bif decide (d127.2.1 < (↑a.1.length : Int)) then
 some (decide (d127.2.1 < a.2))
 else
 some false) fun (d128 : Bool) =>
 bif d128 then
 Option.bind (
 Option.bind (idxI a.1 d127.2.1) fun (b215 : T_14) =>
 Option.bind (r15 (b215.2.1, (2 : Int))) fun (y216 : Int) =>
 Option.bind (idxI a.1 d127.2.1) fun (b217 : T_14) =>
 Option.bind (r15 (b217.2.2.1, (2 : Int))) fun (y218 : Int) =>
 Option.bind (idxI a.1 d127.2.1) fun (b219 : T_14) =>
 Option.bind (r15 (b219.2.2.2.1, (5 : Int))) fun (y220 : Int) =>
 Option.bind (idxI a.1 d127.2.1) fun (b221 : T_14) =>
 Option.bind (r15 (b221.1, (5 : Int))) fun (y222 : Int) =>
 Option.bind (
 bif decide (y222 = (0 : Int)) then
 some (decide (y222 = (0 : Int)))
 else
 some (decide (y222 = (1 : Int)))) fun (d223 : Bool) =>
 bif d223 then
 Option.bind (r54 (d127.2.2, (y216, (Go.IntKind.wrap .i64 ((1 : Int) + y218))), y220)) fun (y224 : T_6) =>
 bif decide (y224.2.2.2 = (0 : Int)) then
 some ((), y224.1)
 else
 some ((), d127.2.2)
 else
 Option.bind (
 bif decide (y222 = (2 : Int)) then
 some (decide (y222 = (2 : Int)))
 else
 some (decide (y222 = (3 : Int)))) fun (d225 : Bool) =>
 bif d225 then
 Option.bind (
 Option.bind (idxI a.1 d127.2.1) fun (b236 : T_14) =>
 Option.bind (r15 (b236.2.2.2.2.1, (100 : Int))) fun (y237 : Int) =>
 Option.bind (idxI a.1 d127.2.1) fun (b238 : T_14) =>
 Option.bind (r15 (b238.2.2.2.2.2, (5 : Int))) fun (y239 : Int) =>
 Option.bind (r55 (d127.2.2, (y216, (Go.IntKind.wrap .i64 ((1 : Int) + y218))), y220, y237, y239)) fun (y240 : T_10) =>
 sameR (
 some ((), (y240.2, y240.1)))
 (
 sameR (
 some ((), (y240.2, y240.1)))
 (
 some ((), (y240.2, y240.1))))) fun (d241 : T_7) =>
 bif decide (d241.2.1 = (0 : Int)) then
 some ((), d241.2.2)
 else
 some ((), d127.2.2)
 else
 Option.bind (
 Option.bind (idxI a.1 d127.2.1) fun (b248 : T_14) =>
 Option.bind (r15 (b248.2.2.2.2.1, (2 : Int))) fun (y249 : Int) =>
 Option.bind (r56 (d127.2.2, (y216, (Go.IntKind.wrap .i64 ((1 : Int) + y218))), decide (y249 = (1 : Int)))) fun (y250 : T_10) =>
 sameR (
 some ((), (y250.2, y250.1)))
 (
 sameR (
 some ((), (y250.2, y250.1)))
 (
 some ((), (y250.2, y250.1))))) fun (d251 : T_7) =>
 bif decide (d251.2.1 = (0 : Int)) then
 some ((), d251.2.2)
 else
 some ((), d127.2.2)) fun (d252 : T_9) =>
 some (Sum.inl ((), ((Go.IntKind.wrap .i64 (d127.2.1 + (1 : Int))), d252.2)))
 else
 some (Sum.inr ((), d127.2.2))
theorem r25_L0e (a : (List (T_14) × Int)) : r25_L0q a = r25_L0 a := by unfold r25_L0q r25_L0; simp only [sameN_self, sameR_self, sameR_dup, sameR_bind, sameR_cond]
def sg25 : Sig := ⟨[⟨false, .bo, (.sl E_17)⟩, ⟨false, .bo, (.int .i64)⟩], [⟨true, .own, E_16⟩]⟩
noncomputable def r25 (a : (List (T_14) × Int)) : Option T_12 :=
 Option.bind (loopR (r25_L0 a) ((), ((0 : Int), ([], ([], ([], [])))))) fun (q253 : T_9) =>
 some q253.2
noncomputable def r25q : (List (T_14) × Int) → Option T_12 := fun a =>
 Option.bind (loopR (r25_L0q a) ((), ((0 : Int), ([], ([], ([], [])))))) fun (q253 : T_9) =>
 some q253.2
theorem r25e : r25q = r25 := by unfold r25q r25; simp only [sameN_self, sameR_self, sameR_dup, sameR_bind, sameR_cond, r25_L0e]
def an25 : Ann := .two (.leaf) (.two (.leaf) (.two (.two (.leaf) (.one (.loop [0, 1, 4] [4] [] [.tmp 5 (.pt 5 [(0, 0)] 0 0 4), .tmp 6 (.int .i64), .box 5 [.sl .own E_19, .sl .own E_18, .sl .own E_20, .sl .own (.pair (.int .i64) (.int .i64))]] [⟨.exit 0, [], [.tmp 5 (.pt 5 [(0, 0)] 0 0 4), .box 5 [.sl .own E_19, .sl .own E_18, .sl .own E_20, .sl .own (.pair (.int .i64) (.int .i64))]]⟩] (.two (.two (.join [0, 1, 4, 5, 6] [4, 5] [⟨.normal, [], [.tmp 25 (.bool)]⟩] (.leaf)) (.two (.leaf) (.leaf))) (.two (.join [0, 1, 4, 6] [4] [⟨.normal, [], [.tmp 5 (.pt 5 [(0, 0)] 0 0 4), .box 5 [.sl .own E_19, .sl .own E_18, .sl .own E_20, .sl .own (.pair (.int .i64) (.int .i64))]]⟩] (.one (.two (.draw 15) (.two (.leaf) (.two (.leaf) (.one (.two (.join [0, 1, 4, 5, 6, 7, 8, 53] [4, 5, 7] [⟨.normal, [], [.tmp 70 (.bool)]⟩] (.two (.leaf) (.two (.leaf) (.leaf)))) (.two (.two (.leaf) (.two (.leaf) (.two (.leaf) (.leaf)))) (.two (.join [0, 1, 4, 5, 6, 7, 8] [4, 5, 7] [⟨.normal, [], [.tmp 85 (.bool)]⟩] (.two (.leaf) (.two (.leaf) (.leaf)))) (.two (.two (.join [0, 1, 4, 5, 6] [4, 5] [⟨.normal, [], [.tmp 13 (.pt 13 [(0, 0)] 0 0 4), .tmp 14 (.int .i64), .box 13 [.sl .own E_19, .sl .own E_18, .sl .own E_20, .sl .own (.pair (.int .i64) (.int .i64))]]⟩] (.drawT [0, 1, 2, 3, 4, 5, 6, 7, 8, 9, 10, 11, 12, 13, 14, 15, 16, 17, 18, 19] [18])) (.two (.leaf) (.two (.leaf) (.leaf)))) (.two (.join [0, 1, 4, 5, 6] [4, 5] [⟨.normal, [], [.tmp 15 (.pt 15 [(0, 0)] 0 0 4), .tmp 16 (.int .i64), .box 15 [.sl .own E_19, .sl .own E_18, .sl .own E_20, .sl .own (.pair (.int .i64) (.int .i64))]]⟩] (.drawT [0, 1, 2, 3, 4, 5, 6, 7, 8, 9, 10, 11, 12, 13] [12])) (.two (.leaf) (.two (.leaf) (.leaf)))))))))))))) (.leaf)))))) (.two (.leaf) (.leaf))))
theorem s25 : SoundF cx.P cx.G 25 sg25 r25 := by
  have e : denF cx [(15, ⟨sg15, r15⟩), (54, ⟨sg54, r54⟩), (55, ⟨sg55, r55⟩), (56, ⟨sg56, r56⟩)] an25 Tryd.f25.ntmps (Tryd.f25.body.getD .skip) Tryd.f25.results.toList sg25 = r25q := by kernel_rfl
  rw [← r25e, ← e]
  exact sound_of_den (c := cx) (Known.cons (.ofF s15 (by kernel_rfl)) Tryd.func15 (by kernel_rfl) (by kernel_rfl) (Known.cons (.ofF s54 (by kernel_rfl)) Tryd.func54 (by kernel_rfl) (by kernel_rfl) (Known.cons (.ofF s55 (by kernel_rfl)) Tryd.func55 (by kernel_rfl) (by kernel_rfl) (Known.cons (.ofF s56 (by kernel_rfl)) Tryd.func56 (by kernel_rfl) (by kernel_rfl) (Known.nil))))) Tryd.func25 (by kernel_rfl) (Nat.le_of_ble_eq_true (by kernel_rfl)) rfl
/-! reredos/reredoskeep.ShowHidden -/
def sg11 : Sig := ⟨[⟨false, .bo, (.sl E_17)⟩, ⟨false, .bo, (.sl E_17)⟩, ⟨false, .bo, (.sl E_17)⟩, ⟨false, .bo, (.int .i64)⟩, ⟨false, .bo, (.int .i64)⟩, ⟨false, .bo, (.int .i64)⟩, ⟨false, .bo, (.int .i64)⟩], [⟨false, .own, .bool⟩]⟩
noncomputable def r11 (a : (List (T_14) × (List (T_14) × (List (T_14) × (Int × (Int × (Int × Int))))))) : Option Bool :=
 Option.bind (r13 (0 : Int)) fun (y1 : (Int × (List ((Int × Int)) × Int))) =>
 Option.bind (r15 (a.2.2.2.1, (3 : Int))) fun (y2 : Int) =>
 bif inB y2 ([(1 : Int), (2 : Int), (4 : Int)].length) then
 Option.bind (idxN [(1 : Int), (2 : Int), (4 : Int)] (Int.toNat y2)) fun (x3 : Int) =>
 Option.bind (
 bif decide (x3 = (2 : Int)) then
 Option.bind (r15 (a.2.2.2.2.1, (2 : Int))) fun (y10 : Int) =>
 Option.bind (r15 (a.2.2.2.2.2.1, (2 : Int))) fun (y11 : Int) =>
 Option.bind (r15 (a.2.2.2.2.2.2, (3 : Int))) fun (y12 : Int) =>
 some ((), (x3, (y10, (y11, ((Go.IntKind.wrap .i64 ((1 : Int) + y12)), false)))))
 else
 some ((), (x3, ((0 : Int), ((0 : Int), ((0 : Int), false)))))) fun (d13 : (Unit × (Int × (Int × (Int × (Int × Bool)))))) =>
 Option.bind (
 Option.bind (r25 (a.1, (20 : Int))) fun (y48 : T_12) =>
 Option.bind (r25 (a.2.1, (20 : Int))) fun (y49 : T_12) =>
 Option.bind (r24 (y1, (0 : Int), [y48, y49], [[(((0 : Int), (1 : Int)), (false, false))], [(((0 : Int), (2 : Int)), (true, false))]], (d13.2.1, (d13.2.2.1, ((d13.2.2.2.1, d13.2.2.2.2.1), d13.2.2.2.2.2))))) fun (y50 : (List UInt8 × Int)) =>
 
 some y50) fun (d58 : (List UInt8 × Int)) =>
 Option.bind (
 Option.bind (r25 (a.1, (20 : Int))) fun (y121 : T_12) =>
 Option.bind (r25 (a.2.2.1, (20 : Int))) fun (y122 : T_12) =>
 bif inB (0 : Int) ([[(((0 : Int), (1 : Int)), (false, false))], [(((0 : Int), (2 : Int)), (true, false))]].length) then
 Option.bind (idxN [[(((0 : Int), (1 : Int)), (false, false))], [(((0 : Int), (2 : Int)), (true, false))]] 0) fun (x123 : List (((Int × Int) × (Bool × Bool)))) =>
 
 Option.bind (r24 (y1, (0 : Int), [y121, y122], [x123, []], (d13.2.1, (d13.2.2.1, ((d13.2.2.2.1, d13.2.2.2.2.1), d13.2.2.2.2.2))))) fun (y124 : (List UInt8 × Int)) =>
 
 some y124
 else
 none) fun (d156 : (List UInt8 × Int)) =>
 Option.bind (
 Option.bind (r25 (a.1, (20 : Int))) fun (y191 : T_12) =>
 Option.bind (r25 (a.2.1, (20 : Int))) fun (y192 : T_12) =>
 Option.bind (r24 (y1, (1 : Int), [y191, y192], [[(((0 : Int), (1 : Int)), (false, false))], [(((0 : Int), (2 : Int)), (true, false))]], ((4 : Int), ((0 : Int), (((0 : Int), (0 : Int)), false))))) fun (y193 : (List UInt8 × Int)) =>
 
 some y193) fun (d201 : (List UInt8 × Int)) =>
 Option.bind (
 bif decide (d58.2 = (0 : Int)) then
 some (decide (d156.2 = (0 : Int)))
 else
 some false) fun (g202 : Bool) =>
 Option.bind (
 bif g202 then
 some (decide (d201.2 = (0 : Int)))
 else
 some false) fun (g203 : Bool) =>
 Option.bind (
 bif g203 then
 some (decide (d58.1 = d156.1))
 else
 some false) fun (g204 : Bool) =>
 bif g204 then
 some (decide (d201.1 = ([48, 32, 48, 32, 49, 32, 97, 98, 111, 114, 116, 10, 49, 32, 48, 32, 50, 32, 99, 111, 109, 109, 105, 116, 10] : List UInt8)))
 else
 some false
 else
 none
noncomputable def r11_s0 (y1 : (Int × (List ((Int × Int)) × Int))) (y48 : T_12) (y49 : T_12) (d13 : (Unit × (Int × (Int × (Int × (Int × Bool)))))) : Option (List UInt8 × Int) :=
 Option.bind (r24 (y1, (0 : Int), [y48, y49], [[(((0 : Int), (1 : Int)), (false, false))], [(((0 : Int), (2 : Int)), (true, false))]], (d13.2.1, (d13.2.2.1, ((d13.2.2.2.1, d13.2.2.2.2.1), d13.2.2.2.2.2))))) fun (y50 : (List UInt8 × Int)) =>
 sameR (
 some y50)
 (
 sameR (
 some y50)
 (
 some y50))
noncomputable def r11_s1 (y1 : (Int × (List ((Int × Int)) × Int))) (y121 : T_12) (y122 : T_12) (x123 : List (((Int × Int) × (Bool × Bool)))) (d13 : (Unit × (Int × (Int × (Int × (Int × Bool)))))) : Option (List UInt8 × Int) :=
 Option.bind (r24 (y1, (0 : Int), [y121, y122], [x123, []], (d13.2.1, (d13.2.2.1, ((d13.2.2.2.1, d13.2.2.2.2.1), d13.2.2.2.2.2))))) fun (y124 : (List UInt8 × Int)) =>
 sameR (
 some y124)
 (
 sameR (
 some y124)
 (
 some y124))
noncomputable def r11_s2 (y1 : (Int × (List ((Int × Int)) × Int))) (y121 : T_12) (y122 : T_12) (d13 : (Unit × (Int × (Int × (Int × (Int × Bool)))))) : Option (List UInt8 × Int) :=
 Option.bind (idxN [[(((0 : Int), (1 : Int)), (false, false))], [(((0 : Int), (2 : Int)), (true, false))]] 0) fun (x128 : List (((Int × Int) × (Bool × Bool)))) =>
 r11_s1 y1 y121 y122 x128 d13
noncomputable def r11_s3 (y1 : (Int × (List ((Int × Int)) × Int))) (y191 : T_12) (y192 : T_12) : Option (List UInt8 × Int) :=
 Option.bind (r24 (y1, (1 : Int), [y191, y192], [[(((0 : Int), (1 : Int)), (false, false))], [(((0 : Int), (2 : Int)), (true, false))]], ((4 : Int), ((0 : Int), (((0 : Int), (0 : Int)), false))))) fun (y193 : (List UInt8 × Int)) =>
 sameR (
 some y193)
 (
 sameR (
 some y193)
 (
 some y193))
noncomputable def r11q : (List (T_14) × (List (T_14) × (List (T_14) × (Int × (Int × (Int × Int)))))) → Option Bool := fun a =>
 Option.bind (r13 (0 : Int)) fun (y1 : (Int × (List ((Int × Int)) × Int))) =>
 Option.bind (r15 (a.2.2.2.1, (3 : Int))) fun (y2 : Int) =>
 bif inB y2 ([(1 : Int), (2 : Int), (4 : Int)].length) then
 Option.bind (idxN [(1 : Int), (2 : Int), (4 : Int)] (Int.toNat y2)) fun (x3 : Int) =>
 Option.bind (
 bif decide (x3 = (2 : Int)) then
 Option.bind (r15 (a.2.2.2.2.1, (2 : Int))) fun (y10 : Int) =>
 Option.bind (r15 (a.2.2.2.2.2.1, (2 : Int))) fun (y11 : Int) =>
 Option.bind (r15 (a.2.2.2.2.2.2, (3 : Int))) fun (y12 : Int) =>
 some ((), (x3, (y10, (y11, ((Go.IntKind.wrap .i64 ((1 : Int) + y12)), false)))))
 else
 some ((), (x3, ((0 : Int), ((0 : Int), ((0 : Int), false)))))) fun (d13 : (Unit × (Int × (Int × (Int × (Int × Bool)))))) =>
 Option.bind (
 Option.bind (r25 (a.1, (20 : Int))) fun (y48 : T_12) =>
 Option.bind (r25 (a.2.1, (20 : Int))) fun (y49 : T_12) =>
 sameR (
 r11_s0 y1 y48 y49 d13)
 (
 sameR (
 r11_s0 y1 y48 y49 d13)
 (
 sameR (
 r11_s0 y1 y48 y49 d13)
 (
 sameR (
 r11_s0 y1 y48 y49 d13)
 (
 sameR (
 r11_s0 y1 y48 y49 d13)
 (
 sameR (
 r11_s0 y1 y48 y49 d13)
 (
 sameR (
 r11_s0 y1 y48 y49 d13)
 (
 r11_s0 y1 y48 y49 d13)))))))) fun (d58 : (List UInt8 × Int)) =>
 Option.bind (
 Option.bind (r25 (a.1, (20 : Int))) fun (y121 : T_12) =>
 Option.bind (r25 (a.2.2.1, (20 : Int))) fun (y122 : T_12) =>
 bif inB (0 : Int) ([[(((0 : Int), (1 : Int)), (false, false))], [(((0 : Int), (2 : Int)), (true, false))]].length) then
 Option.bind (idxN [[(((0 : Int), (1 : Int)), (false, false))], [(((0 : Int), (2 : Int)), (true, false))]] 0) fun (x123 : List (((Int × Int) × (Bool × Bool)))) =>
 sameR (
 r11_s1 y1 y121 y122 x123 d13)
 (
 sameR (
 r11_s1 y1 y121 y122 x123 d13)
 (
 sameR (
 r11_s1 y1 y121 y122 x123 d13)
 (
 sameR (
 r11_s1 y1 y121 y122 x123 d13)
 (
 sameR (
 r11_s2 y1 y121 y122 d13)
 (
 sameR (
 r11_s2 y1 y121 y122 d13)
 (
 sameR (
 bif inB (0 : Int) ([[(((0 : Int), (1 : Int)), (false, false))], [(((0 : Int), (2 : Int)), (true, false))]].length) then
 r11_s2 y1 y121 y122 d13
 else
 none)
 (
 sameR (
 bif inB (0 : Int) ([[(((0 : Int), (1 : Int)), (false, false))], [(((0 : Int), (2 : Int)), (true, false))]].length) then
 r11_s2 y1 y121 y122 d13
 else
 none)
 (
 sameR (
 bif inB (0 : Int) ([[(((0 : Int), (1 : Int)), (false, false))], [(((0 : Int), (2 : Int)), (true, false))]].length) then
 r11_s2 y1 y121 y122 d13
 else
 none)
 (
 sameR (
 bif inB (0 : Int) ([[(((0 : Int), (1 : Int)), (false, false))], [(((0 : Int), (2 : Int)), (true, false))]].length) then
 r11_s2 y1 y121 y122 d13
 else
 none)
 (
 sameR (
 r11_s1 y1 y121 y122 x123 d13)
 (
 sameR (
 r11_s1 y1 y121 y122 x123 d13)
 (
 sameR (
 r11_s1 y1 y121 y122 x123 d13)
 (
 sameR (
 r11_s1 y1 y121 y122 x123 d13)
 (
 sameR (
 r11_s2 y1 y121 y122 d13)
 (
 sameR (
 r11_s2 y1 y121 y122 d13)
 (
 sameR (
 bif inB (0 : Int) ([[(((0 : Int), (1 : Int)), (false, false))], [(((0 : Int), (2 : Int)), (true, false))]].length) then
 r11_s2 y1 y121 y122 d13
 else
 none)
 (
 sameR (
 bif inB (0 : Int) ([[(((0 : Int), (1 : Int)), (false, false))], [(((0 : Int), (2 : Int)), (true, false))]].length) then
 r11_s2 y1 y121 y122 d13
 else
 none)
 (
 sameR (
 bif inB (0 : Int) ([[(((0 : Int), (1 : Int)), (false, false))], [(((0 : Int), (2 : Int)), (true, false))]].length) then
 r11_s2 y1 y121 y122 d13
 else
 none)
 (
 bif inB (0 : Int) ([[(((0 : Int), (1 : Int)), (false, false))], [(((0 : Int), (2 : Int)), (true, false))]].length) then
 r11_s2 y1 y121 y122 d13
 else
 none)))))))))))))))))))
 else
 none) fun (d156 : (List UInt8 × Int)) =>
 Option.bind (
 Option.bind (r25 (a.1, (20 : Int))) fun (y191 : T_12) =>
 Option.bind (r25 (a.2.1, (20 : Int))) fun (y192 : T_12) =>
 sameR (
 r11_s3 y1 y191 y192)
 (
 sameR (
 r11_s3 y1 y191 y192)
 (
 sameR (
 r11_s3 y1 y191 y192)
 (
 sameR (
 r11_s3 y1 y191 y192)
 (
 sameR (
 r11_s3 y1 y191 y192)
 (
 sameR (
 r11_s3 y1 y191 y192)
 (
 sameR (
 r11_s3 y1 y191 y192)
 (
 r11_s3 y1 y191 y192)))))))) fun (d201 : (List UInt8 × Int)) =>
 Option.bind (
 bif decide (d58.2 = (0 : Int)) then
 some (decide (d156.2 = (0 : Int)))
 else
 some false) fun (g202 : Bool) =>
 Option.bind (
 bif g202 then
 some (decide (d201.2 = (0 : Int)))
 else
 some false) fun (g203 : Bool) =>
 Option.bind (
 bif g203 then
 some (decide (d58.1 = d156.1))
 else
 some false) fun (g204 : Bool) =>
 bif g204 then
 some (decide (d201.1 = ([48, 32, 48, 32, 49, 32, 97, 98, 111, 114, 116, 10, 49, 32, 48, 32, 50, 32, 99, 111, 109, 109, 105, 116, 10] : List UInt8)))
 else
 some false
 else
 none
theorem r11e : r11q = r11 := by
  have q1 : inB (0 : Int) ([[(((0 : Int), (1 : Int)), (false, false))], [(((0 : Int), (2 : Int)), (true, false))]].length) = true := rfl
  have q2 : idxN [[(((0 : Int), (1 : Int)), (false, false))], [(((0 : Int), (2 : Int)), (true, false))]] 0 = some [(((0 : Int), (1 : Int)), (false, false))] := rfl
  unfold r11q r11; simp only [q1, q2, cond_true, Option.bind_some, r11_s0, r11_s1, r11_s2, r11_s3, sameN_self, sameR_self, sameR_dup, sameR_bind, sameR_cond]
def an11 : Ann := .two (.leaf) (.two (.leaf) (.two (.leaf) (.two (.join [0, 1, 2, 15] [15] [⟨.normal, [], [.tmp 16 (.pt 16 [(0, 0)] 0 0 5), .box 16 [.int .i64, .int .i64, .int .i64, .int .i64, .bool]]⟩] (.two (.leaf) (.two (.two (.leaf) (.leaf)) (.leaf)))) (.two (.leaf) (.two (.join [0, 1, 2, 15, 16, 17] [15, 16, 50] [⟨.normal, [], [.tmp 18 (.str), .tmp 19 (.int .i64)]⟩] (.stages [0, 1, 2, 3, 4, 6, 7, 11])) (.two (.join [0, 1, 15, 17, 18, 19] [15, 50] [⟨.normal, [], [.tmp 20 (.str), .tmp 21 (.int .i64)]⟩] (.stages [0, 1, 2, 3, 4, 6, 7, 8, 9, 10, 14])) (.two (.join [18, 19, 20, 21] [] [⟨.normal, [], [.tmp 22 (.str), .tmp 23 (.int .i64)]⟩] (.stages [0, 1, 2, 3, 4, 6, 7, 11])) (.two (.segs [(6, ([18, 20, 22, 23], ([], [.tmp 95 (.bool)]))), (4, ([18, 20, 22], ([], [.tmp 99 (.bool)]))), (5, ([22], ([], [.tmp 104 (.bool)])))]) (.leaf)))))))))
theorem s11 : SoundF cx.P cx.G 11 sg11 r11 := by
  have e : denF cx [(13, ⟨sg13, r13⟩), (15, ⟨sg15, r15⟩), (24, ⟨sg24, r24⟩), (25, ⟨sg25, r25⟩)] an11 Tryd.f11.ntmps (Tryd.f11.body.getD .skip) Tryd.f11.results.toList sg11 = r11q := by kernel_rfl
  rw [← r11e, ← e]
  exact sound_of_den (c := cx) (Known.cons (.ofF s13 (by kernel_rfl)) Tryd.func13 (by kernel_rfl) (by kernel_rfl) (Known.cons (.ofF s15 (by kernel_rfl)) Tryd.func15 (by kernel_rfl) (by kernel_rfl) (Known.cons (.ofF s24 (by kernel_rfl)) Tryd.func24 (by kernel_rfl) (by kernel_rfl) (Known.cons (.ofF s25 (by kernel_rfl)) Tryd.func25 (by kernel_rfl) (by kernel_rfl) (Known.nil))))) Tryd.func11 (by kernel_rfl) (Nat.le_of_ble_eq_true (by kernel_rfl)) rfl
end Go.Hy
