/- What the functions compute: written by gen.py. -/
import Derived.Test.YtmcaghldcabnnaaDoorLibK
import Derived.Lib.Builder
import Derived.Test.YtmcaghldcabnnaaDoorLibI
import Derived.WalkKit
import Derived.Lib.Walk
import Derived.Lib.JoinLaws
import Derived.Test.YtmcaghldcabnnaaDoorHlShelf
import Derived.Test.YtmcaghldcabnnaaDoorProg
import Derived.KernelRfl
namespace Go.Hl
open Go.RowKit Go.Proofs Go.V Go.Proofs
abbrev E_13 : Ty := (.pair (.int .i64) (.pair (.int .i64) (.pair (.int .i64) (.pair (.int .i64) (.int .i64)))))
abbrev E_12 : Ty := (.sl (.pair (.int .i64) E_13))
abbrev E_11 : Ty := (.pair (.int .i64) (.pair (.int .i64) (.pair (.int .i64) (.pair (.int .i64) (.pair (.int .i64) (.pair (.sl (.int .i64)) (.pair E_13 .str)))))))
abbrev E_10 : Ty := (.pair (.int .i64) (.pair (.int .i64) (.pair (.int .i64) (.pair (.int .i64) (.pair (.int .i64) (.pair (.rsl (.int .i64)) (.pair E_13 .str)))))))
abbrev E_9 : Ty := (.sl E_10)
abbrev T_8 : Type := (Int × (List ((Int × Int)) × Int))
abbrev T_7 : Type := (Int × (Int × (Int × (Int × Int))))
abbrev T_6 : Type := (Unit × (List UInt8 × (List (List UInt8) × Bool)))
abbrev T_5 : Type := (Unit × T_6)
abbrev T_4 : Type := (Int × (Int × (Int × (Int × (Int × (List Int × (Int × (Int × (Int × (Int × (Int × List UInt8)))))))))))
abbrev T_3 : Type := (Int × (Int × (Int × (Int × (Int × (List Int × (T_7 × List UInt8)))))))
abbrev T_2 : Type := (Unit × List (T_3))
abbrev T_1 : Type := (List (T_3) × (Int × Int))
abbrev T_0 : Type := (Unit × (Unit × ((List (List UInt8) × Bool) × T_4)))
def tys : List (Nat × TyInfo) := [
 (3, ⟨.int .i64, 1, 8, [.int .i64 0], false, [none], [none], (.int .i64)⟩),
 (4, ⟨.bool, 1, 1, [.bool false], false, [none], [none], .bool⟩),
 (5, ⟨.int .u8, 1, 1, [.int .u8 0], false, [none], [none], (.int .u8)⟩),
 (9, ⟨.str, 1, 16, [.string ⟨#[]⟩], false, [none], [none], .str⟩),
 (21, ⟨.int .i32, 1, 4, [.int .i32 0], false, [none], [none], (.int .i32)⟩),
 (22, ⟨.sl 61, 1, 24, [.slice none 0 0], false, [some (.pair (.int .i64) E_13)], [none], E_12⟩),
 (23, ⟨.sl 59, 1, 24, [.slice none 0 0], false, [some (.pair (.int .i64) (.int .i64))], [none], (.sl (.pair (.int .i64) (.int .i64)))⟩),
 (25, ⟨.st [(0, 3), (1, 23), (2, 3)], 3, 40, [.int .i64 0, .slice none 0 0, .int .i64 0], false, [none, some (.pair (.int .i64) (.int .i64)), none], [none, none, none], (.pair (.int .i64) (.pair (.rsl (.pair (.int .i64) (.int .i64))) (.int .i64)))⟩),
 (27, ⟨.sl 33, 1, 24, [.slice none 0 0], false, [some E_10], [none], E_9⟩),
 (29, ⟨.sl 3, 1, 24, [.slice none 0 0], false, [some (.int .i64)], [none], (.sl (.int .i64))⟩),
 (31, ⟨.st [(0, 3), (1, 3), (2, 3), (3, 3), (4, 3)], 5, 40, [.int .i64 0, .int .i64 0, .int .i64 0, .int .i64 0, .int .i64 0], true, [none, none, none, none, none], [none, none, none, none, none], E_13⟩),
 (33, ⟨.st [(0, 3), (1, 3), (2, 3), (3, 3), (4, 3), (5, 29), (6, 31), (11, 9)], 12, 120, [.int .i64 0, .int .i64 0, .int .i64 0, .int .i64 0, .int .i64 0, .slice none 0 0, .int .i64 0, .int .i64 0, .int .i64 0, .int .i64 0, .int .i64 0, .string ⟨#[]⟩], false, [none, none, none, none, none, some (.int .i64), none, none, none, none, none, none], [none, none, none, none, none, none, none, none, none, none, none, none], E_10⟩),
 (34, ⟨.int .i64, 1, 8, [.int .i64 0], false, [none], [none], (.int .i64)⟩),
 (44, ⟨.sl 9, 1, 24, [.slice none 0 0], false, [some .str], [none], (.sl .str)⟩),
 (45, ⟨.sl 34, 1, 24, [.slice none 0 0], false, [some (.int .i64)], [none], (.sl (.int .i64))⟩),
 (56, ⟨.sl 5, 1, 24, [.slice none 0 0], false, [some (.int .u8)], [none], (.sl (.int .u8))⟩),
 (59, ⟨.st [(0, 3), (1, 3)], 2, 16, [.int .i64 0, .int .i64 0], true, [none, none], [none, none], (.pair (.int .i64) (.int .i64))⟩),
 (61, ⟨.st [(0, 3), (1, 3), (2, 3), (3, 3), (4, 3), (5, 3)], 6, 48, [.int .i64 0, .int .i64 0, .int .i64 0, .int .i64 0, .int .i64 0, .int .i64 0], false, [none, none, none, none, none, none], [none, none, none, none, none, none], (.pair (.int .i64) E_13)⟩),
 (65, ⟨.ptr, 1, 8, [.pointer none], false, [none], [none], .unit⟩),
 (67, ⟨.st [(0, 65), (1, 56)], 2, 32, [.pointer none, .slice none 0 0], false, [none, some (.int .u8)], [none, none], .unit⟩),
 (70, ⟨.iface, 1, 16, [.nilIface], false, [none], [none], .unit⟩),
 (73, ⟨.arr 9 9, 9, 144, [.string ⟨#[]⟩, .string ⟨#[]⟩, .string ⟨#[]⟩, .string ⟨#[]⟩, .string ⟨#[]⟩, .string ⟨#[]⟩, .string ⟨#[]⟩, .string ⟨#[]⟩, .string ⟨#[]⟩], false, [none, none, none, none, none, none, none, none, none], [none, none, none, none, none, none, none, none, none], .unit⟩),
 (94, ⟨.arr 6 9, 6, 96, [.string ⟨#[]⟩, .string ⟨#[]⟩, .string ⟨#[]⟩, .string ⟨#[]⟩, .string ⟨#[]⟩, .string ⟨#[]⟩], false, [none, none, none, none, none, none], [none, none, none, none, none, none], .unit⟩),
 (99, ⟨.st [(0, 44), (1, 4)], 2, 32, [.slice none 0 0, .bool false], false, [some .str, none], [none, none], (.pair (.rsl .str) .bool)⟩),
 (115, ⟨.int .u64, 1, 8, [.int .u64 0], false, [none], [none], (.int .u64)⟩),
 (130, ⟨.arr 20 115, 20, 160, [.int .u64 0, .int .u64 0, .int .u64 0, .int .u64 0, .int .u64 0, .int .u64 0, .int .u64 0, .int .u64 0, .int .u64 0, .int .u64 0, .int .u64 0, .int .u64 0, .int .u64 0, .int .u64 0, .int .u64 0, .int .u64 0, .int .u64 0, .int .u64 0, .int .u64 0, .int .u64 0], false, [none, none, none, none, none, none, none, none, none, none, none, none, none, none, none, none, none, none, none, none], [none, none, none, none, none, none, none, none, none, none, none, none, none, none, none, none, none, none, none, none], .unit⟩),
 (144, ⟨.st [(0, 5), (1, 5)], 2, 2, [.int .u8 0, .int .u8 0], false, [none, none], [none, none], (.pair (.int .u8) (.int .u8))⟩),
 (145, ⟨.arr 16 144, 32, 32, [.int .u8 0, .int .u8 0, .int .u8 0, .int .u8 0, .int .u8 0, .int .u8 0, .int .u8 0, .int .u8 0, .int .u8 0, .int .u8 0, .int .u8 0, .int .u8 0, .int .u8 0, .int .u8 0, .int .u8 0, .int .u8 0, .int .u8 0, .int .u8 0, .int .u8 0, .int .u8 0, .int .u8 0, .int .u8 0, .int .u8 0, .int .u8 0, .int .u8 0, .int .u8 0, .int .u8 0, .int .u8 0, .int .u8 0, .int .u8 0, .int .u8 0, .int .u8 0], false, [none, none, none, none, none, none, none, none, none, none, none, none, none, none, none, none, none, none, none, none, none, none, none, none, none, none, none, none, none, none, none, none], [none, none, none, none, none, none, none, none, none, none, none, none, none, none, none, none, none, none, none, none, none, none, none, none, none, none, none, none, none, none, none, none], .unit⟩),
 (151, ⟨.arr 32 5, 32, 32, [.int .u8 0, .int .u8 0, .int .u8 0, .int .u8 0, .int .u8 0, .int .u8 0, .int .u8 0, .int .u8 0, .int .u8 0, .int .u8 0, .int .u8 0, .int .u8 0, .int .u8 0, .int .u8 0, .int .u8 0, .int .u8 0, .int .u8 0, .int .u8 0, .int .u8 0, .int .u8 0, .int .u8 0, .int .u8 0, .int .u8 0, .int .u8 0, .int .u8 0, .int .u8 0, .int .u8 0, .int .u8 0, .int .u8 0, .int .u8 0, .int .u8 0, .int .u8 0], false, [none, none, none, none, none, none, none, none, none, none, none, none, none, none, none, none, none, none, none, none, none, none, none, none, none, none, none, none, none, none, none, none], [none, none, none, none, none, none, none, none, none, none, none, none, none, none, none, none, none, none, none, none, none, none, none, none, none, none, none, none, none, none, none, none], .unit⟩),
 (152, ⟨.arr 64 5, 64, 64, [.int .u8 0, .int .u8 0, .int .u8 0, .int .u8 0, .int .u8 0, .int .u8 0, .int .u8 0, .int .u8 0, .int .u8 0, .int .u8 0, .int .u8 0, .int .u8 0, .int .u8 0, .int .u8 0, .int .u8 0, .int .u8 0, .int .u8 0, .int .u8 0, .int .u8 0, .int .u8 0, .int .u8 0, .int .u8 0, .int .u8 0, .int .u8 0, .int .u8 0, .int .u8 0, .int .u8 0, .int .u8 0, .int .u8 0, .int .u8 0, .int .u8 0, .int .u8 0, .int .u8 0, .int .u8 0, .int .u8 0, .int .u8 0, .int .u8 0, .int .u8 0, .int .u8 0, .int .u8 0, .int .u8 0, .int .u8 0, .int .u8 0, .int .u8 0, .int .u8 0, .int .u8 0, .int .u8 0, .int .u8 0, .int .u8 0, .int .u8 0, .int .u8 0, .int .u8 0, .int .u8 0, .int .u8 0, .int .u8 0, .int .u8 0, .int .u8 0, .int .u8 0, .int .u8 0, .int .u8 0, .int .u8 0, .int .u8 0, .int .u8 0, .int .u8 0], false, [none, none, none, none, none, none, none, none, none, none, none, none, none, none, none, none, none, none, none, none, none, none, none, none, none, none, none, none, none, none, none, none, none, none, none, none, none, none, none, none, none, none, none, none, none, none, none, none, none, none, none, none, none, none, none, none, none, none, none, none, none, none, none, none], [none, none, none, none, none, none, none, none, none, none, none, none, none, none, none, none, none, none, none, none, none, none, none, none, none, none, none, none, none, none, none, none, none, none, none, none, none, none, none, none, none, none, none, none, none, none, none, none, none, none, none, none, none, none, none, none, none, none, none, none, none, none, none, none], .unit⟩)]
theorem tysOk : TyOk Tryd.prog tys := tyOk_of fun e he => by
  simp only [tys, List.mem_cons, List.not_mem_nil, or_false] at he
  rcases he with rfl | rfl | rfl | rfl | rfl | rfl | rfl | rfl | rfl | rfl | rfl | rfl | rfl | rfl | rfl | rfl | rfl | rfl | rfl | rfl | rfl | rfl | rfl | rfl | rfl | rfl | rfl | rfl | rfl | rfl
  · exact ⟨by kernel_rfl, by kernel_rfl, fun h => nomatch h⟩
  · exact ⟨by kernel_rfl, by kernel_rfl, fun h => nomatch h⟩
  · exact ⟨by kernel_rfl, by kernel_rfl, fun h => nomatch h⟩
  · exact ⟨by kernel_rfl, by kernel_rfl, fun h => nomatch h⟩
  · exact ⟨by kernel_rfl, by kernel_rfl, fun h => nomatch h⟩
  · exact ⟨by kernel_rfl, by kernel_rfl, fun h => nomatch h⟩
  · exact ⟨by kernel_rfl, by kernel_rfl, fun h => nomatch h⟩
  · exact ⟨by kernel_rfl, by kernel_rfl, fun h => nomatch h⟩
  · exact ⟨by kernel_rfl, by kernel_rfl, fun h => nomatch h⟩
  · exact ⟨by kernel_rfl, by kernel_rfl, fun h => nomatch h⟩
  · exact ⟨by kernel_rfl, by kernel_rfl, fun _ => ⟨by kernel_rfl, by kernel_rfl, by kernel_rfl⟩⟩
  · exact ⟨by kernel_rfl, by kernel_rfl, fun h => nomatch h⟩
  · exact ⟨by kernel_rfl, by kernel_rfl, fun h => nomatch h⟩
  · exact ⟨by kernel_rfl, by kernel_rfl, fun h => nomatch h⟩
  · exact ⟨by kernel_rfl, by kernel_rfl, fun h => nomatch h⟩
  · exact ⟨by kernel_rfl, by kernel_rfl, fun h => nomatch h⟩
  · exact ⟨by kernel_rfl, by kernel_rfl, fun _ => ⟨by kernel_rfl, by kernel_rfl, by kernel_rfl⟩⟩
  · exact ⟨by kernel_rfl, by kernel_rfl, fun h => nomatch h⟩
  · exact ⟨by kernel_rfl, by kernel_rfl, fun h => nomatch h⟩
  · exact ⟨by kernel_rfl, by kernel_rfl, fun h => nomatch h⟩
  · exact ⟨by kernel_rfl, by kernel_rfl, fun h => nomatch h⟩
  · exact ⟨by kernel_rfl, by kernel_rfl, fun h => nomatch h⟩
  · exact ⟨by kernel_rfl, by kernel_rfl, fun h => nomatch h⟩
  · exact ⟨by kernel_rfl, by kernel_rfl, fun h => nomatch h⟩
  · exact ⟨by kernel_rfl, by kernel_rfl, fun h => nomatch h⟩
  · exact ⟨by kernel_rfl, by kernel_rfl, fun h => nomatch h⟩
  · exact ⟨by kernel_rfl, by kernel_rfl, fun h => nomatch h⟩
  · exact ⟨by kernel_rfl, by kernel_rfl, fun h => nomatch h⟩
  · exact ⟨by kernel_rfl, by kernel_rfl, fun h => nomatch h⟩
  · exact ⟨by kernel_rfl, by kernel_rfl, fun h => nomatch h⟩
def tab0 : List (List UInt8) := [([] : List UInt8),
 ([97, 115, 107] : List UInt8),
 ([100, 101, 108, 105, 118, 101, 114] : List UInt8),
 ([100, 114, 111, 112] : List UInt8),
 ([99, 111, 112, 121] : List UInt8),
 ([116, 105, 99, 107] : List UInt8),
 ([99, 114, 97, 115, 104] : List UInt8),
 ([115, 116, 97, 114, 116] : List UInt8),
 ([116, 121, 112, 101] : List UInt8)]
def tab1 : List (List UInt8) := [([] : List UInt8),
 ([98, 101, 103, 105, 110] : List UInt8),
 ([103, 101, 116] : List UInt8),
 ([112, 117, 116] : List UInt8),
 ([99, 111, 109, 109, 105, 116] : List UInt8),
 ([114, 111, 108, 108, 98, 97, 99, 107] : List UInt8)]
def tab3 : List Int := [(1 : Int),
 (10 : Int),
 (100 : Int),
 (1000 : Int),
 (10000 : Int),
 (100000 : Int),
 (1000000 : Int),
 (10000000 : Int),
 (100000000 : Int),
 (1000000000 : Int),
 (10000000000 : Int),
 (100000000000 : Int),
 (1000000000000 : Int),
 (10000000000000 : Int),
 (100000000000000 : Int),
 (1000000000000000 : Int),
 (10000000000000000 : Int),
 (100000000000000000 : Int),
 (1000000000000000000 : Int),
 (10000000000000000000 : Int)]
noncomputable def inls : List (Nat × Go.Func) := [(44, Tryd.f44), (45, Tryd.f45), (46, Tryd.f46), (47, Tryd.f47), (50, Tryd.f50), (51, Tryd.f51), (61, Tryd.f61)]
theorem inlsOk : ∀ f fn, Go.V.look inls f = some fn → Tryd.prog.funcs[f]? = some fn ∧ (fn.name == "runtime.NumGoroutine") = false := inlOk_of fun e he => by
  simp only [inls, List.mem_cons, List.not_mem_nil, or_false] at he
  rcases he with rfl | rfl | rfl | rfl | rfl | rfl | rfl
  · exact ⟨Tryd.func44, by kernel_rfl⟩
  · exact ⟨Tryd.func45, by kernel_rfl⟩
  · exact ⟨Tryd.func46, by kernel_rfl⟩
  · exact ⟨Tryd.func47, by kernel_rfl⟩
  · exact ⟨Tryd.func50, by kernel_rfl⟩
  · exact ⟨Tryd.func51, by kernel_rfl⟩
  · exact ⟨Tryd.func61, by kernel_rfl⟩
noncomputable def cx : Ctx := ⟨Tryd.prog, tys, tysOk, [(0, .ga .str tab0), (1, .ga .str tab1), (3, .ga (.int .u64) tab3), (4, .pp .ro [.ifc false]), (5, .pp .ro [.ifc false])], 0, inls, inlsOk, by kernel_rfl⟩
/-! reredos/reredoskeep.picked -/
def sg15 : Sig := ⟨[⟨false, .bo, (.int .i64)⟩, ⟨false, .bo, (.int .i64)⟩], [⟨false, .own, (.int .i64)⟩]⟩
noncomputable def r15 (a : (Int × Int)) : Option Int :=
 Option.bind (
 bif decide (a.1 < (0 : Int)) then
 some (Go.IntKind.wrap .i64 (0 - (Go.IntKind.wrap .i64 (a.1 + (1 : Int)))))
 else
 some a.1) fun (d1 : Int) =>
 bif decide (a.2 = 0) then
 none
 else
 some (Int.tmod d1 a.2)
def an15 : Ann := .two (.leaf) (.two (.join [1] [] [⟨.normal, [], [.tmp 0 (.int .i64)]⟩] (.two (.leaf) (.two (.leaf) (.leaf)))) (.two (.leaf) (.leaf)))
theorem s15 : SoundF cx.P cx.G 15 sg15 r15 := by
  have e : denF cx [] an15 Tryd.f15.ntmps (Tryd.f15.body.getD .skip) Tryd.f15.results.toList sg15 = r15 := by kernel_rfl
  rw [← e]
  exact sound_of_den (c := cx) (Known.nil) Tryd.func15 (by kernel_rfl) (Nat.le_of_ble_eq_true (by kernel_rfl)) rfl
/-! reredos/reredoskeep.two -/
def sg9 : Sig := ⟨[⟨false, .bo, (.int .i64)⟩], [⟨true, .ro, (.pair (.int .i64) (.pair (.sl (.pair (.int .i64) (.int .i64))) (.int .i64)))⟩]⟩
noncomputable def r9 (a : Int) : Option T_8 :=
 Option.bind (r15 (a, (3 : Int))) fun (y1 : Int) =>
 some ((Go.IntKind.wrap .i64 ((1 : Int) + y1)), ([((0 : Int), (0 : Int)), ((1 : Int), (0 : Int))], (3 : Int)))
def an9 : Ann := .two (.leaf) (.two (.leaf) (.leaf))
theorem s9 : SoundF cx.P cx.G 9 sg9 r9 := by
  have e : denF cx [(15, ⟨sg15, r15⟩)] an9 Tryd.f9.ntmps (Tryd.f9.body.getD .skip) Tryd.f9.results.toList sg9 = r9 := by kernel_rfl
  rw [← e]
  exact sound_of_den (c := cx) (Known.cons (.ofF s15 (by kernel_rfl)) Tryd.func15 (by kernel_rfl) (by kernel_rfl) (Known.nil)) Tryd.func9 (by kernel_rfl) (Nat.le_of_ble_eq_true (by kernel_rfl)) rfl
/-! reredos/reredoskeep.ask -/
def sg18 : Sig := ⟨[⟨true, .bo, (.pair (.int .i64) E_13)⟩], [⟨true, .own, E_13⟩]⟩
noncomputable def r18 (a : (Int × T_7)) : Option T_7 :=
 Option.bind (r15 (a.1, (5 : Int))) fun (y1 : Int) =>
 Option.bind (
 bif !(decide ((Go.IntKind.wrap .i64 ((1 : Int) + y1)) = (1 : Int))) then
 Option.bind (r15 (a.2.1, (4 : Int))) fun (y4 : Int) =>
 some ((), ((Go.IntKind.wrap .i64 ((1 : Int) + y1)), ((Go.IntKind.wrap .i64 ((1 : Int) + y4)), ((0 : Int), ((0 : Int), (0 : Int))))))
 else
 some ((), ((Go.IntKind.wrap .i64 ((1 : Int) + y1)), ((0 : Int), ((0 : Int), ((0 : Int), (0 : Int))))))) fun (d5 : (Unit × T_7)) =>
 Option.bind (
 bif decide (d5.2.1 = (2 : Int)) then
 Option.bind (r15 (a.2.2.1, (3 : Int))) fun (y14 : Int) =>
 Option.bind (r15 (a.2.2.2.1, (4 : Int))) fun (y15 : Int) =>
 some ((), (d5.2.1, (d5.2.2.1, (y14, (y15, d5.2.2.2.2.2)))))
 else
 bif decide (d5.2.1 = (3 : Int)) then
 Option.bind (r15 (a.2.2.2.1, (4 : Int))) fun (y16 : Int) =>
 Option.bind (r15 (a.2.2.2.2.1, (99 : Int))) fun (y17 : Int) =>
 some ((), (d5.2.1, (d5.2.2.1, (d5.2.2.2.1, (y16, y17)))))
 else
 some ((), d5.2)) fun (d18 : (Unit × T_7)) =>
 some d18.2
def an18 : Ann := .two (.leaf) (.two (.leaf) (.two (.join [1, 2] [1, 2] [⟨.normal, [], [.tmp 3 (.pt 3 [(0, 0)] 0 0 5), .box 3 [.int .i64, .int .i64, .int .i64, .int .i64, .int .i64]]⟩] (.two (.leaf) (.two (.leaf) (.leaf)))) (.two (.join [2] [2] [⟨.normal, [], [.tmp 3 (.pt 3 [(0, 0)] 0 0 5), .box 3 [.int .i64, .int .i64, .int .i64, .int .i64, .int .i64]]⟩] (.two (.leaf) (.one (.two (.leaf) (.two (.two (.leaf) (.leaf)) (.two (.leaf) (.two (.two (.leaf) (.leaf)) (.leaf)))))))) (.two (.leaf) (.leaf)))))
theorem s18 : SoundF cx.P cx.G 18 sg18 r18 := by
  have e : denF cx [(15, ⟨sg15, r15⟩)] an18 Tryd.f18.ntmps (Tryd.f18.body.getD .skip) Tryd.f18.results.toList sg18 = r18 := by kernel_rfl
  rw [← e]
  exact sound_of_den (c := cx) (Known.cons (.ofF s15 (by kernel_rfl)) Tryd.func15 (by kernel_rfl) (by kernel_rfl) (Known.nil)) Tryd.func18 (by kernel_rfl) (Nat.le_of_ble_eq_true (by kernel_rfl)) rfl
/-! reredos/reredoskeep.dec -/
def sg16 : Sig := ⟨[⟨false, .bo, (.int .i64)⟩], [⟨false, .own, .str⟩]⟩
noncomputable def r16 : Nat → Int → Option (List UInt8)
 | 0 => fun _ => none
 | n + 1 => fun a =>
 bif decide (a < (10 : Int)) then
 some (List.map byte8 [(Go.IntKind.wrap .u8 (Go.IntKind.wrap .i64 ((48 : Int) + a)))])
 else
 Option.bind ((r16 n) (Go.IntKind.wrap .i64 (Int.tdiv a (10 : Int)))) fun (y2 : List UInt8) =>
 bif decide (y2.length + (List.map byte8 [(Go.IntKind.wrap .u8 (Go.IntKind.wrap .i64 ((48 : Int) + (Int.tmod a (10 : Int)))))]).length ≤ 9223372036854775807) then
 some (y2 ++ (List.map byte8 [(Go.IntKind.wrap .u8 (Go.IntKind.wrap .i64 ((48 : Int) + (Int.tmod a (10 : Int)))))]))
 else
 none
def an16 : Ann := .two (.leaf) (.two (.two (.leaf) (.two (.two (.leaf) (.leaf)) (.leaf))) (.two (.draw 9) (.leaf)))
theorem s16n : ∀ n, SoundF cx.P cx.G 16 sg16 (r16 n)
  | 0 => SoundF.none
  | n + 1 => by
    have e : denF cx [(16, ⟨sg16, r16 n⟩)] an16 Tryd.f16.ntmps (Tryd.f16.body.getD .skip) Tryd.f16.results.toList sg16 = r16 (n + 1) := by kernel_rfl
    rw [← e]
    exact sound_of_den (c := cx) (Known.cons (F := ⟨sg16, r16 n⟩) (.ofF (s16n n) (by kernel_rfl)) Tryd.func16 (by kernel_rfl) (by kernel_rfl) (Known.nil)) Tryd.func16 (by kernel_rfl) (Nat.le_of_ble_eq_true (by kernel_rfl)) rfl
noncomputable def R16 : Int → Option (List UInt8) := limR r16
theorem s16 : SoundF cx.P cx.G 16 sg16 R16 := SoundF.lim s16n
/-! reredos/reredoskeep.typed -/
def sg19 : Sig := ⟨[⟨true, .bo, (.pair (.int .i64) E_13)⟩, ⟨false, .bo, .bool⟩], [⟨false, .own, .str⟩]⟩
noncomputable def r19 (a : ((Int × T_7) × Bool)) : Option (List UInt8) :=
 Option.bind (r15 (a.1.2.1, (4 : Int))) fun (y7 : Int) =>
 Option.bind (R16 y7) fun (y8 : List UInt8) =>
 bif decide (y8.length + ([32] : List UInt8).length ≤ 9223372036854775807) then
 Option.bind (r15 (a.1.2.2.1, (3 : Int))) fun (y9 : Int) =>
 Option.bind (R16 y9) fun (y10 : List UInt8) =>
 bif decide ((y8 ++ ([32] : List UInt8)).length + y10.length ≤ 9223372036854775807) then
 bif decide (((y8 ++ ([32] : List UInt8)) ++ y10).length + ([32] : List UInt8).length ≤ 9223372036854775807) then
 Option.bind (r15 (a.1.2.2.2.1, (4 : Int))) fun (y11 : Int) =>
 Option.bind (R16 (Go.IntKind.wrap .i64 ((1 : Int) + y11))) fun (y12 : List UInt8) =>
 bif decide ((((y8 ++ ([32] : List UInt8)) ++ y10) ++ ([32] : List UInt8)).length + y12.length ≤ 9223372036854775807) then
 Option.bind (r15 (a.1.2.2.2.2.1, (8 : Int))) fun (y13 : Int) =>
 bif decide (y13 < (3 : Int)) then
 some ([108, 105, 115, 116] : List UInt8)
 else
 bif decide (y13 < (5 : Int)) then
 bif decide (([115, 116, 97, 116, 117, 115, 32] : List UInt8).length + ((((y8 ++ ([32] : List UInt8)) ++ y10) ++ ([32] : List UInt8)) ++ y12).length ≤ 9223372036854775807) then
 some (([115, 116, 97, 116, 117, 115, 32] : List UInt8) ++ ((((y8 ++ ([32] : List UInt8)) ++ y10) ++ ([32] : List UInt8)) ++ y12))
 else
 none
 else
 bif decide (y13 = (5 : Int)) then
 some ([97, 117, 100, 105, 116] : List UInt8)
 else
 Option.bind (
 bif decide (y13 = (6 : Int)) then
 some a.2
 else
 some false) fun (d14 : Bool) =>
 bif d14 then
 bif decide (([102, 111, 114, 99, 101, 32] : List UInt8).length + ((((y8 ++ ([32] : List UInt8)) ++ y10) ++ ([32] : List UInt8)) ++ y12).length ≤ 9223372036854775807) then
 bif decide ((([102, 111, 114, 99, 101, 32] : List UInt8) ++ ((((y8 ++ ([32] : List UInt8)) ++ y10) ++ ([32] : List UInt8)) ++ y12)).length + ([32] : List UInt8).length ≤ 9223372036854775807) then
 Option.bind (r15 (a.1.2.2.2.2.2, (2 : Int))) fun (y15 : Int) =>
 bif inB y15 ([([99, 111, 109, 109, 105, 116] : List UInt8), ([97, 98, 111, 114, 116] : List UInt8)].length) then
 Option.bind (idxN [([99, 111, 109, 109, 105, 116] : List UInt8), ([97, 98, 111, 114, 116] : List UInt8)] (Int.toNat y15)) fun (x16 : List UInt8) =>
 bif decide (((([102, 111, 114, 99, 101, 32] : List UInt8) ++ ((((y8 ++ ([32] : List UInt8)) ++ y10) ++ ([32] : List UInt8)) ++ y12)) ++ ([32] : List UInt8)).length + x16.length ≤ 9223372036854775807) then
 some (((([102, 111, 114, 99, 101, 32] : List UInt8) ++ ((((y8 ++ ([32] : List UInt8)) ++ y10) ++ ([32] : List UInt8)) ++ y12)) ++ ([32] : List UInt8)) ++ x16)
 else
 none
 else
 none
 else
 none
 else
 none
 else
 Option.bind (r15 (a.1.2.2.2.2.2, (6 : Int))) fun (y17 : Int) =>
 bif inB y17 ([([] : List UInt8), ([108, 105, 115, 116, 115] : List UInt8), ([115, 116, 97, 116, 117, 115, 32, 49, 32, 49] : List UInt8), ([102, 111, 114, 99, 101, 32, 48, 32, 48, 32, 49] : List UInt8), ([97, 117, 100, 105, 116, 32] : List UInt8), ([115, 116, 97, 116, 117, 115, 32, 48, 32, 48, 32, 48, 49] : List UInt8)].length) then
 Option.bind (idxN [([] : List UInt8), ([108, 105, 115, 116, 115] : List UInt8), ([115, 116, 97, 116, 117, 115, 32, 49, 32, 49] : List UInt8), ([102, 111, 114, 99, 101, 32, 48, 32, 48, 32, 49] : List UInt8), ([97, 117, 100, 105, 116, 32] : List UInt8), ([115, 116, 97, 116, 117, 115, 32, 48, 32, 48, 32, 48, 49] : List UInt8)] (Int.toNat y17)) fun (x18 : List UInt8) =>
 some x18
 else
 none
 else
 none
 else
 none
 else
 none
 else
 none
def an19 : Ann := .two (.leaf) (.two (.draw 16) (.two (.two (.leaf) (.one (.two (.leaf) (.two (.two (.leaf) (.leaf)) (.two (.leaf) (.two (.two (.leaf) (.leaf)) (.two (.leaf) (.two (.two (.leaf) (.leaf)) (.two (.join [2, 5] [2] [⟨.normal, [], [.tmp 38 (.bool)]⟩] (.leaf)) (.two (.two (.leaf) (.leaf)) (.leaf))))))))))) (.two (.leaf) (.leaf))))
theorem s19 : SoundF cx.P cx.G 19 sg19 r19 := by
  have e : denF cx [(15, ⟨sg15, r15⟩), (16, ⟨sg16, R16⟩)] an19 Tryd.f19.ntmps (Tryd.f19.body.getD .skip) Tryd.f19.results.toList sg19 = r19 := by kernel_rfl
  rw [← e]
  exact sound_of_den (c := cx) (Known.cons (.ofF s15 (by kernel_rfl)) Tryd.func15 (by kernel_rfl) (by kernel_rfl) (Known.cons (.ofF s16 (by kernel_rfl)) Tryd.func16 (by kernel_rfl) (by kernel_rfl) (Known.nil))) Tryd.func19 (by kernel_rfl) (Nat.le_of_ble_eq_true (by kernel_rfl)) rfl
/-! reredos/reredoskeep.Acts -/
noncomputable def r10_L0 (a : (T_8 × (List ((Int × T_7)) × (Int × Bool)))) (b281 : (Int × T_7)) (d326 : (Unit × (Int × T_4))) : Option ((Unit × (Int × T_4)) ⊕ (Unit × T_4)) :=
 bif decide (d326.2.1 < (↑a.1.2.1.length : Int)) then
 bif decide ((Go.IntKind.wrap .i64 (d326.2.1 + (1 : Int))) = 0) then
 none
 else
 Option.bind (r15 ((Go.IntKind.wrap .i64 (Int.tdiv b281.2.2.2.2.1 (Go.IntKind.wrap .i64 (d326.2.1 + (1 : Int))))), (40 : Int))) fun (y328 : Int) =>
 bif roomOk false d326.2.2.2.2.2.2.2.1.length 1 8 then
 some (Sum.inl ((), ((Go.IntKind.wrap .i64 (d326.2.1 + (1 : Int))), (d326.2.2.1, (d326.2.2.2.1, (d326.2.2.2.2.1, (d326.2.2.2.2.2.1, (d326.2.2.2.2.2.2.1, (app d326.2.2.2.2.2.2.2.1 [y328], d326.2.2.2.2.2.2.2.2)))))))))
 else
 none
 else
 some (Sum.inr ((), d326.2.2))
noncomputable def r10_L1 (a : (T_8 × (List ((Int × T_7)) × (Int × Bool)))) (d169 : (Unit × (Int × List (T_3)))) : Option ((Unit × (Int × List (T_3))) ⊕ T_2) :=
 Option.bind (
 bif decide (d169.2.1 < (↑a.2.1.length : Int)) then
 some (decide ((↑d169.2.2.length : Int) < a.2.2.1))
 else
 some false) fun (d170 : Bool) =>
 bif d170 then
 Option.bind (
 Option.bind (idxI a.2.1 d169.2.1) fun (b281 : (Int × T_7)) =>
 Option.bind (r15 ((Go.IntKind.wrap .i64 (Int.tdiv b281.2.1 (31 : Int))), a.1.1)) fun (y284 : Int) =>
 Option.bind (r15 ((Go.IntKind.wrap .i64 (Int.tdiv b281.2.2.1 (31 : Int))), (↑a.1.2.1.length : Int))) fun (y285 : Int) =>
 Option.bind (
 Option.bind (r15 (b281.1, (20 : Int))) fun (y316 : Int) =>
 bif decide (y316 < (8 : Int)) then
 Option.bind (r18 ((Go.IntKind.wrap .i64 (Int.tdiv b281.2.2.2.1 (9 : Int))), (b281.2.1, (b281.2.2.1, (b281.2.2.2.1, (b281.2.2.2.2.1, (0 : Int))))))) fun (y317 : T_7) =>
 some ((), ((1 : Int), (y284, ((0 : Int), (y285, ((0 : Int), ([], (y317.1, (y317.2.1, (y317.2.2.1, (y317.2.2.2.1, (y317.2.2.2.2, ([] : List UInt8)))))))))))))
 else
 bif decide (y316 < (15 : Int)) then
 Option.bind (r15 (b281.2.2.2.1, a.1.1)) fun (y318 : Int) =>
 Option.bind (r15 (b281.2.2.2.2.1, (3 : Int))) fun (y319 : Int) =>
 some ((), ((2 : Int), (y284, (y318, (y285, (y319, ([], ((0 : Int), ((0 : Int), ((0 : Int), ((0 : Int), ((0 : Int), ([] : List UInt8)))))))))))))
 else
 bif decide (y316 = (15 : Int)) then
 Option.bind (r15 (b281.2.2.2.2.2, (2 : Int))) fun (y320 : Int) =>
 Option.bind (r15 (b281.2.2.2.1, a.1.1)) fun (y321 : Int) =>
 Option.bind (r15 (b281.2.2.2.2.1, (3 : Int))) fun (y322 : Int) =>
 some ((), ((Go.IntKind.wrap .i64 ((4 : Int) - y320)), (y284, (y321, (y285, (y322, ([], ((0 : Int), ((0 : Int), ((0 : Int), ((0 : Int), ((0 : Int), ([] : List UInt8)))))))))))))
 else
 bif decide (y316 = (16 : Int)) then
 some ((), ((5 : Int), ((0 : Int), ((0 : Int), ((0 : Int), ((0 : Int), ([], ((0 : Int), ((0 : Int), ((0 : Int), ((0 : Int), ((0 : Int), ([] : List UInt8)))))))))))))
 else
 bif decide (y316 = (17 : Int)) then
 Option.bind (loopR (r10_L0 a b281) ((), ((0 : Int), ((6 : Int), (y284, ((0 : Int), ((0 : Int), ((0 : Int), ([], ((0 : Int), ((0 : Int), ((0 : Int), ((0 : Int), ((0 : Int), ([] : List UInt8))))))))))))))) fun (q329 : (Unit × T_4)) =>
 some ((), q329.2)
 else
 bif decide (y316 = (18 : Int)) then
 some ((), ((7 : Int), (y284, ((0 : Int), ((0 : Int), ((0 : Int), ([], ((0 : Int), ((0 : Int), ((0 : Int), ((0 : Int), ((0 : Int), ([] : List UInt8)))))))))))))
 else
 Option.bind (r19 (b281, a.2.2.2)) fun (y330 : List UInt8) =>
 some ((), ((8 : Int), (y284, ((0 : Int), (y285, ((0 : Int), ([], ((0 : Int), ((0 : Int), ((0 : Int), ((0 : Int), ((0 : Int), y330))))))))))))) fun (d331 : (Unit × T_4)) =>
 bif roomOk false d169.2.2.length 1 120 then
 Option.bind (
 bif decide (d331.2.1 = (1 : Int)) then
 Option.bind (r15 (b281.2.2.2.2.2, (4 : Int))) fun (y334 : Int) =>
 some (decide ((0 : Int) < y334))
 else
 some false) fun (d335 : Bool) =>
 bif d335 then
 bif decide (a.1.1 = 0) then
 none
 else
 bif roomOk false ((app d169.2.2 [(d331.2.1, (d331.2.2.1, (d331.2.2.2.1, (d331.2.2.2.2.1, (d331.2.2.2.2.2.1, (d331.2.2.2.2.2.2.1, ((d331.2.2.2.2.2.2.2.1, (d331.2.2.2.2.2.2.2.2.1, (d331.2.2.2.2.2.2.2.2.2.1, (d331.2.2.2.2.2.2.2.2.2.2.1, d331.2.2.2.2.2.2.2.2.2.2.2.1)))), d331.2.2.2.2.2.2.2.2.2.2.2.2)))))))]).length) 2 120 then
 some ((), app (app d169.2.2 [(d331.2.1, (d331.2.2.1, (d331.2.2.2.1, (d331.2.2.2.2.1, (d331.2.2.2.2.2.1, (d331.2.2.2.2.2.2.1, ((d331.2.2.2.2.2.2.2.1, (d331.2.2.2.2.2.2.2.2.1, (d331.2.2.2.2.2.2.2.2.2.1, (d331.2.2.2.2.2.2.2.2.2.2.1, d331.2.2.2.2.2.2.2.2.2.2.2.1)))), d331.2.2.2.2.2.2.2.2.2.2.2.2)))))))]) [((2 : Int), (d331.2.2.1, ((Int.tmod d331.2.2.2.2.2.2.2.2.2.2.1 a.1.1), (d331.2.2.2.2.1, ((0 : Int), ([], (((0 : Int), ((0 : Int), ((0 : Int), ((0 : Int), (0 : Int))))), ([] : List UInt8)))))))), ((2 : Int), ((Int.tmod d331.2.2.2.2.2.2.2.2.2.2.1 a.1.1), (d331.2.2.1, (d331.2.2.2.2.1, ((0 : Int), ([], (((0 : Int), ((0 : Int), ((0 : Int), ((0 : Int), (0 : Int))))), ([] : List UInt8))))))))])
 else
 none
 else
 some ((), app d169.2.2 [(d331.2.1, (d331.2.2.1, (d331.2.2.2.1, (d331.2.2.2.2.1, (d331.2.2.2.2.2.1, (d331.2.2.2.2.2.2.1, ((d331.2.2.2.2.2.2.2.1, (d331.2.2.2.2.2.2.2.2.1, (d331.2.2.2.2.2.2.2.2.2.1, (d331.2.2.2.2.2.2.2.2.2.2.1, d331.2.2.2.2.2.2.2.2.2.2.2.1)))), d331.2.2.2.2.2.2.2.2.2.2.2.2)))))))])
 else
 none) fun (d336 : T_2) =>
 some (Sum.inl ((), ((Go.IntKind.wrap .i64 (d169.2.1 + (1 : Int))), d336.2)))
 else
 some (Sum.inr ((), d169.2.2))
def sg10 : Sig := ⟨[⟨true, .bo, (.pair (.int .i64) (.pair (.sl (.pair (.int .i64) (.int .i64))) (.int .i64)))⟩, ⟨false, .bo, E_12⟩, ⟨false, .bo, (.int .i64)⟩, ⟨false, .bo, .bool⟩], [⟨false, .own, E_9⟩]⟩
noncomputable def r10 (a : (T_8 × (List ((Int × T_7)) × (Int × Bool)))) : Option (List (T_3)) :=
 Option.bind (loopR (r10_L1 a) ((), ((0 : Int), []))) fun (q337 : T_2) =>
 some q337.2
def an10 : Ann := .two (.leaf) (.two (.leaf) (.two (.two (.leaf) (.one (.loop [1, 2, 3, 4] [4] [(9, E_10)] [.tmp 9 (.own 9 [(0, 0)] E_10), .tmp 10 (.int .i64), .row 9 [.sl .own E_10]] [⟨.exit 0, [], [.tmp 9 (.own 9 [(0, 0)] E_10), .row 9 [.sl .own E_10]]⟩] (.two (.two (.join [1, 2, 3, 4, 9, 10] [4, 9] [⟨.normal, [], [.tmp 25 (.bool)]⟩] (.leaf)) (.two (.leaf) (.leaf))) (.two (.join [1, 2, 3, 4, 10] [4] [⟨.normal, [(9, E_10)], [.tmp 9 (.own 9 [(0, 0)] E_10), .row 9 [.sl .own E_10]]⟩] (.one (.two (.leaf) (.two (.draw 15) (.two (.join [1, 2, 3, 4, 9, 10, 11] [4, 9, 11] [⟨.normal, [], [.tmp 12 (.pt 12 [(0, 0)] 0 0 12), .box 12 [.int .i64, .int .i64, .int .i64, .int .i64, .int .i64, .sl .own (.int .i64), .int .i64, .int .i64, .int .i64, .int .i64, .int .i64, .str]]⟩] (.two (.leaf) (.one (.two (.leaf) (.two (.two (.leaf) (.leaf)) (.two (.leaf) (.two (.two (.leaf) (.two (.leaf) (.leaf))) (.two (.leaf) (.two (.two (.leaf) (.two (.leaf) (.leaf))) (.two (.leaf) (.two (.leaf) (.two (.leaf) (.two (.two (.leaf) (.two (.leaf) (.one (.loop [1, 2, 3, 4, 9, 10, 11] [4, 9, 11] [] [.tmp 12 (.pt 12 [(0, 0)] 0 0 12), .tmp 14 (.int .i64), .box 12 [.int .i64, .int .i64, .int .i64, .int .i64, .int .i64, .sl .own (.int .i64), .int .i64, .int .i64, .int .i64, .int .i64, .int .i64, .str]] [⟨.exit 3, [], [.tmp 12 (.pt 12 [(0, 0)] 0 0 12), .box 12 [.int .i64, .int .i64, .int .i64, .int .i64, .int .i64, .sl .own (.int .i64), .int .i64, .int .i64, .int .i64, .int .i64, .int .i64, .str]]⟩] (.two (.two (.leaf) (.two (.leaf) (.leaf))) (.two (.one (.draw 9)) (.leaf))))))) (.two (.leaf) (.two (.leaf) (.two (.leaf) (.leaf))))))))))))))))) (.two (.leaf) (.two (.join [1, 2, 3, 4, 9, 10, 12] [4, 12, 141] [⟨.normal, [], [.tmp 150 (.bool)]⟩] (.leaf)) (.two (.two (.leaf) (.leaf)) (.leaf))))))))) (.leaf)))))) (.two (.leaf) (.leaf))))
theorem s10 : SoundF cx.P cx.G 10 sg10 r10 := by
  have e : denF cx [(15, ⟨sg15, r15⟩), (18, ⟨sg18, r18⟩), (19, ⟨sg19, r19⟩)] an10 Tryd.f10.ntmps (Tryd.f10.body.getD .skip) Tryd.f10.results.toList sg10 = r10 := by kernel_rfl
  rw [← e]
  exact sound_of_den (c := cx) (Known.cons (.ofF s15 (by kernel_rfl)) Tryd.func15 (by kernel_rfl) (by kernel_rfl) (Known.cons (.ofF s18 (by kernel_rfl)) Tryd.func18 (by kernel_rfl) (by kernel_rfl) (Known.cons (.ofF s19 (by kernel_rfl)) Tryd.func19 (by kernel_rfl) (by kernel_rfl) (Known.nil)))) Tryd.func10 (by kernel_rfl) (Nat.le_of_ble_eq_true (by kernel_rfl)) rfl
/-! reredos/label.one -/
def sg36 : Sig := ⟨[⟨true, .bo, (.pair (.int .i64) (.int .i64))⟩], [⟨false, .own, .bool⟩]⟩
noncomputable def r36 (a : (Int × Int)) : Option Bool :=
 Option.bind (
 bif decide ((0 : Int) ≤ a.1) then
 some (decide (a.1 ≤ (9 : Int)))
 else
 some false) fun (g1 : Bool) =>
 Option.bind (
 bif g1 then
 some (decide ((0 : Int) ≤ a.2))
 else
 some false) fun (g2 : Bool) =>
 bif g2 then
 some (decide (a.2 ≤ (15 : Int)))
 else
 some false
def an36 : Ann := .two (.leaf) (.two (.segs [(8, ([1], ([1], [.tmp 10 (.bool)]))), (5, ([1], ([1], [.tmp 15 (.bool)])))]) (.leaf))
theorem s36 : SoundF cx.P cx.G 36 sg36 r36 := by
  have e : denF cx [] an36 Tryd.f36.ntmps (Tryd.f36.body.getD .skip) Tryd.f36.results.toList sg36 = r36 := by kernel_rfl
  rw [← e]
  exact sound_of_den (c := cx) (Known.nil) Tryd.func36 (by kernel_rfl) (Nat.le_of_ble_eq_true (by kernel_rfl)) rfl
/-! reredos/label.Check -/
noncomputable def r20_L0 (d3 : Int) (a : T_8) (b4 : (Int × Int)) (d6 : Int) : Option (Int ⊕ (Unit ⊕ Int)) :=
 bif decide (d6 < (↑((List.take (Int.toNat d3) a.2.1).length) : Int)) then
 Option.bind (idxI (List.take (Int.toNat d3) a.2.1) d6) fun (b7 : (Int × Int)) =>
 bif (decide (b7.1 = b4.1) && (decide (b7.2 = b4.2) && true)) then
 some (Sum.inr (Sum.inr (7 : Int)))
 else
 some (Sum.inl (Go.IntKind.wrap .i64 (d6 + (1 : Int))))
 else
 some (Sum.inr (Sum.inl ()))
noncomputable def r20_L1 (a : T_8) (d3 : Int) : Option (Int ⊕ (Unit ⊕ Int)) :=
 bif decide (d3 < (↑a.2.1.length : Int)) then
 Option.bind (idxI a.2.1 d3) fun (b4 : (Int × Int)) =>
 Option.bind (r36 b4) fun (y5 : Bool) =>
 bif !(y5) then
 some (Sum.inr (Sum.inr (2 : Int)))
 else
 bif okB none (some d3) none a.2.1.length then
 Option.bind (loopR (r20_L0 d3 a b4) (0 : Int)) fun (q8 : (Unit ⊕ Int)) =>
 Sum.elim (fun (_ : Unit) =>
 some (Sum.inl (Go.IntKind.wrap .i64 (d3 + (1 : Int)))))
 (fun (v10 : Int) =>
 some (Sum.inr (Sum.inr v10))) q8
 else
 none
 else
 some (Sum.inr (Sum.inl ()))
def sg20 : Sig := ⟨[⟨true, .bo, (.pair (.int .i64) (.pair (.sl (.pair (.int .i64) (.int .i64))) (.int .i64)))⟩], [⟨false, .own, (.int .i64)⟩]⟩
noncomputable def r20 (a : T_8) : Option Int :=
 Option.bind (
 bif !(decide (a.1 < (1 : Int))) then
 some (decide ((4 : Int) < a.1))
 else
 some true) fun (d1 : Bool) =>
 bif d1 then
 some (2 : Int)
 else
 Option.bind (
 bif !(decide ((↑a.2.1.length : Int) < (1 : Int))) then
 some (decide ((6 : Int) < (↑a.2.1.length : Int)))
 else
 some true) fun (d2 : Bool) =>
 bif d2 then
 some (1 : Int)
 else
 Option.bind (loopR (r20_L1 a) (0 : Int)) fun (q11 : (Unit ⊕ Int)) =>
 Sum.elim (fun (_ : Unit) =>
 Option.bind (
 bif !(decide (a.2.2 < (1 : Int))) then
 some (decide ((1048576 : Int) < a.2.2))
 else
 some true) fun (d14 : Bool) =>
 bif d14 then
 some (2 : Int)
 else
 some (0 : Int))
 (fun (v13 : Int) =>
 some v13) q11
def an20 : Ann := .two (.leaf) (.two (.two (.join [1] [1] [⟨.normal, [], [.tmp 14 (.bool)]⟩] (.leaf)) (.two (.two (.leaf) (.leaf)) (.leaf))) (.two (.two (.join [1] [1] [⟨.normal, [], [.tmp 24 (.bool)]⟩] (.leaf)) (.two (.two (.leaf) (.leaf)) (.leaf))) (.two (.two (.leaf) (.one (.loop [1, 26, 27] [1] [] [.tmp 28 (.int .i64)] [⟨.exit 0, [], []⟩, ⟨.ret, [], [.tmp 2 (.int .i64)]⟩] (.two (.leaf) (.two (.two (.leaf) (.leaf)) (.two (.one (.two (.leaf) (.two (.two (.leaf) (.two (.two (.leaf) (.leaf)) (.leaf))) (.two (.leaf) (.one (.loop [1, 4, 26, 27, 28, 39, 40] [1, 4] [] [.tmp 41 (.int .i64)] [⟨.exit 2, [], []⟩, ⟨.ret, [], [.tmp 2 (.int .i64)]⟩] (.two (.leaf) (.two (.two (.leaf) (.leaf)) (.two (.one (.two (.leaf) (.two (.leaf) (.two (.two (.leaf) (.leaf)) (.leaf))))) (.leaf)))))))))) (.leaf))))))) (.two (.two (.join [] [] [⟨.normal, [], [.tmp 57 (.bool)]⟩] (.leaf)) (.two (.two (.leaf) (.leaf)) (.leaf))) (.two (.leaf) (.leaf))))))
theorem s20 : SoundF cx.P cx.G 20 sg20 r20 := by
  have e : denF cx [(36, ⟨sg36, r36⟩)] an20 Tryd.f20.ntmps (Tryd.f20.body.getD .skip) Tryd.f20.results.toList sg20 = r20 := by kernel_rfl
  rw [← e]
  exact sound_of_den (c := cx) (Known.cons (.ofF s36 (by kernel_rfl)) Tryd.func36 (by kernel_rfl) (by kernel_rfl) (Known.nil)) Tryd.func20 (by kernel_rfl) (Nat.le_of_ble_eq_true (by kernel_rfl)) rfl
/-! reredos/lines.numbers -/
noncomputable def r37_L0 (a : (T_8 × T_3)) (d38 : Int) : Option (Int ⊕ (Unit ⊕ Int)) :=
 bif decide (d38 < (↑a.2.2.2.2.2.2.1.length : Int)) then
 Option.bind (idxI a.2.2.2.2.2.2.1 d38) fun (b39 : Int) =>
 Option.bind (
 bif !(decide (b39 < (0 : Int))) then
 some (decide ((6000 : Int) < b39))
 else
 some true) fun (d40 : Bool) =>
 bif d40 then
 some (Sum.inr (Sum.inr d38))
 else
 some (Sum.inl (Go.IntKind.wrap .i64 (d38 + (1 : Int))))
 else
 some (Sum.inr (Sum.inl ()))
def sg37 : Sig := ⟨[⟨true, .bo, (.pair (.int .i64) (.pair (.sl (.pair (.int .i64) (.int .i64))) (.int .i64)))⟩, ⟨true, .bo, E_11⟩], [⟨false, .own, .bool⟩]⟩
noncomputable def r37 (a : (T_8 × T_3)) : Option Bool :=
 Option.bind (
 Option.bind (
 bif !(decide (a.2.2.1 < (0 : Int))) then
 some (decide (a.1.1 ≤ a.2.2.1))
 else
 some true) fun (g17 : Bool) =>
 Option.bind (
 bif !(g17) then
 some (decide (a.2.2.2.1 < (0 : Int)))
 else
 some true) fun (g18 : Bool) =>
 Option.bind (
 bif !(g18) then
 some (decide (a.1.1 ≤ a.2.2.2.1))
 else
 some true) fun (g19 : Bool) =>
 Option.bind (
 bif !(g19) then
 some (decide (a.2.2.2.2.1 < (0 : Int)))
 else
 some true) fun (g20 : Bool) =>
 Option.bind (
 bif !(g20) then
 some (decide ((↑a.1.2.1.length : Int) ≤ a.2.2.2.2.1))
 else
 some true) fun (g21 : Bool) =>
 Option.bind (
 bif !(g21) then
 some (decide (a.2.2.2.2.2.1 < (0 : Int)))
 else
 some true) fun (g22 : Bool) =>
 Option.bind (
 bif !(g22) then
 some (decide ((1048576 : Int) < a.2.2.2.2.2.1))
 else
 some true) fun (g23 : Bool) =>
 Option.bind (
 bif !(g23) then
 some (decide ((↑a.1.2.1.length : Int) < (↑a.2.2.2.2.2.2.1.length : Int)))
 else
 some true) fun (g24 : Bool) =>
 bif !(g24) then
 some (decide ((60 : Int) < (↑a.2.2.2.2.2.2.2.2.length : Int)))
 else
 some true) fun (d25 : Bool) =>
 bif d25 then
 some false
 else
 Option.bind (
 Option.bind (loopR (r37_L0 a) (0 : Int)) fun (q41 : (Unit ⊕ Int)) =>
 Sum.elim (fun (_ : Unit) =>
 some (-1 : Int))
 (fun (v43 : Int) =>
 some v43) q41) fun (d44 : Int) =>
 some (!(decide ((0 : Int) ≤ d44)))
def an37 : Ann := .two (.leaf) (.two (.two (.join [3] [3] [⟨.normal, [], [.tmp 64 (.bool)]⟩] (.segs [(10, ([2, 3], ([2, 3], [.tmp 14 (.bool)]))), (5, ([2, 3], ([2, 3], [.tmp 19 (.bool)]))), (7, ([2, 3], ([2, 3], [.tmp 26 (.bool)]))), (5, ([2, 3], ([2, 3], [.tmp 31 (.bool)]))), (8, ([2, 3], ([2, 3], [.tmp 39 (.bool)]))), (5, ([2, 3], ([2, 3], [.tmp 44 (.bool)]))), (5, ([2, 3], ([2, 3], [.tmp 49 (.bool)]))), (9, ([3], ([3], [.tmp 58 (.bool)])))])) (.two (.two (.leaf) (.leaf)) (.leaf))) (.two (.inl 2 69 (.two (.leaf) (.two (.inl 2 78 (.join [] [] [⟨.ret, [], [.tmp 82 (.int .i64)]⟩] (.two (.leaf) (.two (.two (.leaf) (.one (.loop [78, 79, 85] [] [] [.tmp 86 (.int .i64)] [⟨.exit 0, [], []⟩, ⟨.ret, [], [.tmp 82 (.int .i64)]⟩] (.two (.leaf) (.two (.two (.leaf) (.leaf)) (.two (.one (.two (.leaf) (.two (.inl 5 97 (.join [78, 79, 83, 85, 86] [] [⟨.ret, [], [.tmp 99 (.bool)]⟩] (.two (.leaf) (.two (.leaf) (.leaf)))) (.leaf)) (.two (.two (.leaf) (.leaf)) (.leaf))))) (.leaf))))))) (.two (.leaf) (.leaf))))) (.leaf)) (.leaf))) (.leaf)) (.leaf)))
theorem s37 : SoundF cx.P cx.G 37 sg37 r37 := by
  have e : denF cx [] an37 Tryd.f37.ntmps (Tryd.f37.body.getD .skip) Tryd.f37.results.toList sg37 = r37 := by kernel_rfl
  rw [← e]
  exact sound_of_den (c := cx) (Known.nil) Tryd.func37 (by kernel_rfl) (Nat.le_of_ble_eq_true (by kernel_rfl)) rfl
/-! reredos/lines.bare -/
def sg38 : Sig := ⟨[⟨true, .bo, E_11⟩], [⟨false, .own, .bool⟩]⟩
noncomputable def r38 (a : T_3) : Option Bool :=
 Option.bind (
 Option.bind (
 bif !(decide (a.1 = (2 : Int))) then
 some (decide (a.1 = (3 : Int)))
 else
 some true) fun (g3 : Bool) =>
 bif !(g3) then
 some (decide (a.1 = (4 : Int)))
 else
 some true) fun (d4 : Bool) =>
 Option.bind (
 bif !(d4) then
 some (!(decide (a.1 = (5 : Int))))
 else
 some true) fun (d5 : Bool) =>
 Option.bind (
 Option.bind (
 bif !(d4) then
 some (decide (a.1 = (1 : Int)))
 else
 some true) fun (g8 : Bool) =>
 bif !(g8) then
 some (decide (a.1 = (8 : Int)))
 else
 some true) fun (d9 : Bool) =>
 Option.bind (
 bif !(d5) then
 some (decide (a.2.1 = (0 : Int)))
 else
 some true) fun (g10 : Bool) =>
 Option.bind (
 bif g10 then
 bif !(d9) then
 some (decide (a.2.2.2.1 = (0 : Int)))
 else
 some true
 else
 some false) fun (g11 : Bool) =>
 Option.bind (
 bif g11 then
 bif !(d4) then
 bif decide (a.2.2.1 = (0 : Int)) then
 some (decide (a.2.2.2.2.1 = (0 : Int)))
 else
 some false
 else
 some true
 else
 some false) fun (g12 : Bool) =>
 Option.bind (
 bif g12 then
 bif !(decide (a.1 = (6 : Int))) then
 some (decide ((↑a.2.2.2.2.2.1.length : Int) = (0 : Int)))
 else
 some true
 else
 some false) fun (g13 : Bool) =>
 Option.bind (
 bif g13 then
 bif !(decide (a.1 = (1 : Int))) then
 some (decide (a.2.2.2.2.2.2.1.1 = (0 : Int)) && (decide (a.2.2.2.2.2.2.1.2.1 = (0 : Int)) && (decide (a.2.2.2.2.2.2.1.2.2.1 = (0 : Int)) && (decide (a.2.2.2.2.2.2.1.2.2.2.1 = (0 : Int)) && (decide (a.2.2.2.2.2.2.1.2.2.2.2 = (0 : Int)) && true)))))
 else
 some true
 else
 some false) fun (g14 : Bool) =>
 bif g14 then
 bif !(decide (a.1 = (8 : Int))) then
 some (decide (a.2.2.2.2.2.2.2 = ([] : List UInt8)))
 else
 some true
 else
 some false
def an38 : Ann := .two (.leaf) (.two (.join [1] [1] [⟨.normal, [], [.tmp 3 (.bool)]⟩] (.segs [(8, ([1], ([1], [.tmp 13 (.bool)])))])) (.two (.join [1, 3] [1] [⟨.normal, [], [.tmp 4 (.bool)]⟩] (.leaf)) (.two (.join [1, 3, 4] [1] [⟨.normal, [], [.tmp 5 (.bool)]⟩] (.segs [(6, ([1, 3, 4], ([1], [.tmp 30 (.bool)])))])) (.two (.segs [(6, ([1, 3, 5], ([1], [.tmp 41 (.bool)]))), (8, ([1, 3], ([1], [.tmp 49 (.bool)]))), (13, ([1], ([1], [.tmp 62 (.bool)]))), (11, ([1], ([1], [.tmp 73 (.bool)]))), (11, ([1], ([1], [.tmp 84 (.bool)])))]) (.leaf)))))
theorem s38 : SoundF cx.P cx.G 38 sg38 r38 := by
  have e : denF cx [] an38 Tryd.f38.ntmps (Tryd.f38.body.getD .skip) Tryd.f38.results.toList sg38 = r38 := by kernel_rfl
  rw [← e]
  exact sound_of_den (c := cx) (Known.nil) Tryd.func38 (by kernel_rfl) (Nat.le_of_ble_eq_true (by kernel_rfl)) rfl
/-! reredos/lines.call -/
def sg39 : Sig := ⟨[⟨true, .bo, E_13⟩], [⟨false, .own, (.int .i64)⟩]⟩
noncomputable def r39 (a : T_7) : Option Int :=
 Option.bind (
 bif !(decide (a.1 < (1 : Int))) then
 some (decide ((5 : Int) < a.1))
 else
 some true) fun (d1 : Bool) =>
 bif d1 then
 some (3 : Int)
 else
 Option.bind (
 Option.bind (
 bif !(decide (a.2.1 < (0 : Int))) then
 some (decide ((1048576 : Int) < a.2.1))
 else
 some true) fun (g14 : Bool) =>
 Option.bind (
 bif !(g14) then
 some (decide (a.2.2.1 < (0 : Int)))
 else
 some true) fun (g15 : Bool) =>
 Option.bind (
 bif !(g15) then
 some (decide ((6 : Int) ≤ a.2.2.1))
 else
 some true) fun (g16 : Bool) =>
 Option.bind (
 bif !(g16) then
 some (decide (a.2.2.2.1 < (0 : Int)))
 else
 some true) fun (g17 : Bool) =>
 Option.bind (
 bif !(g17) then
 some (decide ((8 : Int) < a.2.2.2.1))
 else
 some true) fun (g18 : Bool) =>
 Option.bind (
 bif !(g18) then
 some (decide (a.2.2.2.2 < (0 : Int)))
 else
 some true) fun (g19 : Bool) =>
 bif !(g19) then
 some (decide ((1073741824 : Int) < a.2.2.2.2))
 else
 some true) fun (d20 : Bool) =>
 bif d20 then
 some (2 : Int)
 else
 Option.bind (
 bif !(decide (a.1 = (1 : Int))) then
 some ((), (a.1, (a.2.1, ((0 : Int), ((0 : Int), (0 : Int))))))
 else
 some ((), (a.1, ((0 : Int), ((0 : Int), ((0 : Int), (0 : Int))))))) fun (d21 : (Unit × T_7)) =>
 Option.bind (
 bif decide (a.1 = (2 : Int)) then
 Option.bind (
 
 some ((), (d21.2.1, (d21.2.2.1, (a.2.2.1, (a.2.2.2.1, d21.2.2.2.2.2)))))) fun (d26 : (Unit × T_7)) =>
 some ((), d26.2)
 else
 bif decide (a.1 = (3 : Int)) then
 Option.bind (
 
 some ((), (d21.2.1, (d21.2.2.1, (d21.2.2.2.1, a.2.2.2))))) fun (d27 : (Unit × T_7)) =>
 some ((), d27.2)
 else
 some ((), d21.2)) fun (d28 : (Unit × T_7)) =>
 bif !((decide (a.1 = d28.2.1) && (decide (a.2.1 = d28.2.2.1) && (decide (a.2.2.1 = d28.2.2.2.1) && (decide (a.2.2.2.1 = d28.2.2.2.2.1) && (decide (a.2.2.2.2 = d28.2.2.2.2.2) && true)))))) then
 some (4 : Int)
 else
 some (0 : Int)
noncomputable def r39q : T_7 → Option Int := fun a =>
 Option.bind (
 bif !(decide (a.1 < (1 : Int))) then
 some (decide ((5 : Int) < a.1))
 else
 some true) fun (d1 : Bool) =>
 bif d1 then
 some (3 : Int)
 else
 Option.bind (
 Option.bind (
 bif !(decide (a.2.1 < (0 : Int))) then
 some (decide ((1048576 : Int) < a.2.1))
 else
 some true) fun (g14 : Bool) =>
 Option.bind (
 bif !(g14) then
 some (decide (a.2.2.1 < (0 : Int)))
 else
 some true) fun (g15 : Bool) =>
 Option.bind (
 bif !(g15) then
 some (decide ((6 : Int) ≤ a.2.2.1))
 else
 some true) fun (g16 : Bool) =>
 Option.bind (
 bif !(g16) then
 some (decide (a.2.2.2.1 < (0 : Int)))
 else
 some true) fun (g17 : Bool) =>
 Option.bind (
 bif !(g17) then
 some (decide ((8 : Int) < a.2.2.2.1))
 else
 some true) fun (g18 : Bool) =>
 Option.bind (
 bif !(g18) then
 some (decide (a.2.2.2.2 < (0 : Int)))
 else
 some true) fun (g19 : Bool) =>
 bif !(g19) then
 some (decide ((1073741824 : Int) < a.2.2.2.2))
 else
 some true) fun (d20 : Bool) =>
 bif d20 then
 some (2 : Int)
 else
 Option.bind (
 bif !(decide (a.1 = (1 : Int))) then
 some ((), (a.1, (a.2.1, ((0 : Int), ((0 : Int), (0 : Int))))))
 else
 some ((), (a.1, ((0 : Int), ((0 : Int), ((0 : Int), (0 : Int))))))) fun (d21 : (Unit × T_7)) =>
 Option.bind (
 bif decide (a.1 = (2 : Int)) then
 Option.bind (
 sameR (
 some ((), (d21.2.1, (d21.2.2.1, (a.2.2.1, (a.2.2.2.1, d21.2.2.2.2.2))))))
 (
 sameR (
 sameR (
 some ((), (d21.2.1, (d21.2.2.1, (a.2.2.1, (a.2.2.2.1, d21.2.2.2.2.2))))))
 (
 some ((), (d21.2.1, (d21.2.2.1, (a.2.2.1, (a.2.2.2.1, d21.2.2.2.2.2)))))))
 (
 sameR (
 sameR (
 some ((), (d21.2.1, (d21.2.2.1, (a.2.2.1, (a.2.2.2.1, d21.2.2.2.2.2))))))
 (
 some ((), (d21.2.1, (d21.2.2.1, (a.2.2.1, (a.2.2.2.1, d21.2.2.2.2.2)))))))
 (
 some ((), (d21.2.1, (d21.2.2.1, (a.2.2.1, (a.2.2.2.1, d21.2.2.2.2.2))))))))) fun (d26 : (Unit × T_7)) =>
 some ((), d26.2)
 else
 bif decide (a.1 = (3 : Int)) then
 Option.bind (
 sameR (
 some ((), (d21.2.1, (d21.2.2.1, (d21.2.2.2.1, a.2.2.2)))))
 (
 sameR (
 sameR (
 some ((), (d21.2.1, (d21.2.2.1, (d21.2.2.2.1, a.2.2.2)))))
 (
 some ((), (d21.2.1, (d21.2.2.1, (d21.2.2.2.1, a.2.2.2))))))
 (
 sameR (
 sameR (
 some ((), (d21.2.1, (d21.2.2.1, (d21.2.2.2.1, a.2.2.2)))))
 (
 some ((), (d21.2.1, (d21.2.2.1, (d21.2.2.2.1, a.2.2.2))))))
 (
 some ((), (d21.2.1, (d21.2.2.1, (d21.2.2.2.1, a.2.2.2)))))))) fun (d27 : (Unit × T_7)) =>
 some ((), d27.2)
 else
 some ((), d21.2)) fun (d28 : (Unit × T_7)) =>
 bif !((decide (a.1 = d28.2.1) && (decide (a.2.1 = d28.2.2.1) && (decide (a.2.2.1 = d28.2.2.2.1) && (decide (a.2.2.2.1 = d28.2.2.2.2.1) && (decide (a.2.2.2.2 = d28.2.2.2.2.2) && true)))))) then
 some (4 : Int)
 else
 some (0 : Int)
theorem r39e : r39q = r39 := by unfold r39q r39; simp only [sameR_self]
def an39 : Ann := .two (.leaf) (.two (.two (.join [1] [1] [⟨.normal, [], [.tmp 11 (.bool)]⟩] (.leaf)) (.two (.two (.leaf) (.leaf)) (.leaf))) (.two (.two (.join [1] [1] [⟨.normal, [], [.tmp 49 (.bool)]⟩] (.segs [(8, ([1], ([1], [.tmp 19 (.bool)]))), (5, ([1], ([1], [.tmp 24 (.bool)]))), (5, ([1], ([1], [.tmp 29 (.bool)]))), (5, ([1], ([1], [.tmp 34 (.bool)]))), (5, ([1], ([1], [.tmp 39 (.bool)]))), (5, ([1], ([1], [.tmp 44 (.bool)])))])) (.two (.two (.leaf) (.leaf)) (.leaf))) (.two (.leaf) (.two (.join [1] [1] [⟨.normal, [], [.tmp 3 (.pt 3 [(0, 0)] 0 0 5), .box 3 [.int .i64, .int .i64, .int .i64, .int .i64, .int .i64]]⟩] (.two (.leaf) (.two (.leaf) (.leaf)))) (.two (.join [1] [1] [⟨.normal, [], [.tmp 3 (.pt 3 [(0, 0)] 0 0 5), .box 3 [.int .i64, .int .i64, .int .i64, .int .i64, .int .i64]]⟩] (.two (.leaf) (.one (.two (.leaf) (.two (.join [1] [1] [⟨.normal, [], [.tmp 3 (.pt 3 [(0, 0)] 0 0 5), .box 3 [.int .i64, .int .i64, .int .i64, .int .i64, .int .i64]]⟩] (.drawT [0, 1, 2, 3, 4] [2, 3])) (.two (.leaf) (.two (.join [1] [1] [⟨.normal, [], [.tmp 3 (.pt 3 [(0, 0)] 0 0 5), .box 3 [.int .i64, .int .i64, .int .i64, .int .i64, .int .i64]]⟩] (.drawT [0, 1, 2, 3, 4] [2, 3])) (.leaf)))))))) (.two (.two (.leaf) (.two (.two (.leaf) (.leaf)) (.leaf))) (.two (.leaf) (.leaf))))))))
theorem s39 : SoundF cx.P cx.G 39 sg39 r39 := by
  have e : denF cx [] an39 Tryd.f39.ntmps (Tryd.f39.body.getD .skip) Tryd.f39.results.toList sg39 = r39q := by kernel_rfl
  rw [← r39e, ← e]
  exact sound_of_den (c := cx) (Known.nil) Tryd.func39 (by kernel_rfl) (Nat.le_of_ble_eq_true (by kernel_rfl)) rfl
/-! reredos/lines.Check -/
def sg21 : Sig := ⟨[⟨true, .bo, (.pair (.int .i64) (.pair (.sl (.pair (.int .i64) (.int .i64))) (.int .i64)))⟩, ⟨true, .bo, E_11⟩], [⟨false, .own, (.int .i64)⟩]⟩
noncomputable def r21 (a : (T_8 × T_3)) : Option Int :=
 Option.bind (r20 a.1) fun (y1 : Int) =>
 bif !(decide (y1 = (0 : Int))) then
 some y1
 else
 Option.bind (
 bif !(decide (a.2.1 < (1 : Int))) then
 some (decide ((8 : Int) < a.2.1))
 else
 some true) fun (d2 : Bool) =>
 bif d2 then
 some (3 : Int)
 else
 Option.bind (r37 (a.1, a.2)) fun (y3 : Bool) =>
 bif !(y3) then
 some (2 : Int)
 else
 Option.bind (r38 a.2) fun (y4 : Bool) =>
 bif !(y4) then
 some (4 : Int)
 else
 bif decide (a.2.1 = (1 : Int)) then
 Option.bind (r39 a.2.2.2.2.2.2.2.1) fun (y5 : Int) =>
 some y5
 else
 some (0 : Int)
def an21 : Ann := .two (.leaf) (.two (.two (.leaf) (.two (.leaf) (.two (.two (.leaf) (.leaf)) (.leaf)))) (.two (.one (.two (.join [2, 3] [2, 3] [⟨.normal, [], [.tmp 11 (.bool)]⟩] (.leaf)) (.two (.two (.leaf) (.leaf)) (.two (.leaf) (.two (.two (.leaf) (.leaf)) (.two (.leaf) (.two (.two (.leaf) (.leaf)) (.two (.leaf) (.two (.two (.leaf) (.leaf)) (.leaf)))))))))) (.two (.leaf) (.leaf))))
theorem s21 : SoundF cx.P cx.G 21 sg21 r21 := by
  have e : denF cx [(20, ⟨sg20, r20⟩), (37, ⟨sg37, r37⟩), (38, ⟨sg38, r38⟩), (39, ⟨sg39, r39⟩)] an21 Tryd.f21.ntmps (Tryd.f21.body.getD .skip) Tryd.f21.results.toList sg21 = r21 := by kernel_rfl
  rw [← e]
  exact sound_of_den (c := cx) (Known.cons (.ofF s20 (by kernel_rfl)) Tryd.func20 (by kernel_rfl) (by kernel_rfl) (Known.cons (.ofF s37 (by kernel_rfl)) Tryd.func37 (by kernel_rfl) (by kernel_rfl) (Known.cons (.ofF s38 (by kernel_rfl)) Tryd.func38 (by kernel_rfl) (by kernel_rfl) (Known.cons (.ofF s39 (by kernel_rfl)) Tryd.func39 (by kernel_rfl) (by kernel_rfl) (Known.nil))))) Tryd.func21 (by kernel_rfl) (Nat.le_of_ble_eq_true (by kernel_rfl)) rfl
/-! (*strings.Builder).WriteString -/
theorem bldCheck22 : CheckOk cx.P 40 67 := ⟨Tryd.copyCheck_used, Tryd.copyCheck_fresh⟩
set_option maxRecDepth 20000 in
theorem walk22 (w w1 w2 : World) (b : Nat) (base : Option Addr) (n cap : Nat) (s : ByteArray) (b' : Option Addr) (n' cap' : Nat)
    (hcc : Calls Tryd.prog 40 #[.pointer (some ⟨b, 0, none⟩)] w fun e w' => e = .returned (.tuple #[]) ∧ w' = w1)
    (hb1 : w1.heap[b]? = some (.cells #[.pointer (some ⟨b, 0, none⟩), .slice base n cap] 67 (0, 0)))
    (happ : (Builtin.append_ #[56, 9] 56 #[.slice base n cap, .string s]).run Tryd.prog w1 = .ok (.slice b' n' cap') w2)
    (hb2 : w2.heap[b]? = some (.cells #[.pointer (some ⟨b, 0, none⟩), .slice base n cap] 67 (0, 0))) :
    Calls Tryd.prog 22 #[.pointer (some ⟨b, 0, none⟩), .string s] w fun e w' => e = .returned (.tuple #[.int .i64 s.size, .nilIface]) ∧ w' = w2.setCell ⟨b, 1, none⟩ (.slice b' n' cap') := by
  have c0 : w1.cell? ⟨b, 0, none⟩ = some (.pointer (some ⟨b, 0, none⟩)) := by rw [Lib.cell_of_heap hb1]; rfl
  have c1 : w1.cell? ⟨b, 1, none⟩ = some (.slice base n cap) := by rw [Lib.cell_of_heap hb1]; rfl
  have d0 : w2.cell? ⟨b, 0, none⟩ = some (.pointer (some ⟨b, 0, none⟩)) := by rw [Lib.cell_of_heap hb2]; rfl
  have d1 : w2.cell? ⟨b, 1, none⟩ = some (.slice base n cap) := by rw [Lib.cell_of_heap hb2]; rfl
  have f1 : w2.frozen? ⟨b, 1, none⟩ = false := Lib.frozen_of_heap hb2 1
  have ec : ∀ args w, (callFunc 40 args).run Tryd.prog w = .ok (.enter 40 args) w := fun args w => enters_of Tryd.func40 (by kernel_rfl) rfl args w
  go_enter Tryd.func22, Tryd.f22
  go_wp2_with (go_at_call 40; refine hcc.mono ?_)
  rintro e w' ⟨rfl, rfl⟩
  go_wp2_with (at_builtin; refine wpList_val rfl (v := .slice b' n' cap') (w' := w2) (by simp [execOp, resolve, invoke, builtin, Act.eval, happ]) ?_)
  go_wp2
  go_ret2
  exact ⟨rfl, rfl⟩
def sg22 : Sig := ⟨[⟨false, .own, .bld (67, 5)⟩, ⟨false, .bo, .str⟩], [⟨false, .own, .int .i64⟩, ⟨false, .own, .ifc⟩, ⟨false, .own, .bld (67, 5)⟩]⟩
noncomputable def r22 (a : List UInt8 × List UInt8) : Option (Int × Bool × List UInt8) := writeStrR a
theorem s22 : SoundM cx.P cx.G 22 sg22 r22 := writeStr_sound (c := cx) (cc := 40) (t := (67, 5)) (st := 56) (xt := 9) (tysOk 56 ⟨.sl 5, 1, 24, [.slice none 0 0], false, [some (.int .u8)], [none], (.sl (.int .u8))⟩ (by kernel_rfl)) rfl (tysOk 5 ⟨.int .u8, 1, 1, [.int .u8 0], false, [none], [none], (.int .u8)⟩ (by kernel_rfl)) rfl rfl rfl Tryd.underlying9 bldCheck22 walk22
/-! reredos/lines.values -/
def sg23 : Sig := ⟨[⟨true, .bo, E_11⟩], [⟨false, .own, (.sl (.int .i64))⟩]⟩
noncomputable def r23 (a : T_3) : Option (List Int) :=
 Option.bind (
 bif decide (a.1 = (2 : Int)) then
 some (decide (a.1 = (2 : Int)))
 else
 bif decide (a.1 = (3 : Int)) then
 some (decide (a.1 = (3 : Int)))
 else
 some (decide (a.1 = (4 : Int)))) fun (d1 : Bool) =>
 bif d1 then
 some [a.2.1, a.2.2.1, a.2.2.2.1, a.2.2.2.2.1]
 else
 bif decide (a.1 = (5 : Int)) then
 some []
 else
 bif decide (a.1 = (6 : Int)) then
 bif roomOk false 1 a.2.2.2.2.2.1.length 8 then
 some (app [a.2.1] a.2.2.2.2.2.1)
 else
 none
 else
 bif decide (a.1 = (7 : Int)) then
 some [a.2.1]
 else
 some [a.2.1, a.2.2.2.1]
def an23 : Ann := .two (.leaf) (.two (.two (.leaf) (.one (.two (.join [1, 4] [1] [⟨.normal, [], [.tmp 5 (.bool)]⟩] (.two (.leaf) (.two (.leaf) (.two (.leaf) (.two (.leaf) (.leaf)))))) (.two (.two (.leaf) (.leaf)) (.two (.leaf) (.two (.two (.leaf) (.leaf)) (.two (.leaf) (.two (.two (.leaf) (.leaf)) (.two (.leaf) (.two (.two (.leaf) (.leaf)) (.leaf))))))))))) (.two (.leaf) (.leaf)))
theorem s23 : SoundF cx.P cx.G 23 sg23 r23 := by
  have e : denF cx [] an23 Tryd.f23.ntmps (Tryd.f23.body.getD .skip) Tryd.f23.results.toList sg23 = r23 := by kernel_rfl
  rw [← e]
  exact sound_of_den (c := cx) (Known.nil) Tryd.func23 (by kernel_rfl) (Nat.le_of_ble_eq_true (by kernel_rfl)) rfl
/-! strconv.Itoa -/
def sg24 : Sig := ⟨[⟨false, .bo, (.int .i64)⟩], [⟨false, .own, .str⟩]⟩
noncomputable def r24 (a : Int) : Option (List UInt8) := itoaR a
theorem s24 : SoundF cx.P cx.G 24 sg24 r24 := itoa_sound (g := 3) Tryd.strconv_Itoa (by kernel_rfl) (show Go.V.look cx.G 3 = some (.ga (.int .u64) tab3) by kernel_rfl) (by kernel_rfl)
/-! reredos/lines.asked -/
noncomputable def r25_L0 (d5 : (Unit × List Int)) (d6 : (List UInt8 × Int)) : Option ((List UInt8 × Int) ⊕ List UInt8) :=
 bif decide (d6.2 < (↑d5.2.length : Int)) then
 bif inB d6.2 d5.2.length then
 Option.bind (idxN d5.2 (Int.toNat d6.2)) fun (x7 : Int) =>
 Option.bind (r24 x7) fun (y8 : List UInt8) =>
 bif decide (([32] : List UInt8).length + y8.length ≤ 9223372036854775807) then
 bif decide (d6.1.length + (([32] : List UInt8) ++ y8).length ≤ 9223372036854775807) then
 some (Sum.inl ((d6.1 ++ (([32] : List UInt8) ++ y8)), (Go.IntKind.wrap .i64 (d6.2 + (1 : Int)))))
 else
 none
 else
 none
 else
 none
 else
 some (Sum.inr d6.1)
def sg25 : Sig := ⟨[⟨true, .bo, E_13⟩], [⟨false, .own, .str⟩]⟩
noncomputable def r25 (a : T_7) : Option (List UInt8) :=
 Option.bind (idxI tab1 a.1) fun (b1 : List UInt8) =>
 bif decide (([32] : List UInt8).length + b1.length ≤ 9223372036854775807) then
 Option.bind (
 bif decide (a.1 = (2 : Int)) then
 some ((), [a.2.1, a.2.2.1, a.2.2.2.1])
 else
 bif decide (a.1 = (3 : Int)) then
 some ((), [a.2.1, a.2.2.2.1, a.2.2.2.2])
 else
 Option.bind (
 bif decide (a.1 = (4 : Int)) then
 some (decide (a.1 = (4 : Int)))
 else
 some (decide (a.1 = (5 : Int)))) fun (d4 : Bool) =>
 bif d4 then
 some ((), [a.2.1])
 else
 some ((), [])) fun (d5 : (Unit × List Int)) =>
 Option.bind (loopR (r25_L0 d5) ((([32] : List UInt8) ++ b1), (0 : Int))) fun (q9 : List UInt8) =>
 some q9
 else
 none
def an25 : Ann := .two (.leaf) (.two (.leaf) (.two (.leaf) (.two (.join [3] [] [⟨.normal, [(4, (.int .i64))], [.tmp 4 (.own 4 [(0, 0)] (.int .i64)), .row 4 [.sl .own (.int .i64)]]⟩] (.two (.leaf) (.one (.two (.leaf) (.two (.leaf) (.two (.leaf) (.two (.leaf) (.two (.join [1, 3, 4] [1] [⟨.normal, [], [.tmp 32 (.bool)]⟩] (.two (.leaf) (.two (.leaf) (.leaf)))) (.two (.leaf) (.leaf)))))))))) (.two (.two (.leaf) (.one (.loop [38, 39] [4] [] [.tmp 3 (.str), .tmp 40 (.int .i64)] [⟨.exit 1, [], [.tmp 3 (.str)]⟩] (.two (.leaf) (.two (.two (.leaf) (.leaf)) (.two (.one (.two (.leaf) (.leaf))) (.leaf))))))) (.two (.leaf) (.leaf))))))
theorem s25 : SoundF cx.P cx.G 25 sg25 r25 := by
  have e : denF cx [(24, ⟨sg24, r24⟩)] an25 Tryd.f25.ntmps (Tryd.f25.body.getD .skip) Tryd.f25.results.toList sg25 = r25 := by kernel_rfl
  rw [← e]
  exact sound_of_den (c := cx) (Known.cons (.ofF s24 (by kernel_rfl)) Tryd.func24 (by kernel_rfl) (by kernel_rfl) (Known.nil)) Tryd.func25 (by kernel_rfl) (Nat.le_of_ble_eq_true (by kernel_rfl)) rfl
/-! reredos/lines.hex -/
noncomputable def r26_L0 (a : List UInt8) (d19 : (Unit × (Int × List Int))) : Option ((Unit × (Int × List Int)) ⊕ (Unit × List Int)) :=
 bif decide (d19.2.1 < (↑a.length : Int)) then
 Option.bind (idxI a d19.2.1) fun (b24 : UInt8) =>
 Option.bind (idxI ([48, 49, 50, 51, 52, 53, 54, 55, 56, 57, 97, 98, 99, 100, 101, 102] : List UInt8) (Int.fdiv (↑(UInt8.toNat b24) : Int) (2 ^ 4))) fun (b25 : UInt8) =>
 Option.bind (idxI a d19.2.1) fun (b26 : UInt8) =>
 Option.bind (idxI ([48, 49, 50, 51, 52, 53, 54, 55, 56, 57, 97, 98, 99, 100, 101, 102] : List UInt8) (Go.bits .and .u8 (↑(UInt8.toNat b26) : Int) (15 : Int))) fun (b27 : UInt8) =>
 bif roomOk false d19.2.2.length 2 1 then
 some (Sum.inl ((), ((Go.IntKind.wrap .i64 (d19.2.1 + (1 : Int))), app d19.2.2 [(↑(UInt8.toNat b25) : Int), (↑(UInt8.toNat b27) : Int)])))
 else
 none
 else
 some (Sum.inr ((), d19.2.2))
def sg26 : Sig := ⟨[⟨false, .bo, .str⟩], [⟨false, .own, .str⟩]⟩
noncomputable def r26 (a : List UInt8) : Option (List UInt8) :=
 Option.bind (loopR (r26_L0 a) ((), ((0 : Int), [(46 : Int)]))) fun (q28 : (Unit × List Int)) =>
 some (List.map byte8 q28.2)
def an26 : Ann := .two (.leaf) (.two (.leaf) (.two (.two (.leaf) (.one (.loop [0, 7] [] [(3, (.int .u8))] [.tmp 3 (.own 3 [(0, 0)] (.int .u8)), .tmp 8 (.int .i64), .row 3 [.sl .own (.int .u8)]] [⟨.exit 0, [], [.tmp 3 (.own 3 [(0, 0)] (.int .u8)), .row 3 [.sl .own (.int .u8)]]⟩] (.two (.leaf) (.two (.two (.leaf) (.leaf)) (.two (.one (.two (.leaf) (.draw 12))) (.leaf))))))) (.two (.leaf) (.leaf))))
theorem s26 : SoundF cx.P cx.G 26 sg26 r26 := by
  have e : denF cx [] an26 Tryd.f26.ntmps (Tryd.f26.body.getD .skip) Tryd.f26.results.toList sg26 = r26 := by kernel_rfl
  rw [← e]
  exact sound_of_den (c := cx) (Known.nil) Tryd.func26 (by kernel_rfl) (Nat.le_of_ble_eq_true (by kernel_rfl)) rfl
/-! (*strings.Builder).WriteByte -/
theorem bldCheck27 : CheckOk cx.P 40 67 := ⟨Tryd.copyCheck_used, Tryd.copyCheck_fresh⟩
set_option maxRecDepth 20000 in
theorem walk27 (w w1 w2 : World) (b : Nat) (base : Option Addr) (n cap : Nat) (ch : Int) (b' : Option Addr) (n' cap' : Nat)
    (hcc : Calls Tryd.prog 40 #[.pointer (some ⟨b, 0, none⟩)] w fun e w' => e = .returned (.tuple #[]) ∧ w' = w1)
    (hb1 : w1.heap[b]? = some (.cells #[.pointer (some ⟨b, 0, none⟩), .slice base n cap] 67 (0, 0)))
    (happ : (Builtin.append_ #[56, 56] 56 #[.slice base n cap, .slice (some ⟨w1.heap.size, 0, none⟩) 1 1]).run Tryd.prog (w1.alloc (.cells #[.int .u8 ch] 5)) = .ok (.slice b' n' cap') w2)
    (hb2 : w2.heap[b]? = some (.cells #[.pointer (some ⟨b, 0, none⟩), .slice base n cap] 67 (0, 0))) :
    Calls Tryd.prog 27 #[.pointer (some ⟨b, 0, none⟩), .int .u8 ch] w fun e w' => e = .returned .nilIface ∧ w' = w2.setCell ⟨b, 1, none⟩ (.slice b' n' cap') := by
  have c0 : w1.cell? ⟨b, 0, none⟩ = some (.pointer (some ⟨b, 0, none⟩)) := by rw [Lib.cell_of_heap hb1]; rfl
  have c1 : w1.cell? ⟨b, 1, none⟩ = some (.slice base n cap) := by rw [Lib.cell_of_heap hb1]; rfl
  have d0 : w2.cell? ⟨b, 0, none⟩ = some (.pointer (some ⟨b, 0, none⟩)) := by rw [Lib.cell_of_heap hb2]; rfl
  have d1 : w2.cell? ⟨b, 1, none⟩ = some (.slice base n cap) := by rw [Lib.cell_of_heap hb2]; rfl
  have f1 : w2.frozen? ⟨b, 1, none⟩ = false := Lib.frozen_of_heap hb2 1
  have ec : ∀ args w, (callFunc 40 args).run Tryd.prog w = .ok (.enter 40 args) w := fun args w => enters_of Tryd.func40 (by kernel_rfl) rfl args w
  go_enter Tryd.func27, Tryd.f27
  go_wp2_with (go_at_call 40; refine hcc.mono ?_)
  rintro e w' ⟨rfl, rfl⟩
  go_wp2_with (at_builtin; refine wpList_val rfl (v := .slice b' n' cap') (w' := w2) (by simp [execOp, resolve, invoke, builtin, Act.eval, happ]) ?_)
  go_wp2
  go_ret
  exact ⟨rfl, rfl⟩
def sg27 : Sig := ⟨[⟨false, .own, .bld (67, 5)⟩, ⟨false, .bo, .int .u8⟩], [⟨false, .own, .ifc⟩, ⟨false, .own, .bld (67, 5)⟩]⟩
noncomputable def r27 (a : List UInt8 × Int) : Option (Bool × List UInt8) := writeByteR a
theorem s27 : SoundM cx.P cx.G 27 sg27 r27 := writeByte_sound (c := cx) (cc := 40) (t := (67, 5)) (st := 56) (tysOk 56 ⟨.sl 5, 1, 24, [.slice none 0 0], false, [some (.int .u8)], [none], (.sl (.int .u8))⟩ (by kernel_rfl)) rfl (tysOk 5 ⟨.int .u8, 1, 1, [.int .u8 0], false, [none], [none], (.int .u8)⟩ (by kernel_rfl)) rfl rfl rfl bldCheck27 walk27
/-! (*strings.Builder).String -/
set_option maxHeartbeats 2000000 in
set_option maxRecDepth 100000 in
theorem walk28 (w w2 : World) (b : Nat) (x0 : Value) (base : Option Addr) (n cap : Nat) (q : Option Addr) (r : ByteArray)
    (hb : w.heap[b]? = some (.cells #[x0, .slice base n cap] 67 (0, 0)))
    (hSD : (Builtin.unsafeSliceData_ #[56] 96 #[.slice base n cap]).run Tryd.prog w.drew = .ok (.pointer q) w.drew)
    (hUS : (Builtin.unsafeString_ #[96, 3] 9 #[.pointer q, .int .i64 n]).run Tryd.prog w.drew = .ok (.string r) w2) :
    Calls Tryd.prog 28 #[.pointer (some ⟨b, 0, none⟩)] w fun e w' => e = .returned (.string r) ∧ w' = w2 := by
  have c1 : w.drew.cell? ⟨b, 1, none⟩ = some (.slice base n cap) := by
    have : w.drew.heap[b]? = some (.cells #[x0, .slice base n cap] 67 (0, 0)) := hb
    rw [Lib.cell_of_heap this]; rfl
  go_enter Tryd.func28, Tryd.f28
  go_wp2
  go_region
  all_goals (go_wp2; go_ret; exact ⟨rfl, rfl⟩)
def sg28 : Sig := ⟨[⟨false, .own, .bld (67, 5)⟩], [⟨false, .own, .str⟩]⟩
noncomputable def r28 (a : List UInt8) : Option (List UInt8) := textR a
theorem s28 : SoundT cx.P 28 sg28 r28 := text_sound (c := cx) (t := (67, 5)) (st := 56) (pt := 96) (it := 3) (ty := 9) Tryd.underlying96 (by kernel_rfl) walk28
/-! reredos/lines.Show -/
noncomputable def r11_L0 (y17 : List Int) (d22 : (Unit × (Int × List UInt8))) : Option ((Unit × (Int × List UInt8)) ⊕ (Unit × List UInt8)) :=
 bif decide (d22.2.1 < (↑y17.length : Int)) then
 bif inB d22.2.1 y17.length then
 Option.bind (idxN y17 (Int.toNat d22.2.1)) fun (x23 : Int) =>
 Option.bind (r24 x23) fun (y24 : List UInt8) =>
 bif decide (([32] : List UInt8).length + y24.length ≤ 9223372036854775807) then
 Option.bind (r22 (d22.2.2, (([32] : List UInt8) ++ y24))) fun (y25 : (Int × (Bool × List UInt8))) =>
 some (Sum.inl ((), ((Go.IntKind.wrap .i64 (d22.2.1 + (1 : Int))), y25.2.2)))
 else
 none
 else
 none
 else
 some (Sum.inr ((), d22.2.2))
noncomputable def r11_L1 (a : (T_8 × List (T_3))) (d12 : (Unit × (Int × List UInt8))) : Option ((Unit × (Int × List UInt8)) ⊕ ((Unit × List UInt8) ⊕ (List UInt8 × (Int × Int)))) :=
 bif decide (d12.2.1 < (↑a.2.length : Int)) then
 Option.bind (idxI a.2 d12.2.1) fun (b13 : T_3) =>
 Option.bind (r21 (a.1, b13)) fun (y14 : Int) =>
 bif !(decide (y14 = (0 : Int))) then
 some (Sum.inr (Sum.inr (([] : List UInt8), (d12.2.1, y14))))
 else
 Option.bind (idxI tab0 b13.1) fun (b15 : List UInt8) =>
 Option.bind (r22 (d12.2.2, b15)) fun (y16 : (Int × (Bool × List UInt8))) =>
 Option.bind (r23 b13) fun (y17 : List Int) =>
 Option.bind (loopR (r11_L0 y17) ((), ((0 : Int), y16.2.2))) fun (q26 : (Unit × List UInt8)) =>
 Option.bind (
 bif decide (b13.1 = (1 : Int)) then
 Option.bind (r25 b13.2.2.2.2.2.2.1) fun (y35 : List UInt8) =>
 Option.bind (r22 (q26.2, y35)) fun (y36 : (Int × (Bool × List UInt8))) =>
 some ((), y36.2.2)
 else
 bif decide (b13.1 = (8 : Int)) then
 Option.bind (r26 b13.2.2.2.2.2.2.2) fun (y37 : List UInt8) =>
 bif decide (([32] : List UInt8).length + y37.length ≤ 9223372036854775807) then
 Option.bind (r22 (q26.2, (([32] : List UInt8) ++ y37))) fun (y38 : (Int × (Bool × List UInt8))) =>
 some ((), y38.2.2)
 else
 none
 else
 some ((), q26.2)) fun (d39 : (Unit × List UInt8)) =>
 Option.bind (r27 (d39.2, (10 : Int))) fun (y40 : (Bool × List UInt8)) =>
 some (Sum.inl ((), ((Go.IntKind.wrap .i64 (d12.2.1 + (1 : Int))), y40.2)))
 else
 some (Sum.inr (Sum.inl ((), d12.2.2)))
def sg11 : Sig := ⟨[⟨true, .bo, (.pair (.int .i64) (.pair (.sl (.pair (.int .i64) (.int .i64))) (.int .i64)))⟩, ⟨false, .bo, E_9⟩], [⟨false, .own, .str⟩, ⟨false, .own, (.int .i64)⟩, ⟨false, .own, (.int .i64)⟩]⟩
noncomputable def r11 (a : (T_8 × List (T_3))) : Option (List UInt8 × (Int × Int)) :=
 Option.bind (r20 a.1) fun (y1 : Int) =>
 bif !(decide (y1 = (0 : Int))) then
 some (([] : List UInt8), ((0 : Int), y1))
 else
 bif decide ((3000 : Int) < (↑a.2.length : Int)) then
 some (([] : List UInt8), ((0 : Int), (1 : Int)))
 else
 Option.bind (loopR (r11_L1 a) ((), ((0 : Int), ([] : List UInt8)))) fun (q41 : ((Unit × List UInt8) ⊕ (List UInt8 × (Int × Int)))) =>
 Sum.elim (fun (v42 : (Unit × List UInt8)) =>
 Option.bind (r28 v42.2) fun (y44 : List UInt8) =>
 some (y44, ((0 : Int), (0 : Int))))
 (fun (v43 : (List UInt8 × (Int × Int))) =>
 some v43) q41
def an11 : Ann := .two (.leaf) (.two (.two (.leaf) (.two (.leaf) (.two (.two (.leaf) (.leaf)) (.leaf)))) (.two (.two (.leaf) (.two (.two (.leaf) (.leaf)) (.leaf))) (.two (.leaf) (.two (.two (.leaf) (.one (.loop [2, 22, 23] [2] [] [.tmp 8 (.pt 8 [(0, 0)] 0 0 2), .tmp 24 (.int .i64), .row 8 [.bld (67, 5)]] [⟨.exit 0, [], [.tmp 8 (.pt 8 [(0, 0)] 0 0 2), .row 8 [.bld (67, 5)]]⟩, ⟨.ret, [], [.tmp 4 (.str), .tmp 5 (.int .i64), .tmp 6 (.int .i64)]⟩] (.two (.leaf) (.two (.two (.leaf) (.leaf)) (.two (.one (.two (.leaf) (.two (.two (.leaf) (.two (.leaf) (.two (.two (.leaf) (.leaf)) (.leaf)))) (.two (.leaf) (.two (.two (.leaf) (.one (.loop [2, 10, 22, 23, 24, 42, 43] [2, 10, 42] [] [.tmp 8 (.pt 8 [(0, 0)] 0 0 2), .tmp 44 (.int .i64), .row 8 [.bld (67, 5)]] [⟨.exit 2, [], [.tmp 8 (.pt 8 [(0, 0)] 0 0 2), .row 8 [.bld (67, 5)]]⟩] (.two (.leaf) (.two (.two (.leaf) (.leaf)) (.two (.one (.two (.leaf) (.leaf))) (.leaf))))))) (.two (.join [2, 22, 23, 24] [2] [⟨.normal, [], [.tmp 8 (.pt 8 [(0, 0)] 0 0 2), .row 8 [.bld (67, 5)]]⟩] (.two (.leaf) (.one (.two (.leaf) (.two (.leaf) (.two (.leaf) (.two (.leaf) (.leaf)))))))) (.leaf))))))) (.leaf))))))) (.two (.leaf) (.leaf))))))
theorem s11 : SoundF cx.P cx.G 11 sg11 r11 := by
  have e : denF cx [(20, ⟨sg20, r20⟩), (21, ⟨sg21, r21⟩), (22, ⟨sg22, r22⟩), (23, ⟨sg23, r23⟩), (24, ⟨sg24, r24⟩), (25, ⟨sg25, r25⟩), (26, ⟨sg26, r26⟩), (27, ⟨sg27, r27⟩), (28, ⟨sg28, r28⟩)] an11 Tryd.f11.ntmps (Tryd.f11.body.getD .skip) Tryd.f11.results.toList sg11 = r11 := by kernel_rfl
  rw [← e]
  exact sound_of_den (c := cx) (Known.cons (.ofF s20 (by kernel_rfl)) Tryd.func20 (by kernel_rfl) (by kernel_rfl) (Known.cons (.ofF s21 (by kernel_rfl)) Tryd.func21 (by kernel_rfl) (by kernel_rfl) (Known.cons (.ofM s22 (by kernel_rfl)) Tryd.func22 (by kernel_rfl) (by kernel_rfl) (Known.cons (.ofF s23 (by kernel_rfl)) Tryd.func23 (by kernel_rfl) (by kernel_rfl) (Known.cons (.ofF s24 (by kernel_rfl)) Tryd.func24 (by kernel_rfl) (by kernel_rfl) (Known.cons (.ofF s25 (by kernel_rfl)) Tryd.func25 (by kernel_rfl) (by kernel_rfl) (Known.cons (.ofF s26 (by kernel_rfl)) Tryd.func26 (by kernel_rfl) (by kernel_rfl) (Known.cons (.ofM s27 (by kernel_rfl)) Tryd.func27 (by kernel_rfl) (by kernel_rfl) (Known.cons (.ofT s28 (by kernel_rfl)) Tryd.func28 (by kernel_rfl) (by kernel_rfl) (Known.nil)))))))))) Tryd.func11 (by kernel_rfl) (Nat.le_of_ble_eq_true (by kernel_rfl)) rfl
/-! reredos/reredoskeep.LinesJoin -/
def sg3 : Sig := ⟨[⟨false, .bo, E_12⟩, ⟨false, .bo, E_12⟩], [⟨false, .own, .bool⟩]⟩
noncomputable def r3 (a : (List ((Int × T_7)) × List ((Int × T_7)))) : Option Bool :=
 Option.bind (r9 (2 : Int)) fun (y1 : T_8) =>
 Option.bind (r10 (y1, a.1, (12 : Int), true)) fun (y2 : List (T_3)) =>
 Option.bind (r10 (y1, a.2, (12 : Int), true)) fun (y3 : List (T_3)) =>
 bif roomOk false y3.length 1 120 then
 Option.bind (r11 (y1, y2)) fun (y4 : (List UInt8 × (Int × Int))) =>
 Option.bind (r11 (y1, app y3 [((5 : Int), ((0 : Int), ((0 : Int), ((0 : Int), ((0 : Int), ([], (((0 : Int), ((0 : Int), ((0 : Int), ((0 : Int), (0 : Int))))), ([] : List UInt8))))))))])) fun (y5 : (List UInt8 × (Int × Int))) =>
 Option.bind (
 bif roomOk true 0 y2.length 120 then
 
 bif roomOk false y2.length ((app y3 [((5 : Int), ((0 : Int), ((0 : Int), ((0 : Int), ((0 : Int), ([], (((0 : Int), ((0 : Int), ((0 : Int), ((0 : Int), (0 : Int))))), ([] : List UInt8))))))))]).length) 120 then
 Option.bind (r11 (y1, app y2 (app y3 [((5 : Int), ((0 : Int), ((0 : Int), ((0 : Int), ((0 : Int), ([], (((0 : Int), ((0 : Int), ((0 : Int), ((0 : Int), (0 : Int))))), ([] : List UInt8))))))))]))) fun (y12 : (List UInt8 × (Int × Int))) =>
 
 some (y12.1, y12.2.2)
 else
 none
 else
 none) fun (d14 : (List UInt8 × Int)) =>
 Option.bind (
 bif decide (y4.2.2 = (0 : Int)) then
 some (decide (y5.2.2 = (0 : Int)))
 else
 some false) fun (g15 : Bool) =>
 Option.bind (
 bif g15 then
 some (decide (d14.2 = (0 : Int)))
 else
 some false) fun (g16 : Bool) =>
 Option.bind (
 bif g16 then
 bif decide (y4.1.length + y5.1.length ≤ 9223372036854775807) then
 some (decide (d14.1 = (y4.1 ++ y5.1)))
 else
 none
 else
 some false) fun (g17 : Bool) =>
 bif g17 then
 some (decide ((0 : Int) < (↑y5.1.length : Int)))
 else
 some false
 else
 none
noncomputable def r3q : (List ((Int × T_7)) × List ((Int × T_7))) → Option Bool := fun a =>
 Option.bind (r9 (2 : Int)) fun (y1 : T_8) =>
 Option.bind (r10 (y1, a.1, (12 : Int), true)) fun (y2 : List (T_3)) =>
 Option.bind (r10 (y1, a.2, (12 : Int), true)) fun (y3 : List (T_3)) =>
 bif roomOk false y3.length 1 120 then
 Option.bind (r11 (y1, y2)) fun (y4 : (List UInt8 × (Int × Int))) =>
 Option.bind (r11 (y1, app y3 [((5 : Int), ((0 : Int), ((0 : Int), ((0 : Int), ((0 : Int), ([], (((0 : Int), ((0 : Int), ((0 : Int), ((0 : Int), (0 : Int))))), ([] : List UInt8))))))))])) fun (y5 : (List UInt8 × (Int × Int))) =>
 Option.bind (
 bif roomOk true 0 y2.length 120 then
 sameR (
 bif roomOk false y2.length ((app y3 [((5 : Int), ((0 : Int), ((0 : Int), ((0 : Int), ((0 : Int), ([], (((0 : Int), ((0 : Int), ((0 : Int), ((0 : Int), (0 : Int))))), ([] : List UInt8))))))))]).length) 120 then
 Option.bind (r11 (y1, app y2 (app y3 [((5 : Int), ((0 : Int), ((0 : Int), ((0 : Int), ((0 : Int), ([], (((0 : Int), ((0 : Int), ((0 : Int), ((0 : Int), (0 : Int))))), ([] : List UInt8))))))))]))) fun (y12 : (List UInt8 × (Int × Int))) =>
 sameR (
 some (y12.1, y12.2.2))
 (
 sameR (
 sameR (
 some (y12.1, y12.2.2))
 (
 sameR (
 some (y12.1, y12.2.2))
 (
 some (y12.1, y12.2.2))))
 (
 sameR (
 sameR (
 some (y12.1, y12.2.2))
 (
 some (y12.1, y12.2.2)))
 (
 sameR (
 some (y12.1, y12.2.2))
 (
 sameR (
 sameR (
 some (y12.1, y12.2.2))
 (
 some (y12.1, y12.2.2)))
 (
 sameR (
 some (y12.1, y12.2.2))
 (
 sameR (
 some (y12.1, y12.2.2))
 (
 some (y12.1, y12.2.2))))))))
 else
 none)
 (
 bif roomOk false y2.length ((app y3 [((5 : Int), ((0 : Int), ((0 : Int), ((0 : Int), ((0 : Int), ([], (((0 : Int), ((0 : Int), ((0 : Int), ((0 : Int), (0 : Int))))), ([] : List UInt8))))))))]).length) 120 then
 Option.bind (r11 (y1, app y2 (app y3 [((5 : Int), ((0 : Int), ((0 : Int), ((0 : Int), ((0 : Int), ([], (((0 : Int), ((0 : Int), ((0 : Int), ((0 : Int), (0 : Int))))), ([] : List UInt8))))))))]))) fun (y13 : (List UInt8 × (Int × Int))) =>
 sameR (
 some (y13.1, y13.2.2))
 (
 sameR (
 sameR (
 some (y13.1, y13.2.2))
 (
 sameR (
 some (y13.1, y13.2.2))
 (
 some (y13.1, y13.2.2))))
 (
 sameR (
 sameR (
 some (y13.1, y13.2.2))
 (
 some (y13.1, y13.2.2)))
 (
 sameR (
 some (y13.1, y13.2.2))
 (
 sameR (
 sameR (
 some (y13.1, y13.2.2))
 (
 some (y13.1, y13.2.2)))
 (
 sameR (
 some (y13.1, y13.2.2))
 (
 sameR (
 some (y13.1, y13.2.2))
 (
 some (y13.1, y13.2.2))))))))
 else
 none)
 else
 none) fun (d14 : (List UInt8 × Int)) =>
 Option.bind (
 bif decide (y4.2.2 = (0 : Int)) then
 some (decide (y5.2.2 = (0 : Int)))
 else
 some false) fun (g15 : Bool) =>
 Option.bind (
 bif g15 then
 some (decide (d14.2 = (0 : Int)))
 else
 some false) fun (g16 : Bool) =>
 Option.bind (
 bif g16 then
 bif decide (y4.1.length + y5.1.length ≤ 9223372036854775807) then
 some (decide (d14.1 = (y4.1 ++ y5.1)))
 else
 none
 else
 some false) fun (g17 : Bool) =>
 bif g17 then
 some (decide ((0 : Int) < (↑y5.1.length : Int)))
 else
 some false
 else
 none
theorem r3e : r3q = r3 := by unfold r3q r3; simp only [sameR_self]
def an3 : Ann := .two (.leaf) (.two (.leaf) (.two (.leaf) (.two (.leaf) (.two (.leaf) (.two (.leaf) (.two (.join [8, 10, 11, 13] [] [⟨.normal, [], [.tmp 14 (.str), .tmp 16 (.int .i64)]⟩] (.stages [0, 1, 2, 3, 8, 9])) (.two (.segs [(6, ([8, 11, 14, 16], ([], [.tmp 56 (.bool)]))), (4, ([8, 11, 14], ([], [.tmp 60 (.bool)]))), (7, ([11], ([], [.tmp 67 (.bool)])))]) (.leaf))))))))
theorem s3 : SoundF cx.P cx.G 3 sg3 r3 := by
  have e : denF cx [(9, ⟨sg9, r9⟩), (10, ⟨sg10, r10⟩), (11, ⟨sg11, r11⟩)] an3 Tryd.f3.ntmps (Tryd.f3.body.getD .skip) Tryd.f3.results.toList sg3 = r3q := by kernel_rfl
  rw [← r3e, ← e]
  exact sound_of_den (c := cx) (Known.cons (.ofF s9 (by kernel_rfl)) Tryd.func9 (by kernel_rfl) (by kernel_rfl) (Known.cons (.ofF s10 (by kernel_rfl)) Tryd.func10 (by kernel_rfl) (by kernel_rfl) (Known.cons (.ofF s11 (by kernel_rfl)) Tryd.func11 (by kernel_rfl) (by kernel_rfl) (Known.nil)))) Tryd.func3 (by kernel_rfl) (Nat.le_of_ble_eq_true (by kernel_rfl)) rfl
/-! reredos/reredoskeep.Lab -/
def sg29 : Sig := ⟨[⟨false, .bo, (.int .i64)⟩], [⟨true, .own, (.pair (.int .i64) (.int .i64))⟩]⟩
noncomputable def r29 (a : Int) : Option (Int × Int) :=
 Option.bind (r15 (a, (3 : Int))) fun (y1 : Int) =>
 Option.bind (r15 ((Go.IntKind.wrap .i64 (Int.tdiv a (3 : Int))), (4 : Int))) fun (y2 : Int) =>
 some (y1, y2)
def an29 : Ann := .two (.leaf) (.two (.leaf) (.leaf))
theorem s29 : SoundF cx.P cx.G 29 sg29 r29 := by
  have e : denF cx [(15, ⟨sg15, r15⟩)] an29 Tryd.f29.ntmps (Tryd.f29.body.getD .skip) Tryd.f29.results.toList sg29 = r29 := by kernel_rfl
  rw [← e]
  exact sound_of_den (c := cx) (Known.cons (.ofF s15 (by kernel_rfl)) Tryd.func15 (by kernel_rfl) (by kernel_rfl) (Known.nil)) Tryd.func29 (by kernel_rfl) (Nat.le_of_ble_eq_true (by kernel_rfl)) rfl
/-! reredos/reredoskeep.Config -/
noncomputable def r12_L0 (d30 : (Unit × (Int × T_8))) (y49 : (Int × Int)) (d50 : (Bool × Int)) : Option ((Bool × Int) ⊕ Bool) :=
 bif decide (d50.2 < (↑d30.2.2.2.1.length : Int)) then
 Option.bind (
 bif inB d50.2 d30.2.2.2.1.length then
 Option.bind (idxN d30.2.2.2.1 (Int.toNat d50.2)) fun (x53 : (Int × Int)) =>
 bif !(d50.1) then
 some (decide (x53.1 = y49.1) && (decide (x53.2 = y49.2) && true))
 else
 some true
 else
 none) fun (d54 : Bool) =>
 some (Sum.inl (d54, (Go.IntKind.wrap .i64 (d50.2 + (1 : Int)))))
 else
 some (Sum.inr d50.1)
noncomputable def r12_L1 (a : (Int × (List Int × Int))) (d30 : (Unit × (Int × T_8))) : Option ((Unit × (Int × T_8)) ⊕ (Unit × T_8)) :=
 Option.bind (
 bif decide (d30.2.1 < (↑a.2.1.length : Int)) then
 some (decide ((↑d30.2.2.2.1.length : Int) < (4 : Int)))
 else
 some false) fun (d31 : Bool) =>
 bif d31 then
 Option.bind (
 Option.bind (idxI a.2.1 d30.2.1) fun (b48 : Int) =>
 Option.bind (r29 b48) fun (y49 : (Int × Int)) =>
 Option.bind (loopR (r12_L0 d30 y49) (false, (0 : Int))) fun (q55 : Bool) =>
 bif !(q55) then
 bif roomOk false d30.2.2.2.1.length 1 16 then
 some ((), (d30.2.2.1, (app d30.2.2.2.1 [y49], d30.2.2.2.2)))
 else
 none
 else
 some ((), d30.2.2)) fun (d56 : (Unit × T_8)) =>
 some (Sum.inl ((), ((Go.IntKind.wrap .i64 (d30.2.1 + (1 : Int))), d56.2)))
 else
 some (Sum.inr ((), d30.2.2))
def sg12 : Sig := ⟨[⟨false, .bo, (.int .i64)⟩, ⟨false, .bo, (.sl (.int .i64))⟩, ⟨false, .bo, (.int .i64)⟩], [⟨true, .ro, (.pair (.int .i64) (.pair (.sl (.pair (.int .i64) (.int .i64))) (.int .i64)))⟩]⟩
noncomputable def r12 (a : (Int × (List Int × Int))) : Option T_8 :=
 Option.bind (r15 (a.1, (3 : Int))) fun (y1 : Int) =>
 Option.bind (r15 (a.2.2, (4 : Int))) fun (y2 : Int) =>
 Option.bind (loopR (r12_L1 a) ((), ((0 : Int), ((Go.IntKind.wrap .i64 ((1 : Int) + y1)), ([], (Go.IntKind.wrap .i64 ((1 : Int) + y2))))))) fun (q57 : (Unit × T_8)) =>
 Option.bind (
 bif decide ((↑q57.2.2.1.length : Int) = (0 : Int)) then
 some ((), (q57.2.1, ([((0 : Int), (0 : Int))], q57.2.2.2)))
 else
 some ((), q57.2)) fun (d58 : (Unit × T_8)) =>
 some d58.2
def an12 : Ann := .two (.leaf) (.two (.leaf) (.two (.two (.leaf) (.one (.loop [1, 6] [6] [] [.tmp 7 (.pt 7 [(0, 0)] 0 0 3), .tmp 8 (.int .i64), .box 7 [.int .i64, .sl .own (.pair (.int .i64) (.int .i64)), .int .i64]] [⟨.exit 0, [], [.tmp 7 (.pt 7 [(0, 0)] 0 0 3), .box 7 [.int .i64, .sl .own (.pair (.int .i64) (.int .i64)), .int .i64]]⟩] (.two (.two (.join [1, 6, 7, 8] [6, 7] [⟨.normal, [], [.tmp 29 (.bool)]⟩] (.leaf)) (.two (.leaf) (.leaf))) (.two (.join [1, 6, 8] [6] [⟨.normal, [], [.tmp 7 (.pt 7 [(0, 0)] 0 0 3), .box 7 [.int .i64, .sl .own (.pair (.int .i64) (.int .i64)), .int .i64]]⟩] (.one (.two (.leaf) (.two (.leaf) (.two (.two (.leaf) (.one (.loop [1, 6, 7, 8, 9, 38, 39] [6, 7, 9] [] [.tmp 10 (.bool), .tmp 40 (.int .i64)] [⟨.exit 2, [], [.tmp 10 (.bool)]⟩] (.two (.leaf) (.two (.two (.leaf) (.leaf)) (.two (.join [1, 6, 7, 8, 9, 38, 39, 40] [6, 7, 9] [⟨.normal, [], [.tmp 10 (.bool)]⟩] (.one (.two (.leaf) (.leaf)))) (.leaf))))))) (.two (.leaf) (.two (.leaf) (.leaf)))))))) (.leaf)))))) (.two (.join [6] [6] [⟨.normal, [], [.tmp 7 (.pt 7 [(0, 0)] 0 0 3), .box 7 [.int .i64, .sl .own (.pair (.int .i64) (.int .i64)), .int .i64]]⟩] (.two (.leaf) (.two (.leaf) (.leaf)))) (.two (.leaf) (.leaf)))))
theorem s12 : SoundF cx.P cx.G 12 sg12 r12 := by
  have e : denF cx [(15, ⟨sg15, r15⟩), (29, ⟨sg29, r29⟩)] an12 Tryd.f12.ntmps (Tryd.f12.body.getD .skip) Tryd.f12.results.toList sg12 = r12 := by kernel_rfl
  rw [← e]
  exact sound_of_den (c := cx) (Known.cons (.ofF s15 (by kernel_rfl)) Tryd.func15 (by kernel_rfl) (by kernel_rfl) (Known.cons (.ofF s29 (by kernel_rfl)) Tryd.func29 (by kernel_rfl) (by kernel_rfl) (Known.nil))) Tryd.func12 (by kernel_rfl) (Nat.le_of_ble_eq_true (by kernel_rfl)) rfl
/-! internal/stringslite.Index -/
def sg54 : Sig := ⟨[⟨false, .bo, .str⟩, ⟨false, .bo, .str⟩], [⟨false, .own, (.int .i64)⟩]⟩
noncomputable def r54 (a : (List UInt8 × List UInt8)) : Option Int := indexOneR a
theorem s54 : SoundF cx.P cx.G 54 sg54 r54 := indexOne_sound Tryd.stringslite_Index_one
/-! internal/stringslite.Cut -/
def sg42 : Sig := ⟨[⟨false, .bo, .str⟩, ⟨false, .bo, .str⟩], [⟨false, .own, .str⟩, ⟨false, .own, .str⟩, ⟨false, .own, .bool⟩]⟩
noncomputable def r42 (a : (List UInt8 × List UInt8)) : Option (List UInt8 × (List UInt8 × Bool)) :=
 Option.bind (r54 (a.1, a.2)) fun (y1 : Int) =>
 bif decide ((0 : Int) ≤ y1) then
 bif okB none (some y1) none a.1.length then
 bif okB (some (Go.IntKind.wrap .i64 (y1 + (↑a.2.length : Int)))) none none a.1.length then
 some ((List.take (Int.toNat y1) a.1), ((List.drop (Int.toNat (Go.IntKind.wrap .i64 (y1 + (↑a.2.length : Int)))) a.1), true))
 else
 none
 else
 none
 else
 some (a.1, (([] : List UInt8), false))
def an42 : Ann := .two (.leaf) (.two (.two (.leaf) (.two (.leaf) (.two (.two (.draw 10) (.leaf)) (.leaf)))) (.two (.leaf) (.leaf)))
theorem s42 : SoundF cx.P cx.G 42 sg42 r42 := by
  have e : denF cx [(54, ⟨sg54, r54⟩)] an42 Tryd.f42.ntmps (Tryd.f42.body.getD .skip) Tryd.f42.results.toList sg42 = r42 := by kernel_rfl
  rw [← e]
  exact sound_of_den (c := cx) (Known.cons (.ofF s54 (by kernel_rfl)) Tryd.func54 (by kernel_rfl) (by kernel_rfl) (Known.nil)) Tryd.func42 (by kernel_rfl) (Nat.le_of_ble_eq_true (by kernel_rfl)) rfl
/-! strings.Cut -/
def sg30 : Sig := ⟨[⟨false, .bo, .str⟩, ⟨false, .bo, .str⟩], [⟨false, .own, .str⟩, ⟨false, .own, .str⟩, ⟨false, .own, .bool⟩]⟩
noncomputable def r30 (a : (List UInt8 × List UInt8)) : Option (List UInt8 × (List UInt8 × Bool)) :=
 Option.bind (r42 (a.1, a.2)) fun (y1 : (List UInt8 × (List UInt8 × Bool))) =>
 some y1
def an30 : Ann := .two (.leaf) (.two (.leaf) (.leaf))
theorem s30 : SoundF cx.P cx.G 30 sg30 r30 := by
  have e : denF cx [(42, ⟨sg42, r42⟩)] an30 Tryd.f30.ntmps (Tryd.f30.body.getD .skip) Tryd.f30.results.toList sg30 = r30 := by kernel_rfl
  rw [← e]
  exact sound_of_den (c := cx) (Known.cons (.ofF s42 (by kernel_rfl)) Tryd.func42 (by kernel_rfl) (by kernel_rfl) (Known.nil)) Tryd.func30 (by kernel_rfl) (Nat.le_of_ble_eq_true (by kernel_rfl)) rfl
/-! strings.Count -/
def sg57 : Sig := ⟨[⟨false, .bo, .str⟩, ⟨false, .bo, .str⟩], [⟨false, .own, (.int .i64)⟩]⟩
noncomputable def r57 (a : (List UInt8 × List UInt8)) : Option Int := countByteR a
theorem s57 : SoundF cx.P cx.G 57 sg57 r57 := countByte_sound Tryd.strings_Count_one
/-! strings.Index -/
def sg58 : Sig := ⟨[⟨false, .bo, .str⟩, ⟨false, .bo, .str⟩], [⟨false, .own, (.int .i64)⟩]⟩
noncomputable def r58 (a : (List UInt8 × List UInt8)) : Option Int := indexOneR a
theorem s58 : SoundF cx.P cx.G 58 sg58 r58 := indexOne_sound Tryd.strings_Index_one
/-! strings.genSplit -/
noncomputable def r48_L0 (d4 : Int) (a : (List UInt8 × (List UInt8 × (Int × Int)))) (d8 : (List UInt8 × (Unit × (Int × List (List UInt8))))) : Option ((List UInt8 × (Unit × (Int × List (List UInt8)))) ⊕ (List UInt8 × (Unit × (Int × List (List UInt8))))) :=
 bif decide (d8.2.2.1 < (Go.IntKind.wrap .i64 ((min d4 (Go.IntKind.wrap .i64 ((↑a.1.length : Int) + (1 : Int)))) - (1 : Int)))) then
 Option.bind (r58 (d8.1, a.2.1)) fun (y9 : Int) =>
 bif decide (y9 < (0 : Int)) then
 some (Sum.inr (d8.1, ((), d8.2.2)))
 else
 bif okB none (some (Go.IntKind.wrap .i64 (y9 + a.2.2.1))) none d8.1.length then
 bif inB d8.2.2.1 d8.2.2.2.length then
 Option.bind (idxN d8.2.2.2 (Int.toNat d8.2.2.1)) fun (_ : List UInt8) =>
 bif okB (some (Go.IntKind.wrap .i64 (y9 + (↑a.2.1.length : Int)))) none none d8.1.length then
 some (Sum.inl ((List.drop (Int.toNat (Go.IntKind.wrap .i64 (y9 + (↑a.2.1.length : Int)))) d8.1), ((), ((Go.IntKind.wrap .i64 (d8.2.2.1 + (1 : Int))), List.set d8.2.2.2 (Int.toNat d8.2.2.1) (List.take (Int.toNat (Go.IntKind.wrap .i64 (y9 + a.2.2.1))) d8.1)))))
 else
 none
 else
 none
 else
 none
 else
 some (Sum.inr (d8.1, ((), d8.2.2)))
def sg48 : Sig := ⟨[⟨false, .bo, .str⟩, ⟨false, .bo, .str⟩, ⟨false, .bo, (.int .i64)⟩, ⟨false, .bo, (.int .i64)⟩], [⟨false, .own, (.sl .str)⟩]⟩
noncomputable def r48 (a : (List UInt8 × (List UInt8 × (Int × Int)))) : Option (List (List UInt8)) :=
 bif decide (a.2.2.2 = (0 : Int)) then
 some []
 else
 bif decide (a.2.1 = ([] : List UInt8)) then
 none
 else
 Option.bind (
 bif decide (a.2.2.2 < (0 : Int)) then
 Option.bind (r57 (a.1, a.2.1)) fun (y3 : Int) =>
 some (Go.IntKind.wrap .i64 (y3 + (1 : Int)))
 else
 some a.2.2.2) fun (d4 : Int) =>
 bif (decide (0 ≤ (min d4 (Go.IntKind.wrap .i64 ((↑a.1.length : Int) + (1 : Int))))) && (decide ((min d4 (Go.IntKind.wrap .i64 ((↑a.1.length : Int) + (1 : Int)))) ≤ (min d4 (Go.IntKind.wrap .i64 ((↑a.1.length : Int) + (1 : Int))))) && (decide ((16 : Int) * (min d4 (Go.IntKind.wrap .i64 ((↑a.1.length : Int) + (1 : Int)))) ≤ 281474976710656) && decide ((min d4 (Go.IntKind.wrap .i64 ((↑a.1.length : Int) + (1 : Int)))) ≤ 9223372036854775807)))) then
 Option.bind (loopR (r48_L0 d4 a) (a.1, ((), ((0 : Int), List.replicate (Int.toNat (min d4 (Go.IntKind.wrap .i64 ((↑a.1.length : Int) + (1 : Int))))) ([] : List UInt8))))) fun (q11 : (List UInt8 × (Unit × (Int × List (List UInt8))))) =>
 bif inB q11.2.2.1 q11.2.2.2.length then
 Option.bind (idxN q11.2.2.2 (Int.toNat q11.2.2.1)) fun (_ : List UInt8) =>
 bif okB none (some (Go.IntKind.wrap .i64 (q11.2.2.1 + (1 : Int)))) none ((List.set q11.2.2.2 (Int.toNat q11.2.2.1) q11.1).length) then
 some (midL (List.set q11.2.2.2 (Int.toNat q11.2.2.1) q11.1) 0 (Int.toNat (Go.IntKind.wrap .i64 (q11.2.2.1 + (1 : Int)))))
 else
 none
 else
 none
 else
 none
def an48 : Ann := .two (.leaf) (.two (.two (.leaf) (.two (.two (.leaf) (.leaf)) (.leaf))) (.two (.two (.leaf) (.two (.two (.leaf) .leaf) (.leaf))) (.two (.join [0, 1, 2] [] [⟨.normal, [], [.tmp 3 (.int .i64)]⟩] (.two (.leaf) (.two (.leaf) (.leaf)))) (.two (.leaf) (.two (.leaf) (.two (.leaf) (.two (.leaf) (.two (.one (.loop [1, 2, 3] [] [] [.tmp 0 (.str), .tmp 9 (.own 31 [(0, 0)] .str), .tmp 10 (.int .i64), .row 31 [.sl .own .str]] [⟨.exit 0, [], [.tmp 0 (.str), .tmp 9 (.own 31 [(0, 0)] .str), .tmp 10 (.int .i64), .row 31 [.sl .own .str]]⟩] (.two (.two (.leaf) (.two (.leaf) (.leaf))) (.one (.two (.leaf) (.two (.two (.leaf) (.two (.leaf) (.leaf))) (.two (.leaf) (.two (.leaf) (.leaf))))))))) (.two (.leaf) (.two (.leaf) (.leaf)))))))))))
theorem s48 : SoundF cx.P cx.G 48 sg48 r48 := by
  have e : denF cx [(57, ⟨sg57, r57⟩), (58, ⟨sg58, r58⟩)] an48 Tryd.f48.ntmps (Tryd.f48.body.getD .skip) Tryd.f48.results.toList sg48 = r48 := by kernel_rfl
  rw [← e]
  exact sound_of_den (c := cx) (Known.cons (.ofF s57 (by kernel_rfl)) Tryd.func57 (by kernel_rfl) (by kernel_rfl) (Known.cons (.ofF s58 (by kernel_rfl)) Tryd.func58 (by kernel_rfl) (by kernel_rfl) (Known.nil))) Tryd.func48 (by kernel_rfl) (Nat.le_of_ble_eq_true (by kernel_rfl)) rfl
/-! strings.Split -/
def sg33 : Sig := ⟨[⟨false, .bo, .str⟩, ⟨false, .bo, .str⟩], [⟨false, .own, (.sl .str)⟩]⟩
noncomputable def r33 (a : (List UInt8 × List UInt8)) : Option (List (List UInt8)) :=
 Option.bind (r48 (a.1, a.2, (0 : Int), (-1 : Int))) fun (y1 : List (List UInt8)) =>
 some y1
def an33 : Ann := .two (.leaf) (.two (.leaf) (.leaf))
theorem s33 : SoundF cx.P cx.G 33 sg33 r33 := by
  have e : denF cx [(48, ⟨sg48, r48⟩)] an33 Tryd.f33.ntmps (Tryd.f33.body.getD .skip) Tryd.f33.results.toList sg33 = r33 := by kernel_rfl
  rw [← e]
  exact sound_of_den (c := cx) (Known.cons (.ofF s48 (by kernel_rfl)) Tryd.func48 (by kernel_rfl) (by kernel_rfl) (Known.nil)) Tryd.func33 (by kernel_rfl) (Nat.le_of_ble_eq_true (by kernel_rfl)) rfl
/-! slices.Index[[]string,string] -/
noncomputable def r43_L0 (a : (List (List UInt8) × List UInt8)) (d1 : Int) : Option (Int ⊕ (Unit ⊕ Int)) :=
 bif decide (d1 < (↑a.1.length : Int)) then
 Option.bind (idxI a.1 d1) fun (b2 : List UInt8) =>
 bif decide (a.2 = b2) then
 some (Sum.inr (Sum.inr d1))
 else
 some (Sum.inl (Go.IntKind.wrap .i64 (d1 + (1 : Int))))
 else
 some (Sum.inr (Sum.inl ()))
def sg43 : Sig := ⟨[⟨false, .bo, (.sl .str)⟩, ⟨false, .bo, .str⟩], [⟨false, .own, (.int .i64)⟩]⟩
noncomputable def r43 (a : (List (List UInt8) × List UInt8)) : Option Int :=
 Option.bind (loopR (r43_L0 a) (0 : Int)) fun (q3 : (Unit ⊕ Int)) =>
 Sum.elim (fun (_ : Unit) =>
 some (-1 : Int))
 (fun (v5 : Int) =>
 some v5) q3
def an43 : Ann := .two (.leaf) (.two (.two (.leaf) (.one (.loop [0, 1, 7] [] [] [.tmp 8 (.int .i64)] [⟨.exit 0, [], []⟩, ⟨.ret, [], [.tmp 4 (.int .i64)]⟩] (.two (.leaf) (.two (.two (.leaf) (.leaf)) (.two (.one (.two (.leaf) (.two (.leaf) (.two (.two (.leaf) (.leaf)) (.leaf))))) (.leaf))))))) (.two (.leaf) (.leaf)))
theorem s43 : SoundF cx.P cx.G 43 sg43 r43 := by
  have e : denF cx [] an43 Tryd.f43.ntmps (Tryd.f43.body.getD .skip) Tryd.f43.results.toList sg43 = r43 := by kernel_rfl
  rw [← e]
  exact sound_of_den (c := cx) (Known.nil) Tryd.func43 (by kernel_rfl) (Nat.le_of_ble_eq_true (by kernel_rfl)) rfl
/-! strconv.Atoi -/
def sg49 : Sig := ⟨[⟨false, .bo, .str⟩], [⟨false, .own, (.int .i64)⟩, ⟨false, .own, .ifc⟩]⟩
noncomputable def r49 (a : List UInt8) : Option (Int × Bool) := atoiR a
theorem s49 : SoundF cx.P cx.G 49 sg49 r49 := atoi_sound (g1 := 4) (g2 := 5) Tryd.strconv_Atoi_ok Tryd.strconv_Atoi_syntax Tryd.strconv_Atoi_range (by kernel_rfl) (by kernel_rfl)
/-! strings.IndexByte -/
def sg55 : Sig := ⟨[⟨false, .bo, .str⟩, ⟨false, .bo, (.int .u8)⟩], [⟨false, .own, (.int .i64)⟩]⟩
noncomputable def r55 (a : (List UInt8 × Int)) : Option Int := indexByteR a
theorem s55 : SoundF cx.P cx.G 55 sg55 r55 := indexByte_sound Tryd.strings_IndexByte
/-! reredos/lines.one -/
noncomputable def r31_L0 (d1018 : T_0) : Option (T_0 ⊕ T_0) :=
 Option.bind (
 bif decide ((0 : Int) < (↑d1018.2.2.1.1.length : Int)) then
 some !(d1018.2.2.1.2)
 else
 some false) fun (d1019 : Bool) =>
 bif d1019 then
 Option.bind (
 
 Option.bind (
 bif decide ((↑d1018.2.2.1.1.length : Int) = (0 : Int)) then
 some ((), ((), (([] : List UInt8), (d1018.2.2.1.1, true))))
 else
 bif inB (0 : Int) d1018.2.2.1.1.length then
 Option.bind (idxN d1018.2.2.1.1 0) fun (x1046 : List UInt8) =>
 bif okB (some (1 : Int)) none none d1018.2.2.1.1.length then
 some ((), ((), (x1046, (midL d1018.2.2.1.1 1 (d1018.2.2.1.1.length - 1), d1018.2.2.1.2))))
 else
 none
 else
 none) fun (d1047 : T_5) =>
 Option.bind (r49 d1047.2.2.1) fun (y1048 : (Int × Bool)) =>
 Option.bind (
 bif !(d1047.2.2.2.2) then
 some ((), !(y1048.2))
 else
 some ((), true)) fun (g1049 : (Unit × Bool)) =>
 Option.bind (
 bif !(g1049.2) then
 Option.bind (r24 y1048.1) fun (y1050 : List UInt8) =>
 some (!(decide (y1050 = d1047.2.2.1)))
 else
 some true) fun (g1051 : Bool) =>
 bif roomOk false d1018.2.2.2.2.2.2.2.2.1.length 1 8 then
 some ((), ((), ((d1047.2.2.2.1, g1051), (d1018.2.2.2.1, (d1018.2.2.2.2.1, (d1018.2.2.2.2.2.1, (d1018.2.2.2.2.2.2.1, (d1018.2.2.2.2.2.2.2.1, (app d1018.2.2.2.2.2.2.2.2.1 [y1048.1], d1018.2.2.2.2.2.2.2.2.2)))))))))
 else
 none) fun (d1068 : T_0) =>
 some (Sum.inl ((), ((), d1068.2.2)))
 else
 some (Sum.inr ((), ((), d1018.2.2)))
noncomputable def r31_L1 (d1338 : T_5) (d1363 : (Unit × (Unit × (Unit × (Int × ((List (List UInt8) × Bool) × List Int)))))) : Option ((Unit × (Unit × (Unit × (Int × ((List (List UInt8) × Bool) × List Int))))) ⊕ ((Unit × (Unit × ((List (List UInt8) × Bool) × List Int))) ⊕ T_6)) :=
 bif decide (d1363.2.2.2.1 < (↑d1338.2.2.1.length : Int)) then
 Option.bind (idxI d1338.2.2.1 d1363.2.2.2.1) fun (b1368 : UInt8) =>
 Option.bind (r55 (([48, 49, 50, 51, 52, 53, 54, 55, 56, 57, 97, 98, 99, 100, 101, 102] : List UInt8), (↑(UInt8.toNat b1368) : Int))) fun (y1369 : Int) =>
 Option.bind (idxI d1338.2.2.1 (Go.IntKind.wrap .i64 (d1363.2.2.2.1 + (1 : Int)))) fun (b1370 : UInt8) =>
 Option.bind (r55 (([48, 49, 50, 51, 52, 53, 54, 55, 56, 57, 97, 98, 99, 100, 101, 102] : List UInt8), (↑(UInt8.toNat b1370) : Int))) fun (y1371 : Int) =>
 Option.bind (
 bif !(decide (y1369 < (0 : Int))) then
 some (decide (y1371 < (0 : Int)))
 else
 some true) fun (d1372 : Bool) =>
 bif d1372 then
 some (Sum.inr (Sum.inr ((), (([] : List UInt8), (d1363.2.2.2.2.1.1, true)))))
 else
 bif roomOk false d1363.2.2.2.2.2.length 1 1 then
 some (Sum.inl ((), ((), ((), ((Go.IntKind.wrap .i64 (d1363.2.2.2.1 + (2 : Int))), (d1363.2.2.2.2.1, app d1363.2.2.2.2.2 [(Go.IntKind.wrap .u8 (Go.bits .or .i64 (Go.IntKind.wrap .i64 (y1369 * 2 ^ 4)) y1371))]))))))
 else
 none
 else
 some (Sum.inr (Sum.inl ((), ((), d1363.2.2.2.2))))
noncomputable def r31_L0q : T_0 → Option (T_0 ⊕ T_0) := fun d1018 =>
 Option.bind (
 bif decide ((0 : Int) < (↑d1018.2.2.1.1.length : Int)) then
 some !(d1018.2.2.1.2)
 else
 some false) fun (d1019 : Bool) =>
 bif d1019 then
 Option.bind (
 sameR (
 Option.bind (
 bif decide ((↑d1018.2.2.1.1.length : Int) = (0 : Int)) then
 some ((), ((), (([] : List UInt8), (d1018.2.2.1.1, true))))
 else
 bif inB (0 : Int) d1018.2.2.1.1.length then
 Option.bind (idxN d1018.2.2.1.1 0) fun (x1046 : List UInt8) =>
 bif okB (some (1 : Int)) none none d1018.2.2.1.1.length then
 some ((), ((), (x1046, (midL d1018.2.2.1.1 1 (d1018.2.2.1.1.length - 1), d1018.2.2.1.2))))
 else
 none
 else
 none) fun (d1047 : T_5) =>
 Option.bind (r49 d1047.2.2.1) fun (y1048 : (Int × Bool)) =>
 Option.bind (
 bif !(d1047.2.2.2.2) then
 some ((), !(y1048.2))
 else
 some ((), true)) fun (g1049 : (Unit × Bool)) =>
 Option.bind (
 bif !(g1049.2) then
 Option.bind (r24 y1048.1) fun (y1050 : List UInt8) =>
 some (!(decide (y1050 = d1047.2.2.1)))
 else
 some true) fun (g1051 : Bool) =>
 bif roomOk false d1018.2.2.2.2.2.2.2.2.1.length 1 8 then
 some ((), ((), ((d1047.2.2.2.1, g1051), (d1018.2.2.2.1, (d1018.2.2.2.2.1, (d1018.2.2.2.2.2.1, (d1018.2.2.2.2.2.2.1, (d1018.2.2.2.2.2.2.2.1, (app d1018.2.2.2.2.2.2.2.2.1 [y1048.1], d1018.2.2.2.2.2.2.2.2.2)))))))))
 else
 none)
 (
 sameR (
 Option.bind (
 bif decide ((↑d1018.2.2.1.1.length : Int) = (0 : Int)) then
 some ((), ((), (([] : List UInt8), (d1018.2.2.1.1, true))))
 else
 bif inB (0 : Int) d1018.2.2.1.1.length then
 Option.bind (idxN d1018.2.2.1.1 0) fun (x1054 : List UInt8) =>
 bif okB (some (1 : Int)) none none d1018.2.2.1.1.length then
 some ((), ((), (x1054, (midL d1018.2.2.1.1 1 (d1018.2.2.1.1.length - 1), d1018.2.2.1.2))))
 else
 none
 else
 none) fun (d1055 : T_5) =>
 Option.bind (r49 d1055.2.2.1) fun (y1056 : (Int × Bool)) =>
 Option.bind (
 bif !(d1055.2.2.2.2) then
 some ((), !(y1056.2))
 else
 some ((), true)) fun (g1057 : (Unit × Bool)) =>
 Option.bind (
 bif !(g1057.2) then
 Option.bind (r24 y1056.1) fun (y1058 : List UInt8) =>
 some (!(decide (y1058 = d1055.2.2.1)))
 else
 some true) fun (g1059 : Bool) =>
 sameR (
 bif roomOk false d1018.2.2.2.2.2.2.2.2.1.length 1 8 then
 some ((), ((), ((d1055.2.2.2.1, g1059), (d1018.2.2.2.1, (d1018.2.2.2.2.1, (d1018.2.2.2.2.2.1, (d1018.2.2.2.2.2.2.1, (d1018.2.2.2.2.2.2.2.1, (app d1018.2.2.2.2.2.2.2.2.1 [y1056.1], d1018.2.2.2.2.2.2.2.2.2)))))))))
 else
 none)
 (
 bif roomOk false d1018.2.2.2.2.2.2.2.2.1.length 1 8 then
 some ((), ((), ((d1055.2.2.2.1, g1059), (d1018.2.2.2.1, (d1018.2.2.2.2.1, (d1018.2.2.2.2.2.1, (d1018.2.2.2.2.2.2.1, (d1018.2.2.2.2.2.2.2.1, (app d1018.2.2.2.2.2.2.2.2.1 [y1056.1], d1018.2.2.2.2.2.2.2.2.2)))))))))
 else
 none))
 (
 Option.bind (
 bif decide ((↑d1018.2.2.1.1.length : Int) = (0 : Int)) then
 some ((), ((), (([] : List UInt8), (d1018.2.2.1.1, true))))
 else
 bif inB (0 : Int) d1018.2.2.1.1.length then
 Option.bind (idxN d1018.2.2.1.1 0) fun (x1062 : List UInt8) =>
 bif okB (some (1 : Int)) none none d1018.2.2.1.1.length then
 some ((), ((), (x1062, (midL d1018.2.2.1.1 1 (d1018.2.2.1.1.length - 1), d1018.2.2.1.2))))
 else
 none
 else
 none) fun (d1063 : T_5) =>
 Option.bind (r49 d1063.2.2.1) fun (y1064 : (Int × Bool)) =>
 Option.bind (
 bif !(d1063.2.2.2.2) then
 some ((), !(y1064.2))
 else
 some ((), true)) fun (g1065 : (Unit × Bool)) =>
 Option.bind (
 bif !(g1065.2) then
 Option.bind (r24 y1064.1) fun (y1066 : List UInt8) =>
 some (!(decide (y1066 = d1063.2.2.1)))
 else
 some true) fun (g1067 : Bool) =>
 sameR (
 bif roomOk false d1018.2.2.2.2.2.2.2.2.1.length 1 8 then
 some ((), ((), ((d1063.2.2.2.1, g1067), (d1018.2.2.2.1, (d1018.2.2.2.2.1, (d1018.2.2.2.2.2.1, (d1018.2.2.2.2.2.2.1, (d1018.2.2.2.2.2.2.2.1, (app d1018.2.2.2.2.2.2.2.2.1 [y1064.1], d1018.2.2.2.2.2.2.2.2.2)))))))))
 else
 none)
 (
 sameR (
 bif roomOk false d1018.2.2.2.2.2.2.2.2.1.length 1 8 then
 some ((), ((), ((d1063.2.2.2.1, g1067), (d1018.2.2.2.1, (d1018.2.2.2.2.1, (d1018.2.2.2.2.2.1, (d1018.2.2.2.2.2.2.1, (d1018.2.2.2.2.2.2.2.1, (app d1018.2.2.2.2.2.2.2.2.1 [y1064.1], d1018.2.2.2.2.2.2.2.2.2)))))))))
 else
 none)
 (
 bif roomOk false d1018.2.2.2.2.2.2.2.2.1.length 1 8 then
 some ((), ((), ((d1063.2.2.2.1, g1067), (d1018.2.2.2.1, (d1018.2.2.2.2.1, (d1018.2.2.2.2.2.1, (d1018.2.2.2.2.2.2.1, (d1018.2.2.2.2.2.2.2.1, (app d1018.2.2.2.2.2.2.2.2.1 [y1064.1], d1018.2.2.2.2.2.2.2.2.2)))))))))
 else
 none))))) fun (d1068 : T_0) =>
 some (Sum.inl ((), ((), d1068.2.2)))
 else
 some (Sum.inr ((), ((), d1018.2.2)))
theorem r31_L0e : r31_L0q = r31_L0 := by unfold r31_L0q r31_L0; simp only [sameR_self]
noncomputable def r31_L1q (d1338 : T_5) : (Unit × (Unit × (Unit × (Int × ((List (List UInt8) × Bool) × List Int))))) → Option ((Unit × (Unit × (Unit × (Int × ((List (List UInt8) × Bool) × List Int))))) ⊕ ((Unit × (Unit × ((List (List UInt8) × Bool) × List Int))) ⊕ T_6)) := fun d1363 =>
 bif decide (d1363.2.2.2.1 < (↑d1338.2.2.1.length : Int)) then
 Option.bind (idxI d1338.2.2.1 d1363.2.2.2.1) fun (b1368 : UInt8) =>
 Option.bind (r55 (([48, 49, 50, 51, 52, 53, 54, 55, 56, 57, 97, 98, 99, 100, 101, 102] : List UInt8), (↑(UInt8.toNat b1368) : Int))) fun (y1369 : Int) =>
 Option.bind (idxI d1338.2.2.1 (Go.IntKind.wrap .i64 (d1363.2.2.2.1 + (1 : Int)))) fun (b1370 : UInt8) =>
 Option.bind (r55 (([48, 49, 50, 51, 52, 53, 54, 55, 56, 57, 97, 98, 99, 100, 101, 102] : List UInt8), (↑(UInt8.toNat b1370) : Int))) fun (y1371 : Int) =>
 Option.bind (
 bif !(decide (y1369 < (0 : Int))) then
 some (decide (y1371 < (0 : Int)))
 else
 some true) fun (d1372 : Bool) =>
 bif d1372 then
 some (Sum.inr (Sum.inr ((), (([] : List UInt8), (d1363.2.2.2.2.1.1, true)))))
 else
 bif roomOk false d1363.2.2.2.2.2.length 1 1 then
 some (Sum.inl ((), ((), ((), ((Go.IntKind.wrap .i64 (d1363.2.2.2.1 + (2 : Int))), (d1363.2.2.2.2.1, app d1363.2.2.2.2.2 [(Go.IntKind.wrap .u8 (Go.bits .or .i64 (Go.IntKind.wrap .i64 (y1369 * 2 ^ 4)) y1371))]))))))
 else
 none
 else
 some (Sum.inr (Sum.inl ((), ((), d1363.2.2.2.2))))
theorem r31_L1e (d1338 : T_5) : r31_L1q d1338 = r31_L1 d1338 := by unfold r31_L1q r31_L1; rfl
def sg31 : Sig := ⟨[⟨false, .bo, .str⟩], [⟨true, .ro, E_11⟩, ⟨false, .own, .bool⟩]⟩
noncomputable def r31 (a : List UInt8) : Option (T_3 × Bool) :=
 Option.bind (r33 (a, ([32] : List UInt8))) fun (y1 : List (List UInt8)) =>
 Option.bind (
 
 Option.bind (
 bif decide ((↑y1.length : Int) = (0 : Int)) then
 some ((), (([] : List UInt8), (y1, true)))
 else
 bif inB (0 : Int) y1.length then
 Option.bind (idxN y1 0) fun (x26 : List UInt8) =>
 bif okB (some (1 : Int)) none none y1.length then
 some ((), (x26, (midL y1 1 (y1.length - 1), false)))
 else
 none
 else
 none) fun (d27 : T_6) =>
 Option.bind (r43 (List.drop 1 tab0, d27.2.1)) fun (y28 : Int) =>
 some ((), ((), (d27.2.2, ((Go.IntKind.wrap .i64 (y28 + (1 : Int))), ((0 : Int), ((0 : Int), ((0 : Int), ((0 : Int), ([], ((0 : Int), ((0 : Int), ((0 : Int), ((0 : Int), ((0 : Int), ([] : List UInt8)))))))))))))))) fun (d46 : T_0) =>
 bif decide (d46.2.2.2.1 = (0 : Int)) then
 some ((d46.2.2.2.1, (d46.2.2.2.2.1, (d46.2.2.2.2.2.1, (d46.2.2.2.2.2.2.1, (d46.2.2.2.2.2.2.2.1, (d46.2.2.2.2.2.2.2.2.1, ((d46.2.2.2.2.2.2.2.2.2.1, (d46.2.2.2.2.2.2.2.2.2.2.1, (d46.2.2.2.2.2.2.2.2.2.2.2.1, (d46.2.2.2.2.2.2.2.2.2.2.2.2.1, d46.2.2.2.2.2.2.2.2.2.2.2.2.2.1)))), d46.2.2.2.2.2.2.2.2.2.2.2.2.2.2))))))), false)
 else
 Option.bind (
 bif !(decide (d46.2.2.2.1 = (5 : Int))) then
 Option.bind (
 bif decide ((↑d46.2.2.1.1.length : Int) = (0 : Int)) then
 some ((), ((), (([] : List UInt8), (d46.2.2.1.1, true))))
 else
 bif inB (0 : Int) d46.2.2.1.1.length then
 Option.bind (idxN d46.2.2.1.1 0) fun (x65 : List UInt8) =>
 bif okB (some (1 : Int)) none none d46.2.2.1.1.length then
 some ((), ((), (x65, (midL d46.2.2.1.1 1 (d46.2.2.1.1.length - 1), d46.2.2.1.2))))
 else
 none
 else
 none) fun (d66 : T_5) =>
 Option.bind (r49 d66.2.2.1) fun (y67 : (Int × Bool)) =>
 Option.bind (
 bif !(d66.2.2.2.2) then
 some ((), !(y67.2))
 else
 some ((), true)) fun (g68 : (Unit × Bool)) =>
 Option.bind (
 bif !(g68.2) then
 Option.bind (r24 y67.1) fun (y69 : List UInt8) =>
 some (!(decide (y69 = d66.2.2.1)))
 else
 some true) fun (g70 : Bool) =>
 some ((), ((), ((d66.2.2.2.1, g70), (d46.2.2.2.1, (y67.1, d46.2.2.2.2.2)))))
 else
 some ((), ((), d46.2.2))) fun (d71 : T_0) =>
 Option.bind (
 Option.bind (
 bif decide (d71.2.2.2.1 = (2 : Int)) then
 some (decide (d71.2.2.2.1 = (2 : Int)))
 else
 bif decide (d71.2.2.2.1 = (3 : Int)) then
 some (decide (d71.2.2.2.1 = (3 : Int)))
 else
 some (decide (d71.2.2.2.1 = (4 : Int)))) fun (d942 : Bool) =>
 bif d942 then
 Option.bind (
 bif decide ((↑d71.2.2.1.1.length : Int) = (0 : Int)) then
 some ((), ((), (([] : List UInt8), (d71.2.2.1.1, true))))
 else
 bif inB (0 : Int) d71.2.2.1.1.length then
 Option.bind (idxN d71.2.2.1.1 0) fun (x945 : List UInt8) =>
 bif okB (some (1 : Int)) none none d71.2.2.1.1.length then
 some ((), ((), (x945, (midL d71.2.2.1.1 1 (d71.2.2.1.1.length - 1), d71.2.2.1.2))))
 else
 none
 else
 none) fun (d946 : T_5) =>
 Option.bind (r49 d946.2.2.1) fun (y947 : (Int × Bool)) =>
 Option.bind (
 bif !(d946.2.2.2.2) then
 some ((), !(y947.2))
 else
 some ((), true)) fun (g948 : (Unit × Bool)) =>
 Option.bind (
 bif !(g948.2) then
 Option.bind (r24 y947.1) fun (y949 : List UInt8) =>
 some (!(decide (y949 = d946.2.2.1)))
 else
 some true) fun (g950 : Bool) =>
 Option.bind (
 bif decide ((↑d946.2.2.2.1.length : Int) = (0 : Int)) then
 some ((), ((), (([] : List UInt8), (d946.2.2.2.1, true))))
 else
 bif inB (0 : Int) d946.2.2.2.1.length then
 Option.bind (idxN d946.2.2.2.1 0) fun (x953 : List UInt8) =>
 bif okB (some (1 : Int)) none none d946.2.2.2.1.length then
 some ((), ((), (x953, (midL d946.2.2.2.1 1 (d946.2.2.2.1.length - 1), g950))))
 else
 none
 else
 none) fun (d954 : T_5) =>
 Option.bind (r49 d954.2.2.1) fun (y955 : (Int × Bool)) =>
 Option.bind (
 bif !(d954.2.2.2.2) then
 some ((), !(y955.2))
 else
 some ((), true)) fun (g956 : (Unit × Bool)) =>
 Option.bind (
 bif !(g956.2) then
 Option.bind (r24 y955.1) fun (y957 : List UInt8) =>
 some (!(decide (y957 = d954.2.2.1)))
 else
 some true) fun (g958 : Bool) =>
 Option.bind (
 bif decide ((↑d954.2.2.2.1.length : Int) = (0 : Int)) then
 some ((), ((), (([] : List UInt8), (d954.2.2.2.1, true))))
 else
 bif inB (0 : Int) d954.2.2.2.1.length then
 Option.bind (idxN d954.2.2.2.1 0) fun (x961 : List UInt8) =>
 bif okB (some (1 : Int)) none none d954.2.2.2.1.length then
 some ((), ((), (x961, (midL d954.2.2.2.1 1 (d954.2.2.2.1.length - 1), g958))))
 else
 none
 else
 none) fun (d962 : T_5) =>
 Option.bind (r49 d962.2.2.1) fun (y963 : (Int × Bool)) =>
 Option.bind (
 bif !(d962.2.2.2.2) then
 some ((), !(y963.2))
 else
 some ((), true)) fun (g964 : (Unit × Bool)) =>
 Option.bind (
 bif !(g964.2) then
 Option.bind (r24 y963.1) fun (y965 : List UInt8) =>
 some (!(decide (y965 = d962.2.2.1)))
 else
 some true) fun (g966 : Bool) =>
 some ((), ((), ((d962.2.2.2.1, g966), (d71.2.2.2.1, (d71.2.2.2.2.1, (y947.1, (y955.1, (y963.1, d71.2.2.2.2.2.2.2.2))))))))
 else
 bif decide (d71.2.2.2.1 = (6 : Int)) then
 Option.bind (loopR r31_L0 ((), ((), d71.2.2))) fun (q1069 : T_0) =>
 some ((), ((), q1069.2.2))
 else
 bif decide (d71.2.2.2.1 = (1 : Int)) then
 Option.bind (
 bif decide ((↑d71.2.2.1.1.length : Int) = (0 : Int)) then
 some ((), ((), (([] : List UInt8), (d71.2.2.1.1, true))))
 else
 bif inB (0 : Int) d71.2.2.1.1.length then
 Option.bind (idxN d71.2.2.1.1 0) fun (x1072 : List UInt8) =>
 bif okB (some (1 : Int)) none none d71.2.2.1.1.length then
 some ((), ((), (x1072, (midL d71.2.2.1.1 1 (d71.2.2.1.1.length - 1), d71.2.2.1.2))))
 else
 none
 else
 none) fun (d1073 : T_5) =>
 Option.bind (r49 d1073.2.2.1) fun (y1074 : (Int × Bool)) =>
 Option.bind (
 bif !(d1073.2.2.2.2) then
 some ((), !(y1074.2))
 else
 some ((), true)) fun (g1075 : (Unit × Bool)) =>
 Option.bind (
 bif !(g1075.2) then
 Option.bind (r24 y1074.1) fun (y1076 : List UInt8) =>
 some (!(decide (y1076 = d1073.2.2.1)))
 else
 some true) fun (g1077 : Bool) =>
 Option.bind (
 
 Option.bind (
 bif decide ((↑d1073.2.2.2.1.length : Int) = (0 : Int)) then
 some ((), ((), (([] : List UInt8), (d1073.2.2.2.1, true))))
 else
 bif inB (0 : Int) d1073.2.2.2.1.length then
 Option.bind (idxN d1073.2.2.2.1 0) fun (x1102 : List UInt8) =>
 bif okB (some (1 : Int)) none none d1073.2.2.2.1.length then
 some ((), ((), (x1102, (midL d1073.2.2.2.1 1 (d1073.2.2.2.1.length - 1), g1077))))
 else
 none
 else
 none) fun (d1103 : T_5) =>
 Option.bind (r43 (List.drop 1 tab1, d1103.2.2.1)) fun (y1104 : Int) =>
 some ((), ((), ((), (d1103.2.2.2, ((Go.IntKind.wrap .i64 (y1104 + (1 : Int))), ((0 : Int), ((0 : Int), ((0 : Int), (0 : Int)))))))))) fun (d1122 : (Unit × (Unit × (Unit × ((List (List UInt8) × Bool) × T_7))))) =>
 Option.bind (
 bif decide ((1 : Int) < d1122.2.2.2.2.1) then
 Option.bind (
 bif decide ((↑d1122.2.2.2.1.1.length : Int) = (0 : Int)) then
 some ((), ((), ((), (([] : List UInt8), (d1122.2.2.2.1.1, true)))))
 else
 bif inB (0 : Int) d1122.2.2.2.1.1.length then
 Option.bind (idxN d1122.2.2.2.1.1 0) fun (x1141 : List UInt8) =>
 bif okB (some (1 : Int)) none none d1122.2.2.2.1.1.length then
 some ((), ((), ((), (x1141, (midL d1122.2.2.2.1.1 1 (d1122.2.2.2.1.1.length - 1), d1122.2.2.2.1.2)))))
 else
 none
 else
 none) fun (d1142 : (Unit × T_5)) =>
 Option.bind (r49 d1142.2.2.2.1) fun (y1143 : (Int × Bool)) =>
 Option.bind (
 bif !(d1142.2.2.2.2.2) then
 some ((), !(y1143.2))
 else
 some ((), true)) fun (g1144 : (Unit × Bool)) =>
 Option.bind (
 bif !(g1144.2) then
 Option.bind (r24 y1143.1) fun (y1145 : List UInt8) =>
 some (!(decide (y1145 = d1142.2.2.2.1)))
 else
 some true) fun (g1146 : Bool) =>
 some ((), ((), ((), ((d1142.2.2.2.2.1, g1146), (d1122.2.2.2.2.1, (y1143.1, d1122.2.2.2.2.2.2))))))
 else
 some ((), ((), ((), d1122.2.2.2)))) fun (d1147 : (Unit × (Unit × (Unit × ((List (List UInt8) × Bool) × T_7))))) =>
 Option.bind (
 bif decide (d1147.2.2.2.2.1 = (0 : Int)) then
 some ((), ((), ((d1147.2.2.2.1.1, true), d1147.2.2.2.2)))
 else
 bif decide (d1147.2.2.2.2.1 = (2 : Int)) then
 Option.bind (
 bif decide ((↑d1147.2.2.2.1.1.length : Int) = (0 : Int)) then
 some ((), ((), ((), (([] : List UInt8), (d1147.2.2.2.1.1, true)))))
 else
 bif inB (0 : Int) d1147.2.2.2.1.1.length then
 Option.bind (idxN d1147.2.2.2.1.1 0) fun (x1214 : List UInt8) =>
 bif okB (some (1 : Int)) none none d1147.2.2.2.1.1.length then
 some ((), ((), ((), (x1214, (midL d1147.2.2.2.1.1 1 (d1147.2.2.2.1.1.length - 1), d1147.2.2.2.1.2)))))
 else
 none
 else
 none) fun (d1215 : (Unit × T_5)) =>
 Option.bind (r49 d1215.2.2.2.1) fun (y1216 : (Int × Bool)) =>
 Option.bind (
 bif !(d1215.2.2.2.2.2) then
 some ((), !(y1216.2))
 else
 some ((), true)) fun (g1217 : (Unit × Bool)) =>
 Option.bind (
 bif !(g1217.2) then
 Option.bind (r24 y1216.1) fun (y1218 : List UInt8) =>
 some (!(decide (y1218 = d1215.2.2.2.1)))
 else
 some true) fun (g1219 : Bool) =>
 Option.bind (
 bif decide ((↑d1215.2.2.2.2.1.length : Int) = (0 : Int)) then
 some ((), ((), (([] : List UInt8), (d1215.2.2.2.2.1, true))))
 else
 bif inB (0 : Int) d1215.2.2.2.2.1.length then
 Option.bind (idxN d1215.2.2.2.2.1 0) fun (x1222 : List UInt8) =>
 bif okB (some (1 : Int)) none none d1215.2.2.2.2.1.length then
 some ((), ((), (x1222, (midL d1215.2.2.2.2.1 1 (d1215.2.2.2.2.1.length - 1), g1219))))
 else
 none
 else
 none) fun (d1223 : T_5) =>
 Option.bind (r49 d1223.2.2.1) fun (y1224 : (Int × Bool)) =>
 Option.bind (
 bif !(d1223.2.2.2.2) then
 some ((), !(y1224.2))
 else
 some ((), true)) fun (g1225 : (Unit × Bool)) =>
 Option.bind (
 bif !(g1225.2) then
 Option.bind (r24 y1224.1) fun (y1226 : List UInt8) =>
 some (!(decide (y1226 = d1223.2.2.1)))
 else
 some true) fun (g1227 : Bool) =>
 some ((), ((), ((d1223.2.2.2.1, g1227), (d1147.2.2.2.2.1, (d1147.2.2.2.2.2.1, (y1216.1, (y1224.1, d1147.2.2.2.2.2.2.2.2)))))))
 else
 bif decide (d1147.2.2.2.2.1 = (3 : Int)) then
 Option.bind (
 bif decide ((↑d1147.2.2.2.1.1.length : Int) = (0 : Int)) then
 some ((), ((), ((), (([] : List UInt8), (d1147.2.2.2.1.1, true)))))
 else
 bif inB (0 : Int) d1147.2.2.2.1.1.length then
 Option.bind (idxN d1147.2.2.2.1.1 0) fun (x1230 : List UInt8) =>
 bif okB (some (1 : Int)) none none d1147.2.2.2.1.1.length then
 some ((), ((), ((), (x1230, (midL d1147.2.2.2.1.1 1 (d1147.2.2.2.1.1.length - 1), d1147.2.2.2.1.2)))))
 else
 none
 else
 none) fun (d1231 : (Unit × T_5)) =>
 Option.bind (r49 d1231.2.2.2.1) fun (y1232 : (Int × Bool)) =>
 Option.bind (
 bif !(d1231.2.2.2.2.2) then
 some ((), !(y1232.2))
 else
 some ((), true)) fun (g1233 : (Unit × Bool)) =>
 Option.bind (
 bif !(g1233.2) then
 Option.bind (r24 y1232.1) fun (y1234 : List UInt8) =>
 some (!(decide (y1234 = d1231.2.2.2.1)))
 else
 some true) fun (g1235 : Bool) =>
 Option.bind (
 bif decide ((↑d1231.2.2.2.2.1.length : Int) = (0 : Int)) then
 some ((), ((), (([] : List UInt8), (d1231.2.2.2.2.1, true))))
 else
 bif inB (0 : Int) d1231.2.2.2.2.1.length then
 Option.bind (idxN d1231.2.2.2.2.1 0) fun (x1238 : List UInt8) =>
 bif okB (some (1 : Int)) none none d1231.2.2.2.2.1.length then
 some ((), ((), (x1238, (midL d1231.2.2.2.2.1 1 (d1231.2.2.2.2.1.length - 1), g1235))))
 else
 none
 else
 none) fun (d1239 : T_5) =>
 Option.bind (r49 d1239.2.2.1) fun (y1240 : (Int × Bool)) =>
 Option.bind (
 bif !(d1239.2.2.2.2) then
 some ((), !(y1240.2))
 else
 some ((), true)) fun (g1241 : (Unit × Bool)) =>
 Option.bind (
 bif !(g1241.2) then
 Option.bind (r24 y1240.1) fun (y1242 : List UInt8) =>
 some (!(decide (y1242 = d1239.2.2.1)))
 else
 some true) fun (g1243 : Bool) =>
 some ((), ((), ((d1239.2.2.2.1, g1243), (d1147.2.2.2.2.1, (d1147.2.2.2.2.2.1, (d1147.2.2.2.2.2.2.1, (y1232.1, y1240.1)))))))
 else
 some ((), ((), d1147.2.2.2))) fun (d1244 : (Unit × (Unit × ((List (List UInt8) × Bool) × T_7)))) =>
 some ((), ((), (d1244.2.2.1, (d71.2.2.2.1, (d71.2.2.2.2.1, (d71.2.2.2.2.2.1, (y1074.1, (d71.2.2.2.2.2.2.2.1, (d71.2.2.2.2.2.2.2.2.1, (d1244.2.2.2.1, (d1244.2.2.2.2.1, (d1244.2.2.2.2.2.1, (d1244.2.2.2.2.2.2.1, (d1244.2.2.2.2.2.2.2, d71.2.2.2.2.2.2.2.2.2.2.2.2.2.2))))))))))))))
 else
 bif decide (d71.2.2.2.1 = (8 : Int)) then
 Option.bind (
 bif decide ((↑d71.2.2.1.1.length : Int) = (0 : Int)) then
 some ((), ((), (([] : List UInt8), (d71.2.2.1.1, true))))
 else
 bif inB (0 : Int) d71.2.2.1.1.length then
 Option.bind (idxN d71.2.2.1.1 0) fun (x1247 : List UInt8) =>
 bif okB (some (1 : Int)) none none d71.2.2.1.1.length then
 some ((), ((), (x1247, (midL d71.2.2.1.1 1 (d71.2.2.1.1.length - 1), d71.2.2.1.2))))
 else
 none
 else
 none) fun (d1248 : T_5) =>
 Option.bind (r49 d1248.2.2.1) fun (y1249 : (Int × Bool)) =>
 Option.bind (
 bif !(d1248.2.2.2.2) then
 some ((), !(y1249.2))
 else
 some ((), true)) fun (g1250 : (Unit × Bool)) =>
 Option.bind (
 bif !(g1250.2) then
 Option.bind (r24 y1249.1) fun (y1251 : List UInt8) =>
 some (!(decide (y1251 = d1248.2.2.1)))
 else
 some true) fun (g1252 : Bool) =>
 Option.bind (
 Option.bind (
 bif decide ((↑d1248.2.2.2.1.length : Int) = (0 : Int)) then
 some ((), ((), (([] : List UInt8), (d1248.2.2.2.1, true))))
 else
 bif inB (0 : Int) d1248.2.2.2.1.length then
 Option.bind (idxN d1248.2.2.2.1 0) fun (x1337 : List UInt8) =>
 bif okB (some (1 : Int)) none none d1248.2.2.2.1.length then
 some ((), ((), (x1337, (midL d1248.2.2.2.1 1 (d1248.2.2.2.1.length - 1), g1252))))
 else
 none
 else
 none) fun (d1338 : T_5) =>
 Option.bind (
 bif !(!(decide ((Int.tmod (↑d1338.2.2.1.length : Int) (2 : Int)) = (1 : Int)))) then
 Option.bind (idxI d1338.2.2.1 (0 : Int)) fun (b1341 : UInt8) =>
 some (!(decide ((↑(UInt8.toNat b1341) : Int) = (46 : Int))))
 else
 some true) fun (d1342 : Bool) =>
 bif d1342 then
 some ((), (([] : List UInt8), (d1338.2.2.2.1, true)))
 else
 Option.bind (loopR (r31_L1 d1338) ((), ((), ((), ((1 : Int), (d1338.2.2.2, [])))))) fun (q1373 : ((Unit × (Unit × ((List (List UInt8) × Bool) × List Int))) ⊕ T_6)) =>
 Sum.elim (fun (v1374 : (Unit × (Unit × ((List (List UInt8) × Bool) × List Int)))) =>
 some ((), ((List.map byte8 v1374.2.2.2), v1374.2.2.1)))
 (fun (v1375 : T_6) =>
 some ((), v1375.2)) q1373) fun (d1376 : T_6) =>
 some ((), ((), (d1376.2.2, (d71.2.2.2.1, (d71.2.2.2.2.1, (d71.2.2.2.2.2.1, (y1249.1, (d71.2.2.2.2.2.2.2.1, (d71.2.2.2.2.2.2.2.2.1, (d71.2.2.2.2.2.2.2.2.2.1, (d71.2.2.2.2.2.2.2.2.2.2.1, (d71.2.2.2.2.2.2.2.2.2.2.2.1, (d71.2.2.2.2.2.2.2.2.2.2.2.2.1, (d71.2.2.2.2.2.2.2.2.2.2.2.2.2.1, d1376.2.1))))))))))))))
 else
 some ((), ((), d71.2.2))) fun (d1377 : T_0) =>
 Option.bind (
 bif !(d1377.2.2.1.2) then
 
 some ((), (decide ((↑d1377.2.2.1.1.length : Int) = (0 : Int)), d1377.2.2.2))
 else
 
 some ((), (false, d1377.2.2.2))) fun (d1378 : (Unit × (Bool × T_4))) =>
 some ((d1378.2.2.1, (d1378.2.2.2.1, (d1378.2.2.2.2.1, (d1378.2.2.2.2.2.1, (d1378.2.2.2.2.2.2.1, (d1378.2.2.2.2.2.2.2.1, ((d1378.2.2.2.2.2.2.2.2.1, (d1378.2.2.2.2.2.2.2.2.2.1, (d1378.2.2.2.2.2.2.2.2.2.2.1, (d1378.2.2.2.2.2.2.2.2.2.2.2.1, d1378.2.2.2.2.2.2.2.2.2.2.2.2.1)))), d1378.2.2.2.2.2.2.2.2.2.2.2.2.2))))))), d1378.2.1)
noncomputable def r31q : List UInt8 → Option (T_3 × Bool) := fun a =>
 Option.bind (r33 (a, ([32] : List UInt8))) fun (y1 : List (List UInt8)) =>
 Option.bind (
 sameR (
 Option.bind (
 bif decide ((↑y1.length : Int) = (0 : Int)) then
 some ((), (([] : List UInt8), (y1, true)))
 else
 bif inB (0 : Int) y1.length then
 Option.bind (idxN y1 0) fun (x26 : List UInt8) =>
 bif okB (some (1 : Int)) none none y1.length then
 some ((), (x26, (midL y1 1 (y1.length - 1), false)))
 else
 none
 else
 none) fun (d27 : T_6) =>
 Option.bind (r43 (List.drop 1 tab0, d27.2.1)) fun (y28 : Int) =>
 some ((), ((), (d27.2.2, ((Go.IntKind.wrap .i64 (y28 + (1 : Int))), ((0 : Int), ((0 : Int), ((0 : Int), ((0 : Int), ([], ((0 : Int), ((0 : Int), ((0 : Int), ((0 : Int), ((0 : Int), ([] : List UInt8))))))))))))))))
 (
 sameR (
 Option.bind (
 bif decide ((↑y1.length : Int) = (0 : Int)) then
 some ((), (([] : List UInt8), (y1, true)))
 else
 bif inB (0 : Int) y1.length then
 Option.bind (idxN y1 0) fun (x31 : List UInt8) =>
 bif okB (some (1 : Int)) none none y1.length then
 some ((), (x31, (midL y1 1 (y1.length - 1), false)))
 else
 none
 else
 none) fun (d32 : T_6) =>
 sameR (
 Option.bind (r43 (List.drop 1 tab0, d32.2.1)) fun (y33 : Int) =>
 some ((), ((), (d32.2.2, ((Go.IntKind.wrap .i64 (y33 + (1 : Int))), ((0 : Int), ((0 : Int), ((0 : Int), ((0 : Int), ([], ((0 : Int), ((0 : Int), ((0 : Int), ((0 : Int), ((0 : Int), ([] : List UInt8))))))))))))))))
 (
 Option.bind (r43 (List.drop 1 tab0, d32.2.1)) fun (y34 : Int) =>
 sameR (
 some ((), ((), (d32.2.2, ((Go.IntKind.wrap .i64 (y34 + (1 : Int))), ((0 : Int), ((0 : Int), ((0 : Int), ((0 : Int), ([], ((0 : Int), ((0 : Int), ((0 : Int), ((0 : Int), ((0 : Int), ([] : List UInt8))))))))))))))))
 (
 sameR (
 some ((), ((), (d32.2.2, ((Go.IntKind.wrap .i64 (y34 + (1 : Int))), ((0 : Int), ((0 : Int), ((0 : Int), ((0 : Int), ([], ((0 : Int), ((0 : Int), ((0 : Int), ((0 : Int), ((0 : Int), ([] : List UInt8))))))))))))))))
 (
 some ((), ((), (d32.2.2, ((Go.IntKind.wrap .i64 (y34 + (1 : Int))), ((0 : Int), ((0 : Int), ((0 : Int), ((0 : Int), ([], ((0 : Int), ((0 : Int), ((0 : Int), ((0 : Int), ((0 : Int), ([] : List UInt8)))))))))))))))))))
 (
 sameR (
 Option.bind (
 bif decide ((↑y1.length : Int) = (0 : Int)) then
 some ((), (([] : List UInt8), (y1, true)))
 else
 bif inB (0 : Int) y1.length then
 Option.bind (idxN y1 0) fun (x37 : List UInt8) =>
 bif okB (some (1 : Int)) none none y1.length then
 some ((), (x37, (midL y1 1 (y1.length - 1), false)))
 else
 none
 else
 none) fun (d38 : T_6) =>
 Option.bind (r43 (List.drop 1 tab0, d38.2.1)) fun (y39 : Int) =>
 some ((), ((), (d38.2.2, ((Go.IntKind.wrap .i64 (y39 + (1 : Int))), ((0 : Int), ((0 : Int), ((0 : Int), ((0 : Int), ([], ((0 : Int), ((0 : Int), ((0 : Int), ((0 : Int), ((0 : Int), ([] : List UInt8))))))))))))))))
 (
 Option.bind (
 bif decide ((↑y1.length : Int) = (0 : Int)) then
 some ((), (([] : List UInt8), (y1, true)))
 else
 bif inB (0 : Int) y1.length then
 Option.bind (idxN y1 0) fun (x42 : List UInt8) =>
 bif okB (some (1 : Int)) none none y1.length then
 some ((), (x42, (midL y1 1 (y1.length - 1), false)))
 else
 none
 else
 none) fun (d43 : T_6) =>
 sameR (
 Option.bind (r43 (List.drop 1 tab0, d43.2.1)) fun (y44 : Int) =>
 some ((), ((), (d43.2.2, ((Go.IntKind.wrap .i64 (y44 + (1 : Int))), ((0 : Int), ((0 : Int), ((0 : Int), ((0 : Int), ([], ((0 : Int), ((0 : Int), ((0 : Int), ((0 : Int), ((0 : Int), ([] : List UInt8))))))))))))))))
 (
 Option.bind (r43 (List.drop 1 tab0, d43.2.1)) fun (y45 : Int) =>
 sameR (
 some ((), ((), (d43.2.2, ((Go.IntKind.wrap .i64 (y45 + (1 : Int))), ((0 : Int), ((0 : Int), ((0 : Int), ((0 : Int), ([], ((0 : Int), ((0 : Int), ((0 : Int), ((0 : Int), ((0 : Int), ([] : List UInt8))))))))))))))))
 (
 sameR (
 some ((), ((), (d43.2.2, ((Go.IntKind.wrap .i64 (y45 + (1 : Int))), ((0 : Int), ((0 : Int), ((0 : Int), ((0 : Int), ([], ((0 : Int), ((0 : Int), ((0 : Int), ((0 : Int), ((0 : Int), ([] : List UInt8))))))))))))))))
 (
 some ((), ((), (d43.2.2, ((Go.IntKind.wrap .i64 (y45 + (1 : Int))), ((0 : Int), ((0 : Int), ((0 : Int), ((0 : Int), ([], ((0 : Int), ((0 : Int), ((0 : Int), ((0 : Int), ((0 : Int), ([] : List UInt8)))))))))))))))))))))) fun (d46 : T_0) =>
 bif decide (d46.2.2.2.1 = (0 : Int)) then
 some ((d46.2.2.2.1, (d46.2.2.2.2.1, (d46.2.2.2.2.2.1, (d46.2.2.2.2.2.2.1, (d46.2.2.2.2.2.2.2.1, (d46.2.2.2.2.2.2.2.2.1, ((d46.2.2.2.2.2.2.2.2.2.1, (d46.2.2.2.2.2.2.2.2.2.2.1, (d46.2.2.2.2.2.2.2.2.2.2.2.1, (d46.2.2.2.2.2.2.2.2.2.2.2.2.1, d46.2.2.2.2.2.2.2.2.2.2.2.2.2.1)))), d46.2.2.2.2.2.2.2.2.2.2.2.2.2.2))))))), false)
 else
 Option.bind (
 bif !(decide (d46.2.2.2.1 = (5 : Int))) then
 Option.bind (
 bif decide ((↑d46.2.2.1.1.length : Int) = (0 : Int)) then
 some ((), ((), (([] : List UInt8), (d46.2.2.1.1, true))))
 else
 bif inB (0 : Int) d46.2.2.1.1.length then
 Option.bind (idxN d46.2.2.1.1 0) fun (x65 : List UInt8) =>
 bif okB (some (1 : Int)) none none d46.2.2.1.1.length then
 some ((), ((), (x65, (midL d46.2.2.1.1 1 (d46.2.2.1.1.length - 1), d46.2.2.1.2))))
 else
 none
 else
 none) fun (d66 : T_5) =>
 Option.bind (r49 d66.2.2.1) fun (y67 : (Int × Bool)) =>
 Option.bind (
 bif !(d66.2.2.2.2) then
 some ((), !(y67.2))
 else
 some ((), true)) fun (g68 : (Unit × Bool)) =>
 Option.bind (
 bif !(g68.2) then
 Option.bind (r24 y67.1) fun (y69 : List UInt8) =>
 some (!(decide (y69 = d66.2.2.1)))
 else
 some true) fun (g70 : Bool) =>
 some ((), ((), ((d66.2.2.2.1, g70), (d46.2.2.2.1, (y67.1, d46.2.2.2.2.2)))))
 else
 some ((), ((), d46.2.2))) fun (d71 : T_0) =>
 Option.bind (
 Option.bind (
 bif decide (d71.2.2.2.1 = (2 : Int)) then
 some (decide (d71.2.2.2.1 = (2 : Int)))
 else
 bif decide (d71.2.2.2.1 = (3 : Int)) then
 some (decide (d71.2.2.2.1 = (3 : Int)))
 else
 some (decide (d71.2.2.2.1 = (4 : Int)))) fun (d942 : Bool) =>
 bif d942 then
 Option.bind (
 bif decide ((↑d71.2.2.1.1.length : Int) = (0 : Int)) then
 some ((), ((), (([] : List UInt8), (d71.2.2.1.1, true))))
 else
 bif inB (0 : Int) d71.2.2.1.1.length then
 Option.bind (idxN d71.2.2.1.1 0) fun (x945 : List UInt8) =>
 bif okB (some (1 : Int)) none none d71.2.2.1.1.length then
 some ((), ((), (x945, (midL d71.2.2.1.1 1 (d71.2.2.1.1.length - 1), d71.2.2.1.2))))
 else
 none
 else
 none) fun (d946 : T_5) =>
 Option.bind (r49 d946.2.2.1) fun (y947 : (Int × Bool)) =>
 Option.bind (
 bif !(d946.2.2.2.2) then
 some ((), !(y947.2))
 else
 some ((), true)) fun (g948 : (Unit × Bool)) =>
 Option.bind (
 bif !(g948.2) then
 Option.bind (r24 y947.1) fun (y949 : List UInt8) =>
 some (!(decide (y949 = d946.2.2.1)))
 else
 some true) fun (g950 : Bool) =>
 Option.bind (
 bif decide ((↑d946.2.2.2.1.length : Int) = (0 : Int)) then
 some ((), ((), (([] : List UInt8), (d946.2.2.2.1, true))))
 else
 bif inB (0 : Int) d946.2.2.2.1.length then
 Option.bind (idxN d946.2.2.2.1 0) fun (x953 : List UInt8) =>
 bif okB (some (1 : Int)) none none d946.2.2.2.1.length then
 some ((), ((), (x953, (midL d946.2.2.2.1 1 (d946.2.2.2.1.length - 1), g950))))
 else
 none
 else
 none) fun (d954 : T_5) =>
 Option.bind (r49 d954.2.2.1) fun (y955 : (Int × Bool)) =>
 Option.bind (
 bif !(d954.2.2.2.2) then
 some ((), !(y955.2))
 else
 some ((), true)) fun (g956 : (Unit × Bool)) =>
 Option.bind (
 bif !(g956.2) then
 Option.bind (r24 y955.1) fun (y957 : List UInt8) =>
 some (!(decide (y957 = d954.2.2.1)))
 else
 some true) fun (g958 : Bool) =>
 Option.bind (
 bif decide ((↑d954.2.2.2.1.length : Int) = (0 : Int)) then
 some ((), ((), (([] : List UInt8), (d954.2.2.2.1, true))))
 else
 bif inB (0 : Int) d954.2.2.2.1.length then
 Option.bind (idxN d954.2.2.2.1 0) fun (x961 : List UInt8) =>
 bif okB (some (1 : Int)) none none d954.2.2.2.1.length then
 some ((), ((), (x961, (midL d954.2.2.2.1 1 (d954.2.2.2.1.length - 1), g958))))
 else
 none
 else
 none) fun (d962 : T_5) =>
 Option.bind (r49 d962.2.2.1) fun (y963 : (Int × Bool)) =>
 Option.bind (
 bif !(d962.2.2.2.2) then
 some ((), !(y963.2))
 else
 some ((), true)) fun (g964 : (Unit × Bool)) =>
 Option.bind (
 bif !(g964.2) then
 Option.bind (r24 y963.1) fun (y965 : List UInt8) =>
 some (!(decide (y965 = d962.2.2.1)))
 else
 some true) fun (g966 : Bool) =>
 some ((), ((), ((d962.2.2.2.1, g966), (d71.2.2.2.1, (d71.2.2.2.2.1, (y947.1, (y955.1, (y963.1, d71.2.2.2.2.2.2.2.2))))))))
 else
 bif decide (d71.2.2.2.1 = (6 : Int)) then
 Option.bind (loopR r31_L0q ((), ((), d71.2.2))) fun (q1069 : T_0) =>
 some ((), ((), q1069.2.2))
 else
 bif decide (d71.2.2.2.1 = (1 : Int)) then
 Option.bind (
 bif decide ((↑d71.2.2.1.1.length : Int) = (0 : Int)) then
 some ((), ((), (([] : List UInt8), (d71.2.2.1.1, true))))
 else
 bif inB (0 : Int) d71.2.2.1.1.length then
 Option.bind (idxN d71.2.2.1.1 0) fun (x1072 : List UInt8) =>
 bif okB (some (1 : Int)) none none d71.2.2.1.1.length then
 some ((), ((), (x1072, (midL d71.2.2.1.1 1 (d71.2.2.1.1.length - 1), d71.2.2.1.2))))
 else
 none
 else
 none) fun (d1073 : T_5) =>
 Option.bind (r49 d1073.2.2.1) fun (y1074 : (Int × Bool)) =>
 Option.bind (
 bif !(d1073.2.2.2.2) then
 some ((), !(y1074.2))
 else
 some ((), true)) fun (g1075 : (Unit × Bool)) =>
 Option.bind (
 bif !(g1075.2) then
 Option.bind (r24 y1074.1) fun (y1076 : List UInt8) =>
 some (!(decide (y1076 = d1073.2.2.1)))
 else
 some true) fun (g1077 : Bool) =>
 Option.bind (
 sameR (
 Option.bind (
 bif decide ((↑d1073.2.2.2.1.length : Int) = (0 : Int)) then
 some ((), ((), (([] : List UInt8), (d1073.2.2.2.1, true))))
 else
 bif inB (0 : Int) d1073.2.2.2.1.length then
 Option.bind (idxN d1073.2.2.2.1 0) fun (x1102 : List UInt8) =>
 bif okB (some (1 : Int)) none none d1073.2.2.2.1.length then
 some ((), ((), (x1102, (midL d1073.2.2.2.1 1 (d1073.2.2.2.1.length - 1), g1077))))
 else
 none
 else
 none) fun (d1103 : T_5) =>
 Option.bind (r43 (List.drop 1 tab1, d1103.2.2.1)) fun (y1104 : Int) =>
 some ((), ((), ((), (d1103.2.2.2, ((Go.IntKind.wrap .i64 (y1104 + (1 : Int))), ((0 : Int), ((0 : Int), ((0 : Int), (0 : Int))))))))))
 (
 sameR (
 Option.bind (
 bif decide ((↑d1073.2.2.2.1.length : Int) = (0 : Int)) then
 some ((), ((), (([] : List UInt8), (d1073.2.2.2.1, true))))
 else
 bif inB (0 : Int) d1073.2.2.2.1.length then
 Option.bind (idxN d1073.2.2.2.1 0) fun (x1107 : List UInt8) =>
 bif okB (some (1 : Int)) none none d1073.2.2.2.1.length then
 some ((), ((), (x1107, (midL d1073.2.2.2.1 1 (d1073.2.2.2.1.length - 1), g1077))))
 else
 none
 else
 none) fun (d1108 : T_5) =>
 sameR (
 Option.bind (r43 (List.drop 1 tab1, d1108.2.2.1)) fun (y1109 : Int) =>
 some ((), ((), ((), (d1108.2.2.2, ((Go.IntKind.wrap .i64 (y1109 + (1 : Int))), ((0 : Int), ((0 : Int), ((0 : Int), (0 : Int))))))))))
 (
 Option.bind (r43 (List.drop 1 tab1, d1108.2.2.1)) fun (y1110 : Int) =>
 sameR (
 some ((), ((), ((), (d1108.2.2.2, ((Go.IntKind.wrap .i64 (y1110 + (1 : Int))), ((0 : Int), ((0 : Int), ((0 : Int), (0 : Int))))))))))
 (
 sameR (
 some ((), ((), ((), (d1108.2.2.2, ((Go.IntKind.wrap .i64 (y1110 + (1 : Int))), ((0 : Int), ((0 : Int), ((0 : Int), (0 : Int))))))))))
 (
 some ((), ((), ((), (d1108.2.2.2, ((Go.IntKind.wrap .i64 (y1110 + (1 : Int))), ((0 : Int), ((0 : Int), ((0 : Int), (0 : Int)))))))))))))
 (
 sameR (
 Option.bind (
 bif decide ((↑d1073.2.2.2.1.length : Int) = (0 : Int)) then
 some ((), ((), (([] : List UInt8), (d1073.2.2.2.1, true))))
 else
 bif inB (0 : Int) d1073.2.2.2.1.length then
 Option.bind (idxN d1073.2.2.2.1 0) fun (x1113 : List UInt8) =>
 bif okB (some (1 : Int)) none none d1073.2.2.2.1.length then
 some ((), ((), (x1113, (midL d1073.2.2.2.1 1 (d1073.2.2.2.1.length - 1), g1077))))
 else
 none
 else
 none) fun (d1114 : T_5) =>
 Option.bind (r43 (List.drop 1 tab1, d1114.2.2.1)) fun (y1115 : Int) =>
 some ((), ((), ((), (d1114.2.2.2, ((Go.IntKind.wrap .i64 (y1115 + (1 : Int))), ((0 : Int), ((0 : Int), ((0 : Int), (0 : Int))))))))))
 (
 Option.bind (
 bif decide ((↑d1073.2.2.2.1.length : Int) = (0 : Int)) then
 some ((), ((), (([] : List UInt8), (d1073.2.2.2.1, true))))
 else
 bif inB (0 : Int) d1073.2.2.2.1.length then
 Option.bind (idxN d1073.2.2.2.1 0) fun (x1118 : List UInt8) =>
 bif okB (some (1 : Int)) none none d1073.2.2.2.1.length then
 some ((), ((), (x1118, (midL d1073.2.2.2.1 1 (d1073.2.2.2.1.length - 1), g1077))))
 else
 none
 else
 none) fun (d1119 : T_5) =>
 sameR (
 Option.bind (r43 (List.drop 1 tab1, d1119.2.2.1)) fun (y1120 : Int) =>
 some ((), ((), ((), (d1119.2.2.2, ((Go.IntKind.wrap .i64 (y1120 + (1 : Int))), ((0 : Int), ((0 : Int), ((0 : Int), (0 : Int))))))))))
 (
 Option.bind (r43 (List.drop 1 tab1, d1119.2.2.1)) fun (y1121 : Int) =>
 sameR (
 some ((), ((), ((), (d1119.2.2.2, ((Go.IntKind.wrap .i64 (y1121 + (1 : Int))), ((0 : Int), ((0 : Int), ((0 : Int), (0 : Int))))))))))
 (
 sameR (
 some ((), ((), ((), (d1119.2.2.2, ((Go.IntKind.wrap .i64 (y1121 + (1 : Int))), ((0 : Int), ((0 : Int), ((0 : Int), (0 : Int))))))))))
 (
 some ((), ((), ((), (d1119.2.2.2, ((Go.IntKind.wrap .i64 (y1121 + (1 : Int))), ((0 : Int), ((0 : Int), ((0 : Int), (0 : Int)))))))))))))))) fun (d1122 : (Unit × (Unit × (Unit × ((List (List UInt8) × Bool) × T_7))))) =>
 Option.bind (
 bif decide ((1 : Int) < d1122.2.2.2.2.1) then
 Option.bind (
 bif decide ((↑d1122.2.2.2.1.1.length : Int) = (0 : Int)) then
 some ((), ((), ((), (([] : List UInt8), (d1122.2.2.2.1.1, true)))))
 else
 bif inB (0 : Int) d1122.2.2.2.1.1.length then
 Option.bind (idxN d1122.2.2.2.1.1 0) fun (x1141 : List UInt8) =>
 bif okB (some (1 : Int)) none none d1122.2.2.2.1.1.length then
 some ((), ((), ((), (x1141, (midL d1122.2.2.2.1.1 1 (d1122.2.2.2.1.1.length - 1), d1122.2.2.2.1.2)))))
 else
 none
 else
 none) fun (d1142 : (Unit × T_5)) =>
 Option.bind (r49 d1142.2.2.2.1) fun (y1143 : (Int × Bool)) =>
 Option.bind (
 bif !(d1142.2.2.2.2.2) then
 some ((), !(y1143.2))
 else
 some ((), true)) fun (g1144 : (Unit × Bool)) =>
 Option.bind (
 bif !(g1144.2) then
 Option.bind (r24 y1143.1) fun (y1145 : List UInt8) =>
 some (!(decide (y1145 = d1142.2.2.2.1)))
 else
 some true) fun (g1146 : Bool) =>
 some ((), ((), ((), ((d1142.2.2.2.2.1, g1146), (d1122.2.2.2.2.1, (y1143.1, d1122.2.2.2.2.2.2))))))
 else
 some ((), ((), ((), d1122.2.2.2)))) fun (d1147 : (Unit × (Unit × (Unit × ((List (List UInt8) × Bool) × T_7))))) =>
 Option.bind (
 bif decide (d1147.2.2.2.2.1 = (0 : Int)) then
 some ((), ((), ((d1147.2.2.2.1.1, true), d1147.2.2.2.2)))
 else
 bif decide (d1147.2.2.2.2.1 = (2 : Int)) then
 Option.bind (
 bif decide ((↑d1147.2.2.2.1.1.length : Int) = (0 : Int)) then
 some ((), ((), ((), (([] : List UInt8), (d1147.2.2.2.1.1, true)))))
 else
 bif inB (0 : Int) d1147.2.2.2.1.1.length then
 Option.bind (idxN d1147.2.2.2.1.1 0) fun (x1214 : List UInt8) =>
 bif okB (some (1 : Int)) none none d1147.2.2.2.1.1.length then
 some ((), ((), ((), (x1214, (midL d1147.2.2.2.1.1 1 (d1147.2.2.2.1.1.length - 1), d1147.2.2.2.1.2)))))
 else
 none
 else
 none) fun (d1215 : (Unit × T_5)) =>
 Option.bind (r49 d1215.2.2.2.1) fun (y1216 : (Int × Bool)) =>
 Option.bind (
 bif !(d1215.2.2.2.2.2) then
 some ((), !(y1216.2))
 else
 some ((), true)) fun (g1217 : (Unit × Bool)) =>
 Option.bind (
 bif !(g1217.2) then
 Option.bind (r24 y1216.1) fun (y1218 : List UInt8) =>
 some (!(decide (y1218 = d1215.2.2.2.1)))
 else
 some true) fun (g1219 : Bool) =>
 Option.bind (
 bif decide ((↑d1215.2.2.2.2.1.length : Int) = (0 : Int)) then
 some ((), ((), (([] : List UInt8), (d1215.2.2.2.2.1, true))))
 else
 bif inB (0 : Int) d1215.2.2.2.2.1.length then
 Option.bind (idxN d1215.2.2.2.2.1 0) fun (x1222 : List UInt8) =>
 bif okB (some (1 : Int)) none none d1215.2.2.2.2.1.length then
 some ((), ((), (x1222, (midL d1215.2.2.2.2.1 1 (d1215.2.2.2.2.1.length - 1), g1219))))
 else
 none
 else
 none) fun (d1223 : T_5) =>
 Option.bind (r49 d1223.2.2.1) fun (y1224 : (Int × Bool)) =>
 Option.bind (
 bif !(d1223.2.2.2.2) then
 some ((), !(y1224.2))
 else
 some ((), true)) fun (g1225 : (Unit × Bool)) =>
 Option.bind (
 bif !(g1225.2) then
 Option.bind (r24 y1224.1) fun (y1226 : List UInt8) =>
 some (!(decide (y1226 = d1223.2.2.1)))
 else
 some true) fun (g1227 : Bool) =>
 some ((), ((), ((d1223.2.2.2.1, g1227), (d1147.2.2.2.2.1, (d1147.2.2.2.2.2.1, (y1216.1, (y1224.1, d1147.2.2.2.2.2.2.2.2)))))))
 else
 bif decide (d1147.2.2.2.2.1 = (3 : Int)) then
 Option.bind (
 bif decide ((↑d1147.2.2.2.1.1.length : Int) = (0 : Int)) then
 some ((), ((), ((), (([] : List UInt8), (d1147.2.2.2.1.1, true)))))
 else
 bif inB (0 : Int) d1147.2.2.2.1.1.length then
 Option.bind (idxN d1147.2.2.2.1.1 0) fun (x1230 : List UInt8) =>
 bif okB (some (1 : Int)) none none d1147.2.2.2.1.1.length then
 some ((), ((), ((), (x1230, (midL d1147.2.2.2.1.1 1 (d1147.2.2.2.1.1.length - 1), d1147.2.2.2.1.2)))))
 else
 none
 else
 none) fun (d1231 : (Unit × T_5)) =>
 Option.bind (r49 d1231.2.2.2.1) fun (y1232 : (Int × Bool)) =>
 Option.bind (
 bif !(d1231.2.2.2.2.2) then
 some ((), !(y1232.2))
 else
 some ((), true)) fun (g1233 : (Unit × Bool)) =>
 Option.bind (
 bif !(g1233.2) then
 Option.bind (r24 y1232.1) fun (y1234 : List UInt8) =>
 some (!(decide (y1234 = d1231.2.2.2.1)))
 else
 some true) fun (g1235 : Bool) =>
 Option.bind (
 bif decide ((↑d1231.2.2.2.2.1.length : Int) = (0 : Int)) then
 some ((), ((), (([] : List UInt8), (d1231.2.2.2.2.1, true))))
 else
 bif inB (0 : Int) d1231.2.2.2.2.1.length then
 Option.bind (idxN d1231.2.2.2.2.1 0) fun (x1238 : List UInt8) =>
 bif okB (some (1 : Int)) none none d1231.2.2.2.2.1.length then
 some ((), ((), (x1238, (midL d1231.2.2.2.2.1 1 (d1231.2.2.2.2.1.length - 1), g1235))))
 else
 none
 else
 none) fun (d1239 : T_5) =>
 Option.bind (r49 d1239.2.2.1) fun (y1240 : (Int × Bool)) =>
 Option.bind (
 bif !(d1239.2.2.2.2) then
 some ((), !(y1240.2))
 else
 some ((), true)) fun (g1241 : (Unit × Bool)) =>
 Option.bind (
 bif !(g1241.2) then
 Option.bind (r24 y1240.1) fun (y1242 : List UInt8) =>
 some (!(decide (y1242 = d1239.2.2.1)))
 else
 some true) fun (g1243 : Bool) =>
 some ((), ((), ((d1239.2.2.2.1, g1243), (d1147.2.2.2.2.1, (d1147.2.2.2.2.2.1, (d1147.2.2.2.2.2.2.1, (y1232.1, y1240.1)))))))
 else
 some ((), ((), d1147.2.2.2))) fun (d1244 : (Unit × (Unit × ((List (List UInt8) × Bool) × T_7)))) =>
 some ((), ((), (d1244.2.2.1, (d71.2.2.2.1, (d71.2.2.2.2.1, (d71.2.2.2.2.2.1, (y1074.1, (d71.2.2.2.2.2.2.2.1, (d71.2.2.2.2.2.2.2.2.1, (d1244.2.2.2.1, (d1244.2.2.2.2.1, (d1244.2.2.2.2.2.1, (d1244.2.2.2.2.2.2.1, (d1244.2.2.2.2.2.2.2, d71.2.2.2.2.2.2.2.2.2.2.2.2.2.2))))))))))))))
 else
 bif decide (d71.2.2.2.1 = (8 : Int)) then
 Option.bind (
 bif decide ((↑d71.2.2.1.1.length : Int) = (0 : Int)) then
 some ((), ((), (([] : List UInt8), (d71.2.2.1.1, true))))
 else
 bif inB (0 : Int) d71.2.2.1.1.length then
 Option.bind (idxN d71.2.2.1.1 0) fun (x1247 : List UInt8) =>
 bif okB (some (1 : Int)) none none d71.2.2.1.1.length then
 some ((), ((), (x1247, (midL d71.2.2.1.1 1 (d71.2.2.1.1.length - 1), d71.2.2.1.2))))
 else
 none
 else
 none) fun (d1248 : T_5) =>
 Option.bind (r49 d1248.2.2.1) fun (y1249 : (Int × Bool)) =>
 Option.bind (
 bif !(d1248.2.2.2.2) then
 some ((), !(y1249.2))
 else
 some ((), true)) fun (g1250 : (Unit × Bool)) =>
 Option.bind (
 bif !(g1250.2) then
 Option.bind (r24 y1249.1) fun (y1251 : List UInt8) =>
 some (!(decide (y1251 = d1248.2.2.1)))
 else
 some true) fun (g1252 : Bool) =>
 Option.bind (
 Option.bind (
 bif decide ((↑d1248.2.2.2.1.length : Int) = (0 : Int)) then
 some ((), ((), (([] : List UInt8), (d1248.2.2.2.1, true))))
 else
 bif inB (0 : Int) d1248.2.2.2.1.length then
 Option.bind (idxN d1248.2.2.2.1 0) fun (x1337 : List UInt8) =>
 bif okB (some (1 : Int)) none none d1248.2.2.2.1.length then
 some ((), ((), (x1337, (midL d1248.2.2.2.1 1 (d1248.2.2.2.1.length - 1), g1252))))
 else
 none
 else
 none) fun (d1338 : T_5) =>
 Option.bind (
 bif !(!(decide ((Int.tmod (↑d1338.2.2.1.length : Int) (2 : Int)) = (1 : Int)))) then
 Option.bind (idxI d1338.2.2.1 (0 : Int)) fun (b1341 : UInt8) =>
 some (!(decide ((↑(UInt8.toNat b1341) : Int) = (46 : Int))))
 else
 some true) fun (d1342 : Bool) =>
 bif d1342 then
 some ((), (([] : List UInt8), (d1338.2.2.2.1, true)))
 else
 Option.bind (loopR (r31_L1q d1338) ((), ((), ((), ((1 : Int), (d1338.2.2.2, [])))))) fun (q1373 : ((Unit × (Unit × ((List (List UInt8) × Bool) × List Int))) ⊕ T_6)) =>
 Sum.elim (fun (v1374 : (Unit × (Unit × ((List (List UInt8) × Bool) × List Int)))) =>
 some ((), ((List.map byte8 v1374.2.2.2), v1374.2.2.1)))
 (fun (v1375 : T_6) =>
 some ((), v1375.2)) q1373) fun (d1376 : T_6) =>
 some ((), ((), (d1376.2.2, (d71.2.2.2.1, (d71.2.2.2.2.1, (d71.2.2.2.2.2.1, (y1249.1, (d71.2.2.2.2.2.2.2.1, (d71.2.2.2.2.2.2.2.2.1, (d71.2.2.2.2.2.2.2.2.2.1, (d71.2.2.2.2.2.2.2.2.2.2.1, (d71.2.2.2.2.2.2.2.2.2.2.2.1, (d71.2.2.2.2.2.2.2.2.2.2.2.2.1, (d71.2.2.2.2.2.2.2.2.2.2.2.2.2.1, d1376.2.1))))))))))))))
 else
 some ((), ((), d71.2.2))) fun (d1377 : T_0) =>
 Option.bind (
 bif !(d1377.2.2.1.2) then
 sameR (
 some ((), (decide ((↑d1377.2.2.1.1.length : Int) = (0 : Int)), d1377.2.2.2)))
 (
 sameR (
 some ((), (decide ((↑d1377.2.2.1.1.length : Int) = (0 : Int)), d1377.2.2.2)))
 (
 sameR (
 some ((), (decide ((↑d1377.2.2.1.1.length : Int) = (0 : Int)), d1377.2.2.2)))
 (
 sameR (
 some ((), (decide ((↑d1377.2.2.1.1.length : Int) = (0 : Int)), d1377.2.2.2)))
 (
 sameR (
 some ((), (decide ((↑d1377.2.2.1.1.length : Int) = (0 : Int)), d1377.2.2.2)))
 (
 sameR (
 some ((), (decide ((↑d1377.2.2.1.1.length : Int) = (0 : Int)), d1377.2.2.2)))
 (
 sameR (
 some ((), (decide ((↑d1377.2.2.1.1.length : Int) = (0 : Int)), d1377.2.2.2)))
 (
 some ((), (decide ((↑d1377.2.2.1.1.length : Int) = (0 : Int)), d1377.2.2.2)))))))))
 else
 sameR (
 some ((), (false, d1377.2.2.2)))
 (
 sameR (
 some ((), (false, d1377.2.2.2)))
 (
 sameR (
 some ((), (false, d1377.2.2.2)))
 (
 sameR (
 some ((), (false, d1377.2.2.2)))
 (
 sameR (
 some ((), (false, d1377.2.2.2)))
 (
 sameR (
 some ((), (false, d1377.2.2.2)))
 (
 sameR (
 some ((), (false, d1377.2.2.2)))
 (
 some ((), (false, d1377.2.2.2)))))))))) fun (d1378 : (Unit × (Bool × T_4))) =>
 some ((d1378.2.2.1, (d1378.2.2.2.1, (d1378.2.2.2.2.1, (d1378.2.2.2.2.2.1, (d1378.2.2.2.2.2.2.1, (d1378.2.2.2.2.2.2.2.1, ((d1378.2.2.2.2.2.2.2.2.1, (d1378.2.2.2.2.2.2.2.2.2.1, (d1378.2.2.2.2.2.2.2.2.2.2.1, (d1378.2.2.2.2.2.2.2.2.2.2.2.1, d1378.2.2.2.2.2.2.2.2.2.2.2.2.1)))), d1378.2.2.2.2.2.2.2.2.2.2.2.2.2))))))), d1378.2.1)
theorem r31e : r31q = r31 := by unfold r31q r31; simp only [sameR_self, r31_L0e, r31_L1e]
def an31 : Ann := .two (.leaf) (.two (.leaf) (.two (.join [2] [2] [⟨.normal, [], [.tmp 4 (.pt 9 [(0, 0)] 0 0 2), .tmp 5 (.pt 5 [(0, 0)] 0 0 12), .box 9 [.sl .own .str, .bool], .box 5 [.int .i64, .int .i64, .int .i64, .int .i64, .int .i64, .sl .own (.int .i64), .int .i64, .int .i64, .int .i64, .int .i64, .int .i64, .str]]⟩] (.stagesI [0, 1, 6] 2 93 (.has 5 (.has 10 (.join [2, 5, 10] [2, 5] [⟨.ret, [], [.tmp 4 (.pt 9 [(0, 0)] 0 0 2), .tmp 95 (.str), .box 9 [.sl .own .str, .bool]]⟩] (.two (.leaf) (.two (.two (.leaf) (.two (.two (.leaf) (.two (.leaf) (.leaf))) (.leaf))) (.two (.leaf) (.two (.leaf) (.two (.leaf) (.leaf))))))) (.join [2, 5] [2, 5] [⟨.ret, [], [.tmp 4 (.pt 9 [(0, 0)] 0 0 2), .tmp 95 (.str), .box 9 [.sl .own .str, .bool]]⟩] (.two (.leaf) (.two (.two (.leaf) (.two (.two (.leaf) (.two (.leaf) (.leaf))) (.leaf))) (.two (.leaf) (.two (.leaf) (.two (.leaf) (.leaf)))))))) (.has 10 (.join [2, 10] [2] [⟨.ret, [], [.tmp 4 (.pt 9 [(0, 0)] 0 0 2), .tmp 95 (.str), .box 9 [.sl .own .str, .bool]]⟩] (.two (.leaf) (.two (.two (.leaf) (.two (.two (.leaf) (.two (.leaf) (.leaf))) (.leaf))) (.two (.leaf) (.two (.leaf) (.two (.leaf) (.leaf))))))) (.join [2] [2] [⟨.ret, [], [.tmp 4 (.pt 9 [(0, 0)] 0 0 2), .tmp 95 (.str), .box 9 [.sl .own .str, .bool]]⟩] (.two (.leaf) (.two (.two (.leaf) (.two (.two (.leaf) (.two (.leaf) (.leaf))) (.leaf))) (.two (.leaf) (.two (.leaf) (.two (.leaf) (.leaf))))))))))) (.two (.two (.leaf) (.two (.two (.leaf) (.leaf)) (.leaf))) (.two (.join [2] [2] [⟨.normal, [], [.tmp 4 (.pt 9 [(0, 0)] 0 0 2), .tmp 5 (.pt 5 [(0, 0)] 0 0 12), .box 9 [.sl .own .str, .bool], .box 5 [.int .i64, .int .i64, .int .i64, .int .i64, .int .i64, .sl .own (.int .i64), .int .i64, .int .i64, .int .i64, .int .i64, .int .i64, .str]]⟩] (.two (.leaf) (.two (.inl 1 121 (.two (.leaf) (.two (.inl 1 152 (.join [2, 5] [2, 5] [⟨.ret, [], [.tmp 4 (.pt 9 [(0, 0)] 0 0 2), .tmp 121 (.pt 9 [(0, 0)] 0 0 2), .tmp 154 (.str), .box 9 [.sl .own .str, .bool]]⟩] (.two (.leaf) (.two (.two (.leaf) (.two (.two (.leaf) (.two (.leaf) (.leaf))) (.leaf))) (.two (.leaf) (.two (.leaf) (.two (.leaf) (.leaf))))))) (.leaf)) (.two (.leaf) (.two (.segs [(9, ([2, 4, 5, 124, 125], ([2, 5, 9], [.tmp 134 (.pt 9 [(0, 0)] 0 0 2), .tmp 142 (.bool)]))), (6, ([2, 4, 5, 125, 134], ([2, 5, 9], [.tmp 148 (.bool)])))]) (.two (.leaf) (.leaf)))))) (.leaf)) (.leaf)))) (.two (.join [2] [2] [⟨.normal, [], [.tmp 4 (.pt 9 [(0, 0)] 0 0 2), .tmp 5 (.pt 5 [(0, 0)] 0 0 12), .box 9 [.sl .own .str, .bool], .box 5 [.int .i64, .int .i64, .int .i64, .int .i64, .int .i64, .sl .own (.int .i64), .int .i64, .int .i64, .int .i64, .int .i64, .int .i64, .str]]⟩] (.two (.leaf) (.one (.two (.join [2, 4, 5, 27] [2, 5, 9] [⟨.normal, [], [.tmp 28 (.bool)]⟩] (.two (.leaf) (.two (.leaf) (.two (.leaf) (.two (.leaf) (.leaf)))))) (.two (.two (.inl 1 180 (.two (.leaf) (.two (.inl 1 211 (.join [2, 5] [2, 5] [⟨.ret, [], [.tmp 4 (.pt 9 [(0, 0)] 0 0 2), .tmp 180 (.pt 9 [(0, 0)] 0 0 2), .tmp 213 (.str), .box 9 [.sl .own .str, .bool]]⟩] (.two (.leaf) (.two (.two (.leaf) (.two (.two (.leaf) (.two (.leaf) (.leaf))) (.leaf))) (.two (.leaf) (.two (.leaf) (.two (.leaf) (.leaf))))))) (.leaf)) (.two (.leaf) (.two (.segs [(9, ([2, 4, 5, 183, 184], ([2, 5, 9], [.tmp 193 (.pt 9 [(0, 0)] 0 0 2), .tmp 201 (.bool)]))), (6, ([2, 4, 5, 184, 193], ([2, 5, 9], [.tmp 207 (.bool)])))]) (.two (.leaf) (.leaf)))))) (.leaf)) (.two (.inl 1 239 (.two (.leaf) (.two (.inl 1 270 (.join [2, 5] [2, 5] [⟨.ret, [], [.tmp 4 (.pt 9 [(0, 0)] 0 0 2), .tmp 239 (.pt 9 [(0, 0)] 0 0 2), .tmp 272 (.str), .box 9 [.sl .own .str, .bool]]⟩] (.two (.leaf) (.two (.two (.leaf) (.two (.two (.leaf) (.two (.leaf) (.leaf))) (.leaf))) (.two (.leaf) (.two (.leaf) (.two (.leaf) (.leaf))))))) (.leaf)) (.two (.leaf) (.two (.segs [(9, ([2, 4, 5, 242, 243], ([2, 5, 9], [.tmp 252 (.pt 9 [(0, 0)] 0 0 2), .tmp 260 (.bool)]))), (6, ([2, 4, 5, 243, 252], ([2, 5, 9], [.tmp 266 (.bool)])))]) (.two (.leaf) (.leaf)))))) (.leaf)) (.inl 1 298 (.two (.leaf) (.two (.inl 1 329 (.join [2, 5] [2, 5] [⟨.ret, [], [.tmp 4 (.pt 9 [(0, 0)] 0 0 2), .tmp 298 (.pt 9 [(0, 0)] 0 0 2), .tmp 331 (.str), .box 9 [.sl .own .str, .bool]]⟩] (.two (.leaf) (.two (.two (.leaf) (.two (.two (.leaf) (.two (.leaf) (.leaf))) (.leaf))) (.two (.leaf) (.two (.leaf) (.two (.leaf) (.leaf))))))) (.leaf)) (.two (.leaf) (.two (.segs [(9, ([2, 4, 5, 301, 302], ([2, 5, 9], [.tmp 311 (.pt 9 [(0, 0)] 0 0 2), .tmp 319 (.bool)]))), (6, ([2, 4, 5, 302, 311], ([2, 5, 9], [.tmp 325 (.bool)])))]) (.two (.leaf) (.leaf)))))) (.leaf)))) (.two (.leaf) (.two (.one (.loop [2] [2] [] [.tmp 4 (.pt 9 [(0, 0)] 0 0 2), .tmp 5 (.pt 5 [(0, 0)] 0 0 12), .box 9 [.sl .own .str, .bool], .box 5 [.int .i64, .int .i64, .int .i64, .int .i64, .int .i64, .sl .own (.int .i64), .int .i64, .int .i64, .int .i64, .int .i64, .int .i64, .str]] [⟨.exit 1, [], [.tmp 4 (.pt 9 [(0, 0)] 0 0 2), .tmp 5 (.pt 5 [(0, 0)] 0 0 12), .box 9 [.sl .own .str, .bool], .box 5 [.int .i64, .int .i64, .int .i64, .int .i64, .int .i64, .sl .own (.int .i64), .int .i64, .int .i64, .int .i64, .int .i64, .int .i64, .str]]⟩] (.two (.two (.join [2, 4, 5] [2, 5, 9] [⟨.normal, [], [.tmp 55 (.bool)]⟩] (.leaf)) (.two (.leaf) (.leaf))) (.one (.join [2] [2] [⟨.normal, [], [.tmp 4 (.pt 9 [(0, 0)] 0 0 2), .tmp 5 (.pt 5 [(0, 0)] 0 0 12), .box 9 [.sl .own .str, .bool], .box 5 [.int .i64, .int .i64, .int .i64, .int .i64, .int .i64, .sl .own (.int .i64), .int .i64, .int .i64, .int .i64, .int .i64, .int .i64, .str]]⟩] (.stagesI [0, 1, 2] 3 357 (.has 56 (.has 57 (.two (.leaf) (.two (.inl 1 388 (.join [2, 5, 56, 57] [2, 5] [⟨.ret, [], [.tmp 4 (.pt 9 [(0, 0)] 0 0 2), .tmp 357 (.pt 9 [(0, 0)] 0 0 2), .tmp 390 (.str), .box 9 [.sl .own .str, .bool]]⟩] (.two (.leaf) (.two (.two (.leaf) (.two (.two (.leaf) (.two (.leaf) (.leaf))) (.leaf))) (.two (.leaf) (.two (.leaf) (.two (.leaf) (.leaf))))))) (.leaf)) (.two (.leaf) (.two (.segs [(9, ([2, 4, 5, 56, 57, 360, 361], ([2, 5, 9], [.tmp 370 (.pt 9 [(0, 0)] 0 0 2), .tmp 378 (.bool)]))), (6, ([2, 4, 5, 56, 57, 361, 370], ([2, 5, 9], [.tmp 384 (.bool)])))]) (.two (.leaf) (.leaf)))))) (.two (.leaf) (.two (.inl 1 388 (.join [2, 5, 56] [2, 5] [⟨.ret, [], [.tmp 4 (.pt 9 [(0, 0)] 0 0 2), .tmp 357 (.pt 9 [(0, 0)] 0 0 2), .tmp 390 (.str), .box 9 [.sl .own .str, .bool]]⟩] (.two (.leaf) (.two (.two (.leaf) (.two (.two (.leaf) (.two (.leaf) (.leaf))) (.leaf))) (.two (.leaf) (.two (.leaf) (.two (.leaf) (.leaf))))))) (.leaf)) (.two (.leaf) (.two (.segs [(9, ([2, 4, 5, 56, 360, 361], ([2, 5, 9], [.tmp 370 (.pt 9 [(0, 0)] 0 0 2), .tmp 378 (.bool)]))), (6, ([2, 4, 5, 56, 361, 370], ([2, 5, 9], [.tmp 384 (.bool)])))]) (.two (.leaf) (.leaf))))))) (.two (.leaf) (.two (.inl 1 388 (.join [2, 5] [2, 5] [⟨.ret, [], [.tmp 4 (.pt 9 [(0, 0)] 0 0 2), .tmp 357 (.pt 9 [(0, 0)] 0 0 2), .tmp 390 (.str), .box 9 [.sl .own .str, .bool]]⟩] (.two (.leaf) (.two (.two (.leaf) (.two (.two (.leaf) (.two (.leaf) (.leaf))) (.leaf))) (.two (.leaf) (.two (.leaf) (.two (.leaf) (.leaf))))))) (.leaf)) (.two (.leaf) (.two (.segs [(9, ([2, 4, 5, 360, 361], ([2, 5, 9], [.tmp 370 (.pt 9 [(0, 0)] 0 0 2), .tmp 378 (.bool)]))), (6, ([2, 4, 5, 361, 370], ([2, 5, 9], [.tmp 384 (.bool)])))]) (.two (.leaf) (.leaf))))))))))))) (.two (.leaf) (.two (.two (.inl 1 416 (.two (.leaf) (.two (.inl 1 447 (.join [2, 5] [2, 5] [⟨.ret, [], [.tmp 4 (.pt 9 [(0, 0)] 0 0 2), .tmp 416 (.pt 9 [(0, 0)] 0 0 2), .tmp 449 (.str), .box 9 [.sl .own .str, .bool]]⟩] (.two (.leaf) (.two (.two (.leaf) (.two (.two (.leaf) (.two (.leaf) (.leaf))) (.leaf))) (.two (.leaf) (.two (.leaf) (.two (.leaf) (.leaf))))))) (.leaf)) (.two (.leaf) (.two (.segs [(9, ([2, 4, 5, 419, 420], ([2, 5, 9], [.tmp 429 (.pt 9 [(0, 0)] 0 0 2), .tmp 437 (.bool)]))), (6, ([2, 4, 5, 420, 429], ([2, 5, 9], [.tmp 443 (.bool)])))]) (.two (.leaf) (.leaf)))))) (.leaf)) (.inl 1 475 (.two (.leaf) (.two (.join [2, 5, 477] [2, 5, 477] [⟨.normal, [], [.tmp 4 (.pt 9 [(0, 0)] 0 0 2), .tmp 475 (.pt 9 [(0, 0)] 0 0 2), .tmp 478 (.pt 478 [(0, 0)] 0 0 5), .box 9 [.sl .own .str, .bool], .box 478 [.int .i64, .int .i64, .int .i64, .int .i64, .int .i64]]⟩] (.stagesI [0, 1, 6] 2 515 (.has 478 (.has 479 (.join [2, 5, 477, 478, 479] [2, 5, 477, 478] [⟨.ret, [], [.tmp 4 (.pt 9 [(0, 0)] 0 0 2), .tmp 475 (.pt 9 [(0, 0)] 0 0 2), .tmp 517 (.str), .box 9 [.sl .own .str, .bool]]⟩] (.two (.leaf) (.two (.two (.leaf) (.two (.two (.leaf) (.two (.leaf) (.leaf))) (.leaf))) (.two (.leaf) (.two (.leaf) (.two (.leaf) (.leaf))))))) (.join [2, 5, 477, 478] [2, 5, 477, 478] [⟨.ret, [], [.tmp 4 (.pt 9 [(0, 0)] 0 0 2), .tmp 475 (.pt 9 [(0, 0)] 0 0 2), .tmp 517 (.str), .box 9 [.sl .own .str, .bool]]⟩] (.two (.leaf) (.two (.two (.leaf) (.two (.two (.leaf) (.two (.leaf) (.leaf))) (.leaf))) (.two (.leaf) (.two (.leaf) (.two (.leaf) (.leaf)))))))) (.has 479 (.join [2, 5, 477, 479] [2, 5, 477] [⟨.ret, [], [.tmp 4 (.pt 9 [(0, 0)] 0 0 2), .tmp 475 (.pt 9 [(0, 0)] 0 0 2), .tmp 517 (.str), .box 9 [.sl .own .str, .bool]]⟩] (.two (.leaf) (.two (.two (.leaf) (.two (.two (.leaf) (.two (.leaf) (.leaf))) (.leaf))) (.two (.leaf) (.two (.leaf) (.two (.leaf) (.leaf))))))) (.join [2, 5, 477] [2, 5, 477] [⟨.ret, [], [.tmp 4 (.pt 9 [(0, 0)] 0 0 2), .tmp 475 (.pt 9 [(0, 0)] 0 0 2), .tmp 517 (.str), .box 9 [.sl .own .str, .bool]]⟩] (.two (.leaf) (.two (.two (.leaf) (.two (.two (.leaf) (.two (.leaf) (.leaf))) (.leaf))) (.two (.leaf) (.two (.leaf) (.two (.leaf) (.leaf))))))))))) (.two (.join [2, 5, 477] [2, 5, 477] [⟨.normal, [], [.tmp 4 (.pt 9 [(0, 0)] 0 0 2), .tmp 475 (.pt 9 [(0, 0)] 0 0 2), .tmp 478 (.pt 478 [(0, 0)] 0 0 5), .box 9 [.sl .own .str, .bool], .box 478 [.int .i64, .int .i64, .int .i64, .int .i64, .int .i64]]⟩] (.two (.leaf) (.two (.inl 1 543 (.two (.leaf) (.two (.inl 1 574 (.join [2, 5, 477, 478] [2, 5, 477, 478] [⟨.ret, [], [.tmp 4 (.pt 9 [(0, 0)] 0 0 2), .tmp 475 (.pt 9 [(0, 0)] 0 0 2), .tmp 543 (.pt 9 [(0, 0)] 0 0 2), .tmp 576 (.str), .box 9 [.sl .own .str, .bool]]⟩] (.two (.leaf) (.two (.two (.leaf) (.two (.two (.leaf) (.two (.leaf) (.leaf))) (.leaf))) (.two (.leaf) (.two (.leaf) (.two (.leaf) (.leaf))))))) (.leaf)) (.two (.leaf) (.two (.segs [(9, ([2, 4, 5, 475, 477, 478, 546, 547], ([2, 5, 9, 477, 478], [.tmp 556 (.pt 9 [(0, 0)] 0 0 2), .tmp 564 (.bool)]))), (6, ([2, 4, 5, 475, 477, 478, 547, 556], ([2, 5, 9, 477, 478], [.tmp 570 (.bool)])))]) (.two (.leaf) (.leaf)))))) (.leaf)) (.leaf)))) (.two (.join [2, 5, 477] [2, 5, 477] [⟨.normal, [], [.tmp 4 (.pt 9 [(0, 0)] 0 0 2), .tmp 478 (.pt 478 [(0, 0)] 0 0 5), .box 9 [.sl .own .str, .bool], .box 478 [.int .i64, .int .i64, .int .i64, .int .i64, .int .i64]]⟩] (.two (.leaf) (.one (.two (.leaf) (.two (.leaf) (.two (.leaf) (.two (.two (.inl 1 602 (.two (.leaf) (.two (.inl 1 633 (.join [2, 5, 477, 478] [2, 5, 477, 478] [⟨.ret, [], [.tmp 4 (.pt 9 [(0, 0)] 0 0 2), .tmp 475 (.pt 9 [(0, 0)] 0 0 2), .tmp 602 (.pt 9 [(0, 0)] 0 0 2), .tmp 635 (.str), .box 9 [.sl .own .str, .bool]]⟩] (.two (.leaf) (.two (.two (.leaf) (.two (.two (.leaf) (.two (.leaf) (.leaf))) (.leaf))) (.two (.leaf) (.two (.leaf) (.two (.leaf) (.leaf))))))) (.leaf)) (.two (.leaf) (.two (.segs [(9, ([2, 4, 5, 475, 477, 478, 605, 606], ([2, 5, 9, 477, 478], [.tmp 615 (.pt 9 [(0, 0)] 0 0 2), .tmp 623 (.bool)]))), (6, ([2, 4, 5, 475, 477, 478, 606, 615], ([2, 5, 9, 477, 478], [.tmp 629 (.bool)])))]) (.two (.leaf) (.leaf)))))) (.leaf)) (.inl 1 661 (.two (.leaf) (.two (.inl 1 692 (.join [2, 5, 477, 478] [2, 5, 477, 478] [⟨.ret, [], [.tmp 4 (.pt 9 [(0, 0)] 0 0 2), .tmp 661 (.pt 9 [(0, 0)] 0 0 2), .tmp 694 (.str), .box 9 [.sl .own .str, .bool]]⟩] (.two (.leaf) (.two (.two (.leaf) (.two (.two (.leaf) (.two (.leaf) (.leaf))) (.leaf))) (.two (.leaf) (.two (.leaf) (.two (.leaf) (.leaf))))))) (.leaf)) (.two (.leaf) (.two (.segs [(9, ([2, 4, 5, 477, 478, 664, 665], ([2, 5, 9, 477, 478], [.tmp 674 (.pt 9 [(0, 0)] 0 0 2), .tmp 682 (.bool)]))), (6, ([2, 4, 5, 477, 478, 665, 674], ([2, 5, 9, 477, 478], [.tmp 688 (.bool)])))]) (.two (.leaf) (.leaf)))))) (.leaf))) (.two (.leaf) (.two (.two (.inl 1 720 (.two (.leaf) (.two (.inl 1 751 (.join [2, 5, 477, 478] [2, 5, 477, 478] [⟨.ret, [], [.tmp 4 (.pt 9 [(0, 0)] 0 0 2), .tmp 475 (.pt 9 [(0, 0)] 0 0 2), .tmp 720 (.pt 9 [(0, 0)] 0 0 2), .tmp 753 (.str), .box 9 [.sl .own .str, .bool]]⟩] (.two (.leaf) (.two (.two (.leaf) (.two (.two (.leaf) (.two (.leaf) (.leaf))) (.leaf))) (.two (.leaf) (.two (.leaf) (.two (.leaf) (.leaf))))))) (.leaf)) (.two (.leaf) (.two (.segs [(9, ([2, 4, 5, 475, 477, 478, 723, 724], ([2, 5, 9, 477, 478], [.tmp 733 (.pt 9 [(0, 0)] 0 0 2), .tmp 741 (.bool)]))), (6, ([2, 4, 5, 475, 477, 478, 724, 733], ([2, 5, 9, 477, 478], [.tmp 747 (.bool)])))]) (.two (.leaf) (.leaf)))))) (.leaf)) (.inl 1 779 (.two (.leaf) (.two (.inl 1 810 (.join [2, 5, 477, 478] [2, 5, 477, 478] [⟨.ret, [], [.tmp 4 (.pt 9 [(0, 0)] 0 0 2), .tmp 779 (.pt 9 [(0, 0)] 0 0 2), .tmp 812 (.str), .box 9 [.sl .own .str, .bool]]⟩] (.two (.leaf) (.two (.two (.leaf) (.two (.two (.leaf) (.two (.leaf) (.leaf))) (.leaf))) (.two (.leaf) (.two (.leaf) (.two (.leaf) (.leaf))))))) (.leaf)) (.two (.leaf) (.two (.segs [(9, ([2, 4, 5, 477, 478, 782, 783], ([2, 5, 9, 477, 478], [.tmp 792 (.pt 9 [(0, 0)] 0 0 2), .tmp 800 (.bool)]))), (6, ([2, 4, 5, 477, 478, 783, 792], ([2, 5, 9, 477, 478], [.tmp 806 (.bool)])))]) (.two (.leaf) (.leaf)))))) (.leaf))) (.leaf)))))))))) (.two (.leaf) (.leaf)))))) (.leaf))) (.two (.leaf) (.two (.two (.inl 1 838 (.two (.leaf) (.two (.inl 1 869 (.join [2, 5] [2, 5] [⟨.ret, [], [.tmp 4 (.pt 9 [(0, 0)] 0 0 2), .tmp 838 (.pt 9 [(0, 0)] 0 0 2), .tmp 871 (.str), .box 9 [.sl .own .str, .bool]]⟩] (.two (.leaf) (.two (.two (.leaf) (.two (.two (.leaf) (.two (.leaf) (.leaf))) (.leaf))) (.two (.leaf) (.two (.leaf) (.two (.leaf) (.leaf))))))) (.leaf)) (.two (.leaf) (.two (.segs [(9, ([2, 4, 5, 841, 842], ([2, 5, 9], [.tmp 851 (.pt 9 [(0, 0)] 0 0 2), .tmp 859 (.bool)]))), (6, ([2, 4, 5, 842, 851], ([2, 5, 9], [.tmp 865 (.bool)])))]) (.two (.leaf) (.leaf)))))) (.leaf)) (.inl 1 897 (.join [2, 5] [2, 5] [⟨.ret, [], [.tmp 4 (.pt 9 [(0, 0)] 0 0 2), .tmp 899 (.str), .box 9 [.sl .own .str, .bool]]⟩] (.two (.leaf) (.two (.inl 1 953 (.join [2, 5] [2, 5] [⟨.ret, [], [.tmp 4 (.pt 9 [(0, 0)] 0 0 2), .tmp 897 (.pt 9 [(0, 0)] 0 0 2), .tmp 955 (.str), .box 9 [.sl .own .str, .bool]]⟩] (.two (.leaf) (.two (.two (.leaf) (.two (.two (.leaf) (.two (.leaf) (.leaf))) (.leaf))) (.two (.leaf) (.two (.leaf) (.two (.leaf) (.leaf))))))) (.leaf)) (.two (.two (.join [2, 4, 5, 897, 900] [2, 5, 9] [⟨.normal, [], [.tmp 915 (.bool)]⟩] (.leaf)) (.two (.two (.leaf) (.two (.leaf) (.leaf))) (.leaf))) (.two (.leaf) (.two (.two (.leaf) (.one (.loop [2, 5, 900] [2, 5] [(901, (.int .u8))] [.tmp 4 (.pt 9 [(0, 0)] 0 0 2), .tmp 897 (.pt 9 [(0, 0)] 0 0 2), .tmp 901 (.own 901 [(0, 0)] (.int .u8)), .tmp 902 (.int .i64), .box 9 [.sl .own .str, .bool], .row 901 [.sl .own (.int .u8)]] [⟨.exit 0, [], [.tmp 4 (.pt 9 [(0, 0)] 0 0 2), .tmp 901 (.own 901 [(0, 0)] (.int .u8)), .box 9 [.sl .own .str, .bool], .row 901 [.sl .own (.int .u8)]]⟩, ⟨.ret, [], [.tmp 4 (.pt 9 [(0, 0)] 0 0 2), .tmp 899 (.str), .box 9 [.sl .own .str, .bool]]⟩] (.two (.two (.leaf) (.two (.leaf) (.leaf))) (.two (.one (.two (.draw 8) (.two (.two (.join [2, 4, 5, 897, 900, 901, 902, 903, 904] [2, 5, 9, 901] [⟨.normal, [], [.tmp 939 (.bool)]⟩] (.leaf)) (.two (.two (.leaf) (.two (.leaf) (.leaf))) (.leaf))) (.leaf)))) (.leaf)))))) (.two (.leaf) (.leaf)))))))) (.leaf))) (.leaf)))))))))))) (.two (.join [] [] [⟨.normal, [], [.tmp 2 (.pt 2 [(0, 0)] 0 0 12), .tmp 3 (.bool), .box 2 [.int .i64, .int .i64, .int .i64, .int .i64, .int .i64, .sl .own (.int .i64), .int .i64, .int .i64, .int .i64, .int .i64, .int .i64, .str]]⟩] (.stages [0, 1, 2, 3, 4, 5, 6, 7, 8, 9, 10, 11, 12, 13])) (.leaf)))))))
theorem s31 : SoundF cx.P cx.G 31 sg31 r31 := by
  have e : denF cx [(24, ⟨sg24, r24⟩), (33, ⟨sg33, r33⟩), (43, ⟨sg43, r43⟩), (49, ⟨sg49, r49⟩), (55, ⟨sg55, r55⟩)] an31 Tryd.f31.ntmps (Tryd.f31.body.getD .skip) Tryd.f31.results.toList sg31 = r31q := by kernel_rfl
  rw [← r31e, ← e]
  exact sound_of_den (c := cx) (Known.cons (.ofF s24 (by kernel_rfl)) Tryd.func24 (by kernel_rfl) (by kernel_rfl) (Known.cons (.ofF s33 (by kernel_rfl)) Tryd.func33 (by kernel_rfl) (by kernel_rfl) (Known.cons (.ofF s43 (by kernel_rfl)) Tryd.func43 (by kernel_rfl) (by kernel_rfl) (Known.cons (.ofF s49 (by kernel_rfl)) Tryd.func49 (by kernel_rfl) (by kernel_rfl) (Known.cons (.ofF s55 (by kernel_rfl)) Tryd.func55 (by kernel_rfl) (by kernel_rfl) (Known.nil)))))) Tryd.func31 (by kernel_rfl) (Nat.le_of_ble_eq_true (by kernel_rfl)) rfl
/-! reredos/lines.Read -/
noncomputable def r13_L0 (a : (T_8 × List UInt8)) (d7 : (List UInt8 × (Unit × (Int × List (T_3))))) : Option ((List UInt8 × (Unit × (Int × List (T_3)))) ⊕ (T_2 ⊕ (Unit × (Int × Int)))) :=
 bif !(decide (d7.1 = ([] : List UInt8))) then
 Option.bind (r30 (d7.1, ([10] : List UInt8))) fun (y8 : (List UInt8 × (List UInt8 × Bool))) =>
 bif decide (d7.2.2.1 = (3000 : Int)) then
 some (Sum.inr (Sum.inr ((), (d7.2.2.1, (1 : Int)))))
 else
 Option.bind (r31 y8.1) fun (y9 : (T_3 × Bool)) =>
 Option.bind (
 bif !(!(y8.2.2)) then
 some !(y9.2)
 else
 some true) fun (d10 : Bool) =>
 bif d10 then
 some (Sum.inr (Sum.inr ((), (d7.2.2.1, (4 : Int)))))
 else
 Option.bind (r21 (a.1, y9.1)) fun (y11 : Int) =>
 bif !(decide (y11 = (0 : Int))) then
 some (Sum.inr (Sum.inr ((), (d7.2.2.1, y11))))
 else
 bif roomOk false d7.2.2.2.length 1 120 then
 some (Sum.inl (y8.2.1, ((), ((Go.IntKind.wrap .i64 (d7.2.2.1 + (1 : Int))), app d7.2.2.2 [y9.1]))))
 else
 none
 else
 some (Sum.inr (Sum.inl ((), d7.2.2.2)))
def sg13 : Sig := ⟨[⟨true, .bo, (.pair (.int .i64) (.pair (.sl (.pair (.int .i64) (.int .i64))) (.int .i64)))⟩, ⟨false, .bo, .str⟩], [⟨false, .own, E_9⟩, ⟨false, .own, (.int .i64)⟩, ⟨false, .own, (.int .i64)⟩]⟩
noncomputable def r13 (a : (T_8 × List UInt8)) : Option T_1 :=
 Option.bind (r20 a.1) fun (y1 : Int) =>
 bif !(decide (y1 = (0 : Int))) then
 some ([], ((0 : Int), y1))
 else
 Option.bind (loopR (r13_L0 a) (a.2, ((), ((0 : Int), [])))) fun (q12 : (T_2 ⊕ (Unit × (Int × Int)))) =>
 Sum.elim (fun (v13 : T_2) =>
 some (v13.2, ((0 : Int), (0 : Int))))
 (fun (v14 : (Unit × (Int × Int))) =>
 some ([], v14.2)) q12
def an13 : Ann := .two (.leaf) (.two (.two (.leaf) (.two (.leaf) (.two (.two (.leaf) (.leaf)) (.leaf)))) (.two (.leaf) (.two (.two (.leaf) (.one (.loop [2] [2] [(8, E_10)] [.tmp 1 (.str), .tmp 8 (.own 8 [(0, 0)] E_10), .tmp 9 (.int .i64), .row 8 [.sl .own E_10]] [⟨.exit 0, [], [.tmp 8 (.own 8 [(0, 0)] E_10), .row 8 [.sl .own E_10]]⟩, ⟨.ret, [], [.tmp 4 (.nil), .tmp 5 (.int .i64), .tmp 6 (.int .i64)]⟩] (.two (.two (.leaf) (.two (.leaf) (.leaf))) (.two (.one (.two (.leaf) (.two (.two (.leaf) (.two (.two (.leaf) (.leaf)) (.leaf))) (.two (.leaf) (.two (.two (.join [2, 8, 9, 11, 13] [2, 8, 13] [⟨.normal, [], [.tmp 44 (.bool)]⟩] (.leaf)) (.two (.two (.leaf) (.leaf)) (.leaf))) (.two (.two (.leaf) (.two (.leaf) (.two (.two (.leaf) (.leaf)) (.leaf)))) (.two (.leaf) (.leaf)))))))) (.leaf)))))) (.two (.leaf) (.leaf)))))
theorem s13 : SoundF cx.P cx.G 13 sg13 r13 := by
  have e : denF cx [(20, ⟨sg20, r20⟩), (21, ⟨sg21, r21⟩), (30, ⟨sg30, r30⟩), (31, ⟨sg31, r31⟩)] an13 Tryd.f13.ntmps (Tryd.f13.body.getD .skip) Tryd.f13.results.toList sg13 = r13 := by kernel_rfl
  rw [← e]
  exact sound_of_den (c := cx) (Known.cons (.ofF s20 (by kernel_rfl)) Tryd.func20 (by kernel_rfl) (by kernel_rfl) (Known.cons (.ofF s21 (by kernel_rfl)) Tryd.func21 (by kernel_rfl) (by kernel_rfl) (Known.cons (.ofF s30 (by kernel_rfl)) Tryd.func30 (by kernel_rfl) (by kernel_rfl) (Known.cons (.ofF s31 (by kernel_rfl)) Tryd.func31 (by kernel_rfl) (by kernel_rfl) (Known.nil))))) Tryd.func13 (by kernel_rfl) (Nat.le_of_ble_eq_true (by kernel_rfl)) rfl
/-! reredos/reredoskeep.sameInts -/
noncomputable def r32_L0 (a : (List Int × List Int)) (d1 : Int) : Option (Int ⊕ (Unit ⊕ Bool)) :=
 bif decide (d1 < (↑a.1.length : Int)) then
 Option.bind (idxI a.1 d1) fun (b4 : Int) =>
 Option.bind (idxI a.2 d1) fun (b5 : Int) =>
 bif !(decide (b4 = b5)) then
 some (Sum.inr (Sum.inr false))
 else
 some (Sum.inl (Go.IntKind.wrap .i64 (d1 + (1 : Int))))
 else
 some (Sum.inr (Sum.inl ()))
def sg32 : Sig := ⟨[⟨false, .bo, (.sl (.int .i64))⟩, ⟨false, .bo, (.sl (.int .i64))⟩], [⟨false, .own, .bool⟩]⟩
noncomputable def r32 (a : (List Int × List Int)) : Option Bool :=
 bif !(decide ((↑a.1.length : Int) = (↑a.2.length : Int))) then
 some false
 else
 Option.bind (loopR (r32_L0 a) (0 : Int)) fun (q6 : (Unit ⊕ Bool)) =>
 Sum.elim (fun (_ : Unit) =>
 some true)
 (fun (v8 : Bool) =>
 some v8) q6
def an32 : Ann := .two (.leaf) (.two (.two (.leaf) (.two (.two (.leaf) (.leaf)) (.leaf))) (.two (.two (.leaf) (.one (.loop [0, 1] [] [] [.tmp 5 (.int .i64)] [⟨.exit 0, [], []⟩, ⟨.ret, [], [.tmp 4 (.bool)]⟩] (.two (.two (.leaf) (.two (.leaf) (.leaf))) (.two (.one (.two (.draw 8) (.two (.two (.leaf) (.leaf)) (.leaf)))) (.leaf)))))) (.two (.leaf) (.leaf))))
theorem s32 : SoundF cx.P cx.G 32 sg32 r32 := by
  have e : denF cx [] an32 Tryd.f32.ntmps (Tryd.f32.body.getD .skip) Tryd.f32.results.toList sg32 = r32 := by kernel_rfl
  rw [← e]
  exact sound_of_den (c := cx) (Known.nil) Tryd.func32 (by kernel_rfl) (Nat.le_of_ble_eq_true (by kernel_rfl)) rfl
/-! reredos/reredoskeep.sameActs -/
noncomputable def r14_L0 (a : (List (T_3) × List (T_3))) (d1 : Int) : Option (Int ⊕ (Unit ⊕ Bool)) :=
 bif decide (d1 < (↑a.1.length : Int)) then
 Option.bind (idxI a.1 d1) fun (b2 : T_3) =>
 Option.bind (idxI a.2 d1) fun (b3 : T_3) =>
 Option.bind (
 Option.bind (
 bif !(!(decide (b2.1 = b3.1))) then
 some (!(decide (b2.2.1 = b3.2.1)))
 else
 some true) fun (g18 : Bool) =>
 Option.bind (
 bif !(g18) then
 some (!(decide (b2.2.2.1 = b3.2.2.1)))
 else
 some true) fun (g19 : Bool) =>
 Option.bind (
 bif !(g19) then
 some (!(decide (b2.2.2.2.1 = b3.2.2.2.1)))
 else
 some true) fun (g20 : Bool) =>
 Option.bind (
 bif !(g20) then
 some (!(decide (b2.2.2.2.2.1 = b3.2.2.2.2.1)))
 else
 some true) fun (g21 : Bool) =>
 Option.bind (
 bif !(g21) then
 some (!((decide (b2.2.2.2.2.2.2.1.1 = b3.2.2.2.2.2.2.1.1) && (decide (b2.2.2.2.2.2.2.1.2.1 = b3.2.2.2.2.2.2.1.2.1) && (decide (b2.2.2.2.2.2.2.1.2.2.1 = b3.2.2.2.2.2.2.1.2.2.1) && (decide (b2.2.2.2.2.2.2.1.2.2.2.1 = b3.2.2.2.2.2.2.1.2.2.2.1) && (decide (b2.2.2.2.2.2.2.1.2.2.2.2 = b3.2.2.2.2.2.2.1.2.2.2.2) && true)))))))
 else
 some true) fun (g22 : Bool) =>
 Option.bind (
 bif !(g22) then
 some (!(decide (b2.2.2.2.2.2.2.2 = b3.2.2.2.2.2.2.2)))
 else
 some true) fun (g23 : Bool) =>
 bif !(g23) then
 Option.bind (r32 (b2.2.2.2.2.2.1, b3.2.2.2.2.2.1)) fun (y24 : Bool) =>
 some !(y24)
 else
 some true) fun (d25 : Bool) =>
 bif d25 then
 some (Sum.inr (Sum.inr false))
 else
 some (Sum.inl (Go.IntKind.wrap .i64 (d1 + (1 : Int))))
 else
 some (Sum.inr (Sum.inl ()))
def sg14 : Sig := ⟨[⟨false, .bo, E_9⟩, ⟨false, .bo, E_9⟩], [⟨false, .own, .bool⟩]⟩
noncomputable def r14 (a : (List (T_3) × List (T_3))) : Option Bool :=
 bif !(decide ((↑a.1.length : Int) = (↑a.2.length : Int))) then
 some false
 else
 Option.bind (loopR (r14_L0 a) (0 : Int)) fun (q26 : (Unit ⊕ Bool)) =>
 Sum.elim (fun (_ : Unit) =>
 some true)
 (fun (v28 : Bool) =>
 some v28) q26
def an14 : Ann := .two (.leaf) (.two (.two (.leaf) (.two (.two (.leaf) (.leaf)) (.leaf))) (.two (.two (.leaf) (.one (.loop [0, 1] [] [] [.tmp 5 (.int .i64)] [⟨.exit 0, [], []⟩, ⟨.ret, [], [.tmp 4 (.bool)]⟩] (.two (.two (.leaf) (.two (.leaf) (.leaf))) (.two (.one (.two (.leaf) (.two (.leaf) (.two (.join [0, 1, 5] [] [⟨.normal, [], [.tmp 81 (.bool)]⟩] (.segs [(12, ([0, 1, 5, 6, 7], ([6, 7], [.tmp 38 (.bool)]))), (7, ([0, 1, 5, 6, 7], ([6, 7], [.tmp 45 (.bool)]))), (7, ([0, 1, 5, 6, 7], ([6, 7], [.tmp 52 (.bool)]))), (7, ([0, 1, 5, 6, 7], ([6, 7], [.tmp 59 (.bool)]))), (7, ([0, 1, 5, 6, 7], ([6, 7], [.tmp 66 (.bool)]))), (7, ([0, 1, 5, 6, 7], ([6, 7], [.tmp 73 (.bool)])))])) (.two (.two (.leaf) (.leaf)) (.leaf)))))) (.leaf)))))) (.two (.leaf) (.leaf))))
theorem s14 : SoundF cx.P cx.G 14 sg14 r14 := by
  have e : denF cx [(32, ⟨sg32, r32⟩)] an14 Tryd.f14.ntmps (Tryd.f14.body.getD .skip) Tryd.f14.results.toList sg14 = r14 := by kernel_rfl
  rw [← e]
  exact sound_of_den (c := cx) (Known.cons (.ofF s32 (by kernel_rfl)) Tryd.func32 (by kernel_rfl) (by kernel_rfl) (Known.nil)) Tryd.func14 (by kernel_rfl) (Nat.le_of_ble_eq_true (by kernel_rfl)) rfl
/-! reredos/reredoskeep.LinesBack -/
def sg4 : Sig := ⟨[⟨false, .bo, (.int .i64)⟩, ⟨false, .bo, (.sl (.int .i64))⟩, ⟨false, .bo, (.int .i64)⟩, ⟨false, .bo, E_12⟩], [⟨false, .own, .bool⟩]⟩
noncomputable def r4 (a : (Int × (List Int × (Int × List ((Int × T_7)))))) : Option Bool :=
 Option.bind (r12 (a.1, a.2.1, a.2.2.1)) fun (y1 : T_8) =>
 Option.bind (r10 (y1, a.2.2.2, (30 : Int), true)) fun (y2 : List (T_3)) =>
 Option.bind (r11 (y1, y2)) fun (y3 : (List UInt8 × (Int × Int))) =>
 Option.bind (r13 (y1, y3.1)) fun (y4 : T_1) =>
 Option.bind (r11 (y1, [((6 : Int), ((0 : Int), ((0 : Int), ((0 : Int), ((0 : Int), ([(20 : Int)], (((0 : Int), ((0 : Int), ((0 : Int), ((0 : Int), (0 : Int))))), ([] : List UInt8))))))))])) fun (y5 : (List UInt8 × (Int × Int))) =>
 Option.bind (
 bif decide (y3.2.2 = (0 : Int)) then
 some (decide (y4.2.2 = (0 : Int)))
 else
 some false) fun (g6 : Bool) =>
 Option.bind (
 bif g6 then
 some (decide (y5.2.2 = (0 : Int)))
 else
 some false) fun (g7 : Bool) =>
 Option.bind (
 bif g7 then
 some (decide ((Go.IntKind.wrap .i64 (y3.2.1 + y4.2.1)) = (0 : Int)))
 else
 some false) fun (g8 : Bool) =>
 Option.bind (
 bif g8 then
 some (decide (y5.1 = ([99, 114, 97, 115, 104, 32, 48, 32, 50, 48, 10] : List UInt8)))
 else
 some false) fun (g9 : Bool) =>
 bif g9 then
 Option.bind (r14 (y2, y4.1)) fun (y10 : Bool) =>
 some y10
 else
 some false
def an4 : Ann := .two (.leaf) (.two (.leaf) (.two (.leaf) (.two (.leaf) (.two (.leaf) (.two (.leaf) (.two (.segs [(6, ([10, 12, 14, 15, 17, 19], ([26, 37], [.tmp 55 (.bool)]))), (4, ([10, 12, 14, 15, 17], ([26, 37], [.tmp 59 (.bool)]))), (6, ([10, 14, 17], ([26, 37], [.tmp 65 (.bool)]))), (4, ([10, 14], ([26, 37], [.tmp 69 (.bool)])))]) (.leaf)))))))
theorem s4 : SoundF cx.P cx.G 4 sg4 r4 := by
  have e : denF cx [(10, ⟨sg10, r10⟩), (11, ⟨sg11, r11⟩), (12, ⟨sg12, r12⟩), (13, ⟨sg13, r13⟩), (14, ⟨sg14, r14⟩)] an4 Tryd.f4.ntmps (Tryd.f4.body.getD .skip) Tryd.f4.results.toList sg4 = r4 := by kernel_rfl
  rw [← e]
  exact sound_of_den (c := cx) (Known.cons (.ofF s10 (by kernel_rfl)) Tryd.func10 (by kernel_rfl) (by kernel_rfl) (Known.cons (.ofF s11 (by kernel_rfl)) Tryd.func11 (by kernel_rfl) (by kernel_rfl) (Known.cons (.ofF s12 (by kernel_rfl)) Tryd.func12 (by kernel_rfl) (by kernel_rfl) (Known.cons (.ofF s13 (by kernel_rfl)) Tryd.func13 (by kernel_rfl) (by kernel_rfl) (Known.cons (.ofF s14 (by kernel_rfl)) Tryd.func14 (by kernel_rfl) (by kernel_rfl) (Known.nil)))))) Tryd.func4 (by kernel_rfl) (Nat.le_of_ble_eq_true (by kernel_rfl)) rfl
/-! reredos/reredoskeep.LinesFixed -/
def sg5 : Sig := ⟨[⟨false, .bo, (.int .i64)⟩, ⟨false, .bo, (.sl (.int .i64))⟩, ⟨false, .bo, .str⟩], [⟨false, .own, .bool⟩]⟩
noncomputable def r5 (a : (Int × (List Int × List UInt8))) : Option Bool :=
 Option.bind (r12 (a.1, a.2.1, (1 : Int))) fun (y1 : T_8) =>
 Option.bind (r13 (y1, a.2.2)) fun (y2 : T_1) =>
 Option.bind (r13 (y1, ([116, 105, 99, 107, 10, 116, 97, 99, 107, 10] : List UInt8))) fun (y3 : T_1) =>
 Option.bind (
 bif !(!(decide (y3.2.2 = (4 : Int)))) then
 some (!(decide (y3.2.1 = (1 : Int))))
 else
 some true) fun (d4 : Bool) =>
 bif d4 then
 some false
 else
 bif !(decide (y2.2.2 = (0 : Int))) then
 bif decide ((↑y2.1.length : Int) = (0 : Int)) then
 some (decide ((0 : Int) ≤ y2.2.1))
 else
 some false
 else
 Option.bind (r11 (y1, y2.1)) fun (y5 : (List UInt8 × (Int × Int))) =>
 Option.bind (
 bif decide (y5.2.2 = (0 : Int)) then
 some (decide (y5.1 = a.2.2))
 else
 some false) fun (g6 : Bool) =>
 Option.bind (
 bif g6 then
 some (decide (y2.2.1 = (0 : Int)))
 else
 some false) fun (g7 : Bool) =>
 bif g7 then
 some (decide (y5.2.1 = (0 : Int)))
 else
 some false
def an5 : Ann := .two (.leaf) (.two (.leaf) (.two (.leaf) (.two (.leaf) (.two (.two (.join [2, 7, 8, 9, 10] [7, 23] [⟨.normal, [], [.tmp 38 (.bool)]⟩] (.leaf)) (.two (.two (.leaf) (.leaf)) (.leaf))) (.two (.two (.leaf) (.two (.two (.leaf) (.leaf)) (.leaf))) (.two (.leaf) (.two (.segs [(7, ([9, 15], ([], [.tmp 61 (.bool)]))), (4, ([15], ([], [.tmp 65 (.bool)])))]) (.leaf))))))))
theorem s5 : SoundF cx.P cx.G 5 sg5 r5 := by
  have e : denF cx [(11, ⟨sg11, r11⟩), (12, ⟨sg12, r12⟩), (13, ⟨sg13, r13⟩)] an5 Tryd.f5.ntmps (Tryd.f5.body.getD .skip) Tryd.f5.results.toList sg5 = r5 := by kernel_rfl
  rw [← e]
  exact sound_of_den (c := cx) (Known.cons (.ofF s11 (by kernel_rfl)) Tryd.func11 (by kernel_rfl) (by kernel_rfl) (Known.cons (.ofF s12 (by kernel_rfl)) Tryd.func12 (by kernel_rfl) (by kernel_rfl) (Known.cons (.ofF s13 (by kernel_rfl)) Tryd.func13 (by kernel_rfl) (by kernel_rfl) (Known.nil)))) Tryd.func5 (by kernel_rfl) (Nat.le_of_ble_eq_true (by kernel_rfl)) rfl
end Go.Hl
