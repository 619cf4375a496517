/- What the functions compute: written by gen.py. -/
import Derived.Test.YtmcaghldcabnnaaDoorLibK
import Derived.Lib.Builder
import Derived.Test.YtmcaghldcabnnaaDoorLibI
import Derived.WalkKit
import Derived.Lib.Walk
import Derived.Lib.JoinLaws
import Derived.Test.YtmcaghldcabnnaaDoorHlShelf
import Derived.Test.YtmcaghldcabnnaaDoorProg
import Derived.KernelRfl
namespace Go.Hj
open Go.RowKit Go.Proofs Go.V Go.Proofs
abbrev E_6 : Ty := (.pair (.int .i64) (.pair (.int .i64) (.pair (.int .i64) (.pair (.int .i64) (.int .i64)))))
abbrev E_5 : Ty := (.pair (.int .i64) E_6)
abbrev E_4 : Ty := (.pair (.int .i64) (.pair (.int .i64) (.pair (.int .i64) (.pair (.int .i64) (.pair (.int .i64) (.pair (.sl (.int .i64)) (.pair E_6 .str)))))))
abbrev E_3 : Ty := (.pair (.int .i64) (.pair (.int .i64) (.pair (.int .i64) (.pair (.int .i64) (.pair (.int .i64) (.pair (.rsl (.int .i64)) (.pair E_6 .str)))))))
abbrev E_2 : Ty := (.sl E_3)
abbrev T_1 : Type := (Int × (Int × (Int × (Int × Int))))
abbrev T_0 : Type := (Int × (Int × (Int × (Int × (Int × (List Int × (T_1 × List UInt8)))))))
def tys : List (Nat × TyInfo) := [
 (3, ⟨.int .i64, 1, 8, [.int .i64 0], false, [none], [none], (.int .i64)⟩),
 (4, ⟨.bool, 1, 1, [.bool false], false, [none], [none], .bool⟩),
 (5, ⟨.int .u8, 1, 1, [.int .u8 0], false, [none], [none], (.int .u8)⟩),
 (9, ⟨.str, 1, 16, [.string ⟨#[]⟩], false, [none], [none], .str⟩),
 (22, ⟨.sl 61, 1, 24, [.slice none 0 0], false, [some E_5], [none], (.sl E_5)⟩),
 (23, ⟨.sl 59, 1, 24, [.slice none 0 0], false, [some (.pair (.int .i64) (.int .i64))], [none], (.sl (.pair (.int .i64) (.int .i64)))⟩),
 (25, ⟨.st [(0, 3), (1, 23), (2, 3)], 3, 40, [.int .i64 0, .slice none 0 0, .int .i64 0], false, [none, some (.pair (.int .i64) (.int .i64)), none], [none, none, none], (.pair (.int .i64) (.pair (.rsl (.pair (.int .i64) (.int .i64))) (.int .i64)))⟩),
 (27, ⟨.sl 33, 1, 24, [.slice none 0 0], false, [some E_3], [none], E_2⟩),
 (29, ⟨.sl 3, 1, 24, [.slice none 0 0], false, [some (.int .i64)], [none], (.sl (.int .i64))⟩),
 (31, ⟨.st [(0, 3), (1, 3), (2, 3), (3, 3), (4, 3)], 5, 40, [.int .i64 0, .int .i64 0, .int .i64 0, .int .i64 0, .int .i64 0], true, [none, none, none, none, none], [none, none, none, none, none], E_6⟩),
 (33, ⟨.st [(0, 3), (1, 3), (2, 3), (3, 3), (4, 3), (5, 29), (6, 31), (11, 9)], 12, 120, [.int .i64 0, .int .i64 0, .int .i64 0, .int .i64 0, .int .i64 0, .slice none 0 0, .int .i64 0, .int .i64 0, .int .i64 0, .int .i64 0, .int .i64 0, .string ⟨#[]⟩], false, [none, none, none, none, none, some (.int .i64), none, none, none, none, none, none], [none, none, none, none, none, none, none, none, none, none, none, none], E_3⟩),
 (34, ⟨.int .i64, 1, 8, [.int .i64 0], false, [none], [none], (.int .i64)⟩),
 (44, ⟨.sl 9, 1, 24, [.slice none 0 0], false, [some .str], [none], (.sl .str)⟩),
 (56, ⟨.sl 5, 1, 24, [.slice none 0 0], false, [some (.int .u8)], [none], (.sl (.int .u8))⟩),
 (59, ⟨.st [(0, 3), (1, 3)], 2, 16, [.int .i64 0, .int .i64 0], true, [none, none], [none, none], (.pair (.int .i64) (.int .i64))⟩),
 (61, ⟨.st [(0, 3), (1, 3), (2, 3), (3, 3), (4, 3), (5, 3)], 6, 48, [.int .i64 0, .int .i64 0, .int .i64 0, .int .i64 0, .int .i64 0, .int .i64 0], false, [none, none, none, none, none, none], [none, none, none, none, none, none], E_5⟩),
 (65, ⟨.ptr, 1, 8, [.pointer none], false, [none], [none], .unit⟩),
 (67, ⟨.st [(0, 65), (1, 56)], 2, 32, [.pointer none, .slice none 0 0], false, [none, some (.int .u8)], [none, none], .unit⟩),
 (73, ⟨.arr 9 9, 9, 144, [.string ⟨#[]⟩, .string ⟨#[]⟩, .string ⟨#[]⟩, .string ⟨#[]⟩, .string ⟨#[]⟩, .string ⟨#[]⟩, .string ⟨#[]⟩, .string ⟨#[]⟩, .string ⟨#[]⟩], false, [none, none, none, none, none, none, none, none, none], [none, none, none, none, none, none, none, none, none], .unit⟩),
 (94, ⟨.arr 6 9, 6, 96, [.string ⟨#[]⟩, .string ⟨#[]⟩, .string ⟨#[]⟩, .string ⟨#[]⟩, .string ⟨#[]⟩, .string ⟨#[]⟩], false, [none, none, none, none, none, none], [none, none, none, none, none, none], .unit⟩),
 (115, ⟨.int .u64, 1, 8, [.int .u64 0], false, [none], [none], (.int .u64)⟩),
 (130, ⟨.arr 20 115, 20, 160, [.int .u64 0, .int .u64 0, .int .u64 0, .int .u64 0, .int .u64 0, .int .u64 0, .int .u64 0, .int .u64 0, .int .u64 0, .int .u64 0, .int .u64 0, .int .u64 0, .int .u64 0, .int .u64 0, .int .u64 0, .int .u64 0, .int .u64 0, .int .u64 0, .int .u64 0, .int .u64 0], false, [none, none, none, none, none, none, none, none, none, none, none, none, none, none, none, none, none, none, none, none], [none, none, none, none, none, none, none, none, none, none, none, none, none, none, none, none, none, none, none, none], .unit⟩),
 (144, ⟨.st [(0, 5), (1, 5)], 2, 2, [.int .u8 0, .int .u8 0], false, [none, none], [none, none], (.pair (.int .u8) (.int .u8))⟩),
 (145, ⟨.arr 16 144, 32, 32, [.int .u8 0, .int .u8 0, .int .u8 0, .int .u8 0, .int .u8 0, .int .u8 0, .int .u8 0, .int .u8 0, .int .u8 0, .int .u8 0, .int .u8 0, .int .u8 0, .int .u8 0, .int .u8 0, .int .u8 0, .int .u8 0, .int .u8 0, .int .u8 0, .int .u8 0, .int .u8 0, .int .u8 0, .int .u8 0, .int .u8 0, .int .u8 0, .int .u8 0, .int .u8 0, .int .u8 0, .int .u8 0, .int .u8 0, .int .u8 0, .int .u8 0, .int .u8 0], false, [none, none, none, none, none, none, none, none, none, none, none, none, none, none, none, none, none, none, none, none, none, none, none, none, none, none, none, none, none, none, none, none], [none, none, none, none, none, none, none, none, none, none, none, none, none, none, none, none, none, none, none, none, none, none, none, none, none, none, none, none, none, none, none, none], .unit⟩),
 (151, ⟨.arr 32 5, 32, 32, [.int .u8 0, .int .u8 0, .int .u8 0, .int .u8 0, .int .u8 0, .int .u8 0, .int .u8 0, .int .u8 0, .int .u8 0, .int .u8 0, .int .u8 0, .int .u8 0, .int .u8 0, .int .u8 0, .int .u8 0, .int .u8 0, .int .u8 0, .int .u8 0, .int .u8 0, .int .u8 0, .int .u8 0, .int .u8 0, .int .u8 0, .int .u8 0, .int .u8 0, .int .u8 0, .int .u8 0, .int .u8 0, .int .u8 0, .int .u8 0, .int .u8 0, .int .u8 0], false, [none, none, none, none, none, none, none, none, none, none, none, none, none, none, none, none, none, none, none, none, none, none, none, none, none, none, none, none, none, none, none, none], [none, none, none, none, none, none, none, none, none, none, none, none, none, none, none, none, none, none, none, none, none, none, none, none, none, none, none, none, none, none, none, none], .unit⟩),
 (152, ⟨.arr 64 5, 64, 64, [.int .u8 0, .int .u8 0, .int .u8 0, .int .u8 0, .int .u8 0, .int .u8 0, .int .u8 0, .int .u8 0, .int .u8 0, .int .u8 0, .int .u8 0, .int .u8 0, .int .u8 0, .int .u8 0, .int .u8 0, .int .u8 0, .int .u8 0, .int .u8 0, .int .u8 0, .int .u8 0, .int .u8 0, .int .u8 0, .int .u8 0, .int .u8 0, .int .u8 0, .int .u8 0, .int .u8 0, .int .u8 0, .int .u8 0, .int .u8 0, .int .u8 0, .int .u8 0, .int .u8 0, .int .u8 0, .int .u8 0, .int .u8 0, .int .u8 0, .int .u8 0, .int .u8 0, .int .u8 0, .int .u8 0, .int .u8 0, .int .u8 0, .int .u8 0, .int .u8 0, .int .u8 0, .int .u8 0, .int .u8 0, .int .u8 0, .int .u8 0, .int .u8 0, .int .u8 0, .int .u8 0, .int .u8 0, .int .u8 0, .int .u8 0, .int .u8 0, .int .u8 0, .int .u8 0, .int .u8 0, .int .u8 0, .int .u8 0, .int .u8 0, .int .u8 0], false, [none, none, none, none, none, none, none, none, none, none, none, none, none, none, none, none, none, none, none, none, none, none, none, none, none, none, none, none, none, none, none, none, none, none, none, none, none, none, none, none, none, none, none, none, none, none, none, none, none, none, none, none, none, none, none, none, none, none, none, none, none, none, none, none], [none, none, none, none, none, none, none, none, none, none, none, none, none, none, none, none, none, none, none, none, none, none, none, none, none, none, none, none, none, none, none, none, none, none, none, none, none, none, none, none, none, none, none, none, none, none, none, none, none, none, none, none, none, none, none, none, none, none, none, none, none, none, none, none], .unit⟩)]
theorem tysOk : TyOk Tryd.prog tys := tyOk_of fun e he => by
  simp only [tys, List.mem_cons, List.not_mem_nil, or_false] at he
  rcases he with rfl | rfl | rfl | rfl | rfl | rfl | rfl | rfl | rfl | rfl | rfl | rfl | rfl | rfl | rfl | rfl | rfl | rfl | rfl | rfl | rfl | rfl | rfl | rfl | rfl | rfl
  · exact ⟨by kernel_rfl, by kernel_rfl, fun h => nomatch h⟩
  · exact ⟨by kernel_rfl, by kernel_rfl, fun h => nomatch h⟩
  · exact ⟨by kernel_rfl, by kernel_rfl, fun h => nomatch h⟩
  · exact ⟨by kernel_rfl, by kernel_rfl, fun h => nomatch h⟩
  · exact ⟨by kernel_rfl, by kernel_rfl, fun h => nomatch h⟩
  · exact ⟨by kernel_rfl, by kernel_rfl, fun h => nomatch h⟩
  · exact ⟨by kernel_rfl, by kernel_rfl, fun h => nomatch h⟩
  · exact ⟨by kernel_rfl, by kernel_rfl, fun h => nomatch h⟩
  · exact ⟨by kernel_rfl, by kernel_rfl, fun h => nomatch h⟩
  · exact ⟨by kernel_rfl, by kernel_rfl, fun _ => ⟨by kernel_rfl, by kernel_rfl, by kernel_rfl⟩⟩
  · exact ⟨by kernel_rfl, by kernel_rfl, fun h => nomatch h⟩
  · exact ⟨by kernel_rfl, by kernel_rfl, fun h => nomatch h⟩
  · exact ⟨by kernel_rfl, by kernel_rfl, fun h => nomatch h⟩
  · exact ⟨by kernel_rfl, by kernel_rfl, fun h => nomatch h⟩
  · exact ⟨by kernel_rfl, by kernel_rfl, fun _ => ⟨by kernel_rfl, by kernel_rfl, by kernel_rfl⟩⟩
  · exact ⟨by kernel_rfl, by kernel_rfl, fun h => nomatch h⟩
  · exact ⟨by kernel_rfl, by kernel_rfl, fun h => nomatch h⟩
  · exact ⟨by kernel_rfl, by kernel_rfl, fun h => nomatch h⟩
  · exact ⟨by kernel_rfl, by kernel_rfl, fun h => nomatch h⟩
  · exact ⟨by kernel_rfl, by kernel_rfl, fun h => nomatch h⟩
  · exact ⟨by kernel_rfl, by kernel_rfl, fun h => nomatch h⟩
  · exact ⟨by kernel_rfl, by kernel_rfl, fun h => nomatch h⟩
  · exact ⟨by kernel_rfl, by kernel_rfl, fun h => nomatch h⟩
  · exact ⟨by kernel_rfl, by kernel_rfl, fun h => nomatch h⟩
  · exact ⟨by kernel_rfl, by kernel_rfl, fun h => nomatch h⟩
  · exact ⟨by kernel_rfl, by kernel_rfl, fun h => nomatch h⟩
def tab0 : List (List UInt8) := [([] : List UInt8),
 ([97, 115, 107] : List UInt8),
 ([100, 101, 108, 105, 118, 101, 114] : List UInt8),
 ([100, 114, 111, 112] : List UInt8),
 ([99, 111, 112, 121] : List UInt8),
 ([116, 105, 99, 107] : List UInt8),
 ([99, 114, 97, 115, 104] : List UInt8),
 ([115, 116, 97, 114, 116] : List UInt8),
 ([116, 121, 112, 101] : List UInt8)]
def tab1 : List (List UInt8) := [([] : List UInt8),
 ([98, 101, 103, 105, 110] : List UInt8),
 ([103, 101, 116] : List UInt8),
 ([112, 117, 116] : List UInt8),
 ([99, 111, 109, 109, 105, 116] : List UInt8),
 ([114, 111, 108, 108, 98, 97, 99, 107] : List UInt8)]
def tab3 : List Int := [(1 : Int),
 (10 : Int),
 (100 : Int),
 (1000 : Int),
 (10000 : Int),
 (100000 : Int),
 (1000000 : Int),
 (10000000 : Int),
 (100000000 : Int),
 (1000000000 : Int),
 (10000000000 : Int),
 (100000000000 : Int),
 (1000000000000 : Int),
 (10000000000000 : Int),
 (100000000000000 : Int),
 (1000000000000000 : Int),
 (10000000000000000 : Int),
 (100000000000000000 : Int),
 (1000000000000000000 : Int),
 (10000000000000000000 : Int)]
def tab7 : List (Int × Int) := [((128 : Int), (191 : Int)),
 ((160 : Int), (191 : Int)),
 ((128 : Int), (159 : Int)),
 ((144 : Int), (191 : Int)),
 ((128 : Int), (143 : Int)),
 ((0 : Int), (0 : Int)),
 ((0 : Int), (0 : Int)),
 ((0 : Int), (0 : Int)),
 ((0 : Int), (0 : Int)),
 ((0 : Int), (0 : Int)),
 ((0 : Int), (0 : Int)),
 ((0 : Int), (0 : Int)),
 ((0 : Int), (0 : Int)),
 ((0 : Int), (0 : Int)),
 ((0 : Int), (0 : Int)),
 ((0 : Int), (0 : Int))]
def tab8 : List Int := [(0 : Int),
 (1 : Int),
 (28 : Int),
 (2 : Int),
 (29 : Int),
 (14 : Int),
 (24 : Int),
 (3 : Int),
 (30 : Int),
 (22 : Int),
 (20 : Int),
 (15 : Int),
 (25 : Int),
 (17 : Int),
 (4 : Int),
 (8 : Int),
 (31 : Int),
 (27 : Int),
 (13 : Int),
 (23 : Int),
 (21 : Int),
 (19 : Int),
 (16 : Int),
 (7 : Int),
 (26 : Int),
 (12 : Int),
 (18 : Int),
 (6 : Int),
 (11 : Int),
 (5 : Int),
 (10 : Int),
 (9 : Int)]
def tab9 : List Int := [(0 : Int),
 (1 : Int),
 (56 : Int),
 (2 : Int),
 (57 : Int),
 (49 : Int),
 (28 : Int),
 (3 : Int),
 (61 : Int),
 (58 : Int),
 (42 : Int),
 (50 : Int),
 (38 : Int),
 (29 : Int),
 (17 : Int),
 (4 : Int),
 (62 : Int),
 (47 : Int),
 (59 : Int),
 (36 : Int),
 (45 : Int),
 (43 : Int),
 (51 : Int),
 (22 : Int),
 (53 : Int),
 (39 : Int),
 (33 : Int),
 (30 : Int),
 (24 : Int),
 (18 : Int),
 (12 : Int),
 (5 : Int),
 (63 : Int),
 (55 : Int),
 (48 : Int),
 (27 : Int),
 (60 : Int),
 (41 : Int),
 (37 : Int),
 (16 : Int),
 (46 : Int),
 (35 : Int),
 (44 : Int),
 (21 : Int),
 (52 : Int),
 (32 : Int),
 (23 : Int),
 (11 : Int),
 (54 : Int),
 (26 : Int),
 (40 : Int),
 (15 : Int),
 (34 : Int),
 (20 : Int),
 (31 : Int),
 (10 : Int),
 (25 : Int),
 (14 : Int),
 (19 : Int),
 (9 : Int),
 (13 : Int),
 (8 : Int),
 (7 : Int),
 (6 : Int)]
noncomputable def inls : List (Nat × Go.Func) := [(50, Tryd.f50), (51, Tryd.f51), (61, Tryd.f61)]
theorem inlsOk : ∀ f fn, Go.V.look inls f = some fn → Tryd.prog.funcs[f]? = some fn ∧ (fn.name == "runtime.NumGoroutine") = false := inlOk_of fun e he => by
  simp only [inls, List.mem_cons, List.not_mem_nil, or_false] at he
  rcases he with rfl | rfl | rfl
  · exact ⟨Tryd.func50, by kernel_rfl⟩
  · exact ⟨Tryd.func51, by kernel_rfl⟩
  · exact ⟨Tryd.func61, by kernel_rfl⟩
noncomputable def cx : Ctx := ⟨Tryd.prog, tys, tysOk, [(0, .ga .str tab0), (1, .ga .str tab1), (3, .ga (.int .u64) tab3)], 0, inls, inlsOk, by kernel_rfl⟩

/-! reredos/reredoskeep.picked -/
def sg15 : Sig := ⟨[⟨false, .bo, (.int .i64)⟩, ⟨false, .bo, (.int .i64)⟩], [⟨false, .own, (.int .i64)⟩]⟩
noncomputable def r15 (a : (Int × Int)) : Option Int :=
 Option.bind (
 bif decide (a.1 < (0 : Int)) then
 some (Go.IntKind.wrap .i64 (0 - (Go.IntKind.wrap .i64 (a.1 + (1 : Int)))))
 else
 some a.1) fun (d1 : Int) =>
 bif decide (a.2 = 0) then
 none
 else
 some (Int.tmod d1 a.2)
def an15 : Ann := .two (.leaf) (.two (.join [1] [] [⟨.normal, [], [.tmp 0 (.int .i64)]⟩] (.two (.leaf) (.two (.leaf) (.leaf)))) (.two (.leaf) (.leaf)))
theorem s15 : SoundF cx.P cx.G 15 sg15 r15 := by
  have e : denF cx [] an15 Tryd.f15.ntmps (Tryd.f15.body.getD .skip) Tryd.f15.results.toList sg15 = r15 := by kernel_rfl
  rw [← e]
  exact sound_of_den (c := cx) (Known.nil) Tryd.func15 (by kernel_rfl) (Nat.le_of_ble_eq_true (by kernel_rfl)) rfl

/-! reredos/reredoskeep.two -/
def sg9 : Sig := ⟨[⟨false, .bo, (.int .i64)⟩], [⟨true, .ro, (.pair (.int .i64) (.pair (.sl (.pair (.int .i64) (.int .i64))) (.int .i64)))⟩]⟩
noncomputable def r9 (a : Int) : Option (Int × (List ((Int × Int)) × Int)) :=
 Option.bind (r15 (a, (3 : Int))) fun (y1 : Int) =>
 some ((Go.IntKind.wrap .i64 ((1 : Int) + y1)), ([((0 : Int), (0 : Int)), ((1 : Int), (0 : Int))], (3 : Int)))
def an9 : Ann := .two (.leaf) (.two (.leaf) (.leaf))
theorem s9 : SoundF cx.P cx.G 9 sg9 r9 := by
  have e : denF cx [(15, ⟨sg15, r15⟩)] an9 Tryd.f9.ntmps (Tryd.f9.body.getD .skip) Tryd.f9.results.toList sg9 = r9 := by kernel_rfl
  rw [← e]
  exact sound_of_den (c := cx) (Known.cons (.ofF s15 (by kernel_rfl)) Tryd.func15 (by kernel_rfl) (by kernel_rfl) (Known.nil)) Tryd.func9 (by kernel_rfl) (Nat.le_of_ble_eq_true (by kernel_rfl)) rfl

/-! reredos/reredoskeep.ask -/
def sg18 : Sig := ⟨[⟨true, .bo, E_5⟩], [⟨true, .own, E_6⟩]⟩
noncomputable def r18 (a : (Int × T_1)) : Option T_1 :=
 Option.bind (r15 (a.1, (5 : Int))) fun (y1 : Int) =>
 Option.bind (
 bif !(decide ((Go.IntKind.wrap .i64 ((1 : Int) + y1)) = (1 : Int))) then
 Option.bind (r15 (a.2.1, (4 : Int))) fun (y4 : Int) =>
 some ((), ((Go.IntKind.wrap .i64 ((1 : Int) + y1)), ((Go.IntKind.wrap .i64 ((1 : Int) + y4)), ((0 : Int), ((0 : Int), (0 : Int))))))
 else
 some ((), ((Go.IntKind.wrap .i64 ((1 : Int) + y1)), ((0 : Int), ((0 : Int), ((0 : Int), (0 : Int))))))) fun (d5 : (Unit × T_1)) =>
 Option.bind (
 bif decide (d5.2.1 = (2 : Int)) then
 Option.bind (r15 (a.2.2.1, (3 : Int))) fun (y14 : Int) =>
 Option.bind (r15 (a.2.2.2.1, (4 : Int))) fun (y15 : Int) =>
 some ((), (d5.2.1, (d5.2.2.1, (y14, (y15, d5.2.2.2.2.2)))))
 else
 bif decide (d5.2.1 = (3 : Int)) then
 Option.bind (r15 (a.2.2.2.1, (4 : Int))) fun (y16 : Int) =>
 Option.bind (r15 (a.2.2.2.2.1, (99 : Int))) fun (y17 : Int) =>
 some ((), (d5.2.1, (d5.2.2.1, (d5.2.2.2.1, (y16, y17)))))
 else
 some ((), d5.2)) fun (d18 : (Unit × T_1)) =>
 some d18.2
def an18 : Ann := .two (.leaf) (.two (.leaf) (.two (.join [1, 2] [1, 2] [⟨.normal, [], [.tmp 3 (.pt 3 [(0, 0)] 0 0 5), .box 3 [.int .i64, .int .i64, .int .i64, .int .i64, .int .i64]]⟩] (.two (.leaf) (.two (.leaf) (.leaf)))) (.two (.join [2] [2] [⟨.normal, [], [.tmp 3 (.pt 3 [(0, 0)] 0 0 5), .box 3 [.int .i64, .int .i64, .int .i64, .int .i64, .int .i64]]⟩] (.two (.leaf) (.one (.two (.leaf) (.two (.two (.leaf) (.leaf)) (.two (.leaf) (.two (.two (.leaf) (.leaf)) (.leaf)))))))) (.two (.leaf) (.leaf)))))
theorem s18 : SoundF cx.P cx.G 18 sg18 r18 := by
  have e : denF cx [(15, ⟨sg15, r15⟩)] an18 Tryd.f18.ntmps (Tryd.f18.body.getD .skip) Tryd.f18.results.toList sg18 = r18 := by kernel_rfl
  rw [← e]
  exact sound_of_den (c := cx) (Known.cons (.ofF s15 (by kernel_rfl)) Tryd.func15 (by kernel_rfl) (by kernel_rfl) (Known.nil)) Tryd.func18 (by kernel_rfl) (Nat.le_of_ble_eq_true (by kernel_rfl)) rfl

/-! reredos/reredoskeep.dec -/
def sg16 : Sig := ⟨[⟨false, .bo, (.int .i64)⟩], [⟨false, .own, .str⟩]⟩
noncomputable def r16 : Nat → Int → Option (List UInt8)
 | 0 => fun _ => none
 | n + 1 => fun a =>
 bif decide (a < (10 : Int)) then
 some (List.map byte8 [(Go.IntKind.wrap .u8 (Go.IntKind.wrap .i64 ((48 : Int) + a)))])
 else
 Option.bind ((r16 n) (Go.IntKind.wrap .i64 (Int.tdiv a (10 : Int)))) fun (y2 : List UInt8) =>
 bif decide (y2.length + (List.map byte8 [(Go.IntKind.wrap .u8 (Go.IntKind.wrap .i64 ((48 : Int) + (Int.tmod a (10 : Int)))))]).length ≤ 9223372036854775807) then
 some (y2 ++ (List.map byte8 [(Go.IntKind.wrap .u8 (Go.IntKind.wrap .i64 ((48 : Int) + (Int.tmod a (10 : Int)))))]))
 else
 none
def an16 : Ann := .two (.leaf) (.two (.two (.leaf) (.two (.two (.leaf) (.leaf)) (.leaf))) (.two (.draw 9) (.leaf)))
theorem s16n : ∀ n, SoundF cx.P cx.G 16 sg16 (r16 n)
  | 0 => SoundF.none
  | n + 1 => by
    have e : denF cx [(16, ⟨sg16, r16 n⟩)] an16 Tryd.f16.ntmps (Tryd.f16.body.getD .skip) Tryd.f16.results.toList sg16 = r16 (n + 1) := by kernel_rfl
    rw [← e]
    exact sound_of_den (c := cx) (Known.cons (F := ⟨sg16, r16 n⟩) (.ofF (s16n n) (by kernel_rfl)) Tryd.func16 (by kernel_rfl) (by kernel_rfl) (Known.nil)) Tryd.func16 (by kernel_rfl) (Nat.le_of_ble_eq_true (by kernel_rfl)) rfl
noncomputable def R16 : Int → Option (List UInt8) := limR r16
theorem s16 : SoundF cx.P cx.G 16 sg16 R16 := SoundF.lim s16n

/-! reredos/reredoskeep.typed -/
def sg19 : Sig := ⟨[⟨true, .bo, E_5⟩, ⟨false, .bo, .bool⟩], [⟨false, .own, .str⟩]⟩
noncomputable def r19 (a : ((Int × T_1) × Bool)) : Option (List UInt8) :=
 Option.bind (r15 (a.1.2.1, (4 : Int))) fun (y7 : Int) =>
 Option.bind (R16 y7) fun (y8 : List UInt8) =>
 bif decide (y8.length + ([32] : List UInt8).length ≤ 9223372036854775807) then
 Option.bind (r15 (a.1.2.2.1, (3 : Int))) fun (y9 : Int) =>
 Option.bind (R16 y9) fun (y10 : List UInt8) =>
 bif decide ((y8 ++ ([32] : List UInt8)).length + y10.length ≤ 9223372036854775807) then
 bif decide (((y8 ++ ([32] : List UInt8)) ++ y10).length + ([32] : List UInt8).length ≤ 9223372036854775807) then
 Option.bind (r15 (a.1.2.2.2.1, (4 : Int))) fun (y11 : Int) =>
 Option.bind (R16 (Go.IntKind.wrap .i64 ((1 : Int) + y11))) fun (y12 : List UInt8) =>
 bif decide ((((y8 ++ ([32] : List UInt8)) ++ y10) ++ ([32] : List UInt8)).length + y12.length ≤ 9223372036854775807) then
 Option.bind (r15 (a.1.2.2.2.2.1, (8 : Int))) fun (y13 : Int) =>
 bif decide (y13 < (3 : Int)) then
 some ([108, 105, 115, 116] : List UInt8)
 else
 bif decide (y13 < (5 : Int)) then
 bif decide (([115, 116, 97, 116, 117, 115, 32] : List UInt8).length + ((((y8 ++ ([32] : List UInt8)) ++ y10) ++ ([32] : List UInt8)) ++ y12).length ≤ 9223372036854775807) then
 some (([115, 116, 97, 116, 117, 115, 32] : List UInt8) ++ ((((y8 ++ ([32] : List UInt8)) ++ y10) ++ ([32] : List UInt8)) ++ y12))
 else
 none
 else
 bif decide (y13 = (5 : Int)) then
 some ([97, 117, 100, 105, 116] : List UInt8)
 else
 Option.bind (
 bif decide (y13 = (6 : Int)) then
 some a.2
 else
 some false) fun (d14 : Bool) =>
 bif d14 then
 bif decide (([102, 111, 114, 99, 101, 32] : List UInt8).length + ((((y8 ++ ([32] : List UInt8)) ++ y10) ++ ([32] : List UInt8)) ++ y12).length ≤ 9223372036854775807) then
 bif decide ((([102, 111, 114, 99, 101, 32] : List UInt8) ++ ((((y8 ++ ([32] : List UInt8)) ++ y10) ++ ([32] : List UInt8)) ++ y12)).length + ([32] : List UInt8).length ≤ 9223372036854775807) then
 Option.bind (r15 (a.1.2.2.2.2.2, (2 : Int))) fun (y15 : Int) =>
 bif inB y15 ([([99, 111, 109, 109, 105, 116] : List UInt8), ([97, 98, 111, 114, 116] : List UInt8)].length) then
 Option.bind (idxN [([99, 111, 109, 109, 105, 116] : List UInt8), ([97, 98, 111, 114, 116] : List UInt8)] (Int.toNat y15)) fun (x16 : List UInt8) =>
 bif decide (((([102, 111, 114, 99, 101, 32] : List UInt8) ++ ((((y8 ++ ([32] : List UInt8)) ++ y10) ++ ([32] : List UInt8)) ++ y12)) ++ ([32] : List UInt8)).length + x16.length ≤ 9223372036854775807) then
 some (((([102, 111, 114, 99, 101, 32] : List UInt8) ++ ((((y8 ++ ([32] : List UInt8)) ++ y10) ++ ([32] : List UInt8)) ++ y12)) ++ ([32] : List UInt8)) ++ x16)
 else
 none
 else
 none
 else
 none
 else
 none
 else
 Option.bind (r15 (a.1.2.2.2.2.2, (6 : Int))) fun (y17 : Int) =>
 bif inB y17 ([([] : List UInt8), ([108, 105, 115, 116, 115] : List UInt8), ([115, 116, 97, 116, 117, 115, 32, 49, 32, 49] : List UInt8), ([102, 111, 114, 99, 101, 32, 48, 32, 48, 32, 49] : List UInt8), ([97, 117, 100, 105, 116, 32] : List UInt8), ([115, 116, 97, 116, 117, 115, 32, 48, 32, 48, 32, 48, 49] : List UInt8)].length) then
 Option.bind (idxN [([] : List UInt8), ([108, 105, 115, 116, 115] : List UInt8), ([115, 116, 97, 116, 117, 115, 32, 49, 32, 49] : List UInt8), ([102, 111, 114, 99, 101, 32, 48, 32, 48, 32, 49] : List UInt8), ([97, 117, 100, 105, 116, 32] : List UInt8), ([115, 116, 97, 116, 117, 115, 32, 48, 32, 48, 32, 48, 49] : List UInt8)] (Int.toNat y17)) fun (x18 : List UInt8) =>
 some x18
 else
 none
 else
 none
 else
 none
 else
 none
 else
 none
def an19 : Ann := .two (.leaf) (.two (.draw 16) (.two (.two (.leaf) (.one (.two (.leaf) (.two (.two (.leaf) (.leaf)) (.two (.leaf) (.two (.two (.leaf) (.leaf)) (.two (.leaf) (.two (.two (.leaf) (.leaf)) (.two (.join [2, 5] [2] [⟨.normal, [], [.tmp 38 (.bool)]⟩] (.leaf)) (.two (.two (.leaf) (.leaf)) (.leaf))))))))))) (.two (.leaf) (.leaf))))
theorem s19 : SoundF cx.P cx.G 19 sg19 r19 := by
  have e : denF cx [(15, ⟨sg15, r15⟩), (16, ⟨sg16, R16⟩)] an19 Tryd.f19.ntmps (Tryd.f19.body.getD .skip) Tryd.f19.results.toList sg19 = r19 := by kernel_rfl
  rw [← e]
  exact sound_of_den (c := cx) (Known.cons (.ofF s15 (by kernel_rfl)) Tryd.func15 (by kernel_rfl) (by kernel_rfl) (Known.cons (.ofF s16 (by kernel_rfl)) Tryd.func16 (by kernel_rfl) (by kernel_rfl) (Known.nil))) Tryd.func19 (by kernel_rfl) (Nat.le_of_ble_eq_true (by kernel_rfl)) rfl

/-! reredos/reredoskeep.Acts -/
noncomputable def r10_L0 (a : ((Int × (List ((Int × Int)) × Int)) × (List ((Int × T_1)) × (Int × Bool)))) (b281 : (Int × T_1)) (d326 : (Unit × (Int × (Int × (Int × (Int × (Int × (Int × (List Int × (Int × (Int × (Int × (Int × (Int × List UInt8)))))))))))))) : Option ((Unit × (Int × (Int × (Int × (Int × (Int × (Int × (List Int × (Int × (Int × (Int × (Int × (Int × List UInt8))))))))))))) ⊕ (Unit × (Int × (Int × (Int × (Int × (Int × (List Int × (Int × (Int × (Int × (Int × (Int × List UInt8))))))))))))) :=
 bif decide (d326.2.1 < (↑a.1.2.1.length : Int)) then
 bif decide ((Go.IntKind.wrap .i64 (d326.2.1 + (1 : Int))) = 0) then
 none
 else
 Option.bind (r15 ((Go.IntKind.wrap .i64 (Int.tdiv b281.2.2.2.2.1 (Go.IntKind.wrap .i64 (d326.2.1 + (1 : Int))))), (40 : Int))) fun (y328 : Int) =>
 bif roomOk false d326.2.2.2.2.2.2.2.1.length 1 8 then
 some (Sum.inl ((), ((Go.IntKind.wrap .i64 (d326.2.1 + (1 : Int))), (d326.2.2.1, (d326.2.2.2.1, (d326.2.2.2.2.1, (d326.2.2.2.2.2.1, (d326.2.2.2.2.2.2.1, (app d326.2.2.2.2.2.2.2.1 [y328], d326.2.2.2.2.2.2.2.2)))))))))
 else
 none
 else
 some (Sum.inr ((), d326.2.2))
noncomputable def r10_L1 (a : ((Int × (List ((Int × Int)) × Int)) × (List ((Int × T_1)) × (Int × Bool)))) (d169 : (Unit × (Int × List (T_0)))) : Option ((Unit × (Int × List (T_0))) ⊕ (Unit × List (T_0))) :=
 Option.bind (
 bif decide (d169.2.1 < (↑a.2.1.length : Int)) then
 some (decide ((↑d169.2.2.length : Int) < a.2.2.1))
 else
 some false) fun (d170 : Bool) =>
 bif d170 then
 Option.bind (
 Option.bind (idxI a.2.1 d169.2.1) fun (b281 : (Int × T_1)) =>
 Option.bind (r15 ((Go.IntKind.wrap .i64 (Int.tdiv b281.2.1 (31 : Int))), a.1.1)) fun (y284 : Int) =>
 Option.bind (r15 ((Go.IntKind.wrap .i64 (Int.tdiv b281.2.2.1 (31 : Int))), (↑a.1.2.1.length : Int))) fun (y285 : Int) =>
 Option.bind (
 Option.bind (r15 (b281.1, (20 : Int))) fun (y316 : Int) =>
 bif decide (y316 < (8 : Int)) then
 Option.bind (r18 ((Go.IntKind.wrap .i64 (Int.tdiv b281.2.2.2.1 (9 : Int))), (b281.2.1, (b281.2.2.1, (b281.2.2.2.1, (b281.2.2.2.2.1, (0 : Int))))))) fun (y317 : T_1) =>
 some ((), ((1 : Int), (y284, ((0 : Int), (y285, ((0 : Int), ([], (y317.1, (y317.2.1, (y317.2.2.1, (y317.2.2.2.1, (y317.2.2.2.2, ([] : List UInt8)))))))))))))
 else
 bif decide (y316 < (15 : Int)) then
 Option.bind (r15 (b281.2.2.2.1, a.1.1)) fun (y318 : Int) =>
 Option.bind (r15 (b281.2.2.2.2.1, (3 : Int))) fun (y319 : Int) =>
 some ((), ((2 : Int), (y284, (y318, (y285, (y319, ([], ((0 : Int), ((0 : Int), ((0 : Int), ((0 : Int), ((0 : Int), ([] : List UInt8)))))))))))))
 else
 bif decide (y316 = (15 : Int)) then
 Option.bind (r15 (b281.2.2.2.2.2, (2 : Int))) fun (y320 : Int) =>
 Option.bind (r15 (b281.2.2.2.1, a.1.1)) fun (y321 : Int) =>
 Option.bind (r15 (b281.2.2.2.2.1, (3 : Int))) fun (y322 : Int) =>
 some ((), ((Go.IntKind.wrap .i64 ((4 : Int) - y320)), (y284, (y321, (y285, (y322, ([], ((0 : Int), ((0 : Int), ((0 : Int), ((0 : Int), ((0 : Int), ([] : List UInt8)))))))))))))
 else
 bif decide (y316 = (16 : Int)) then
 some ((), ((5 : Int), ((0 : Int), ((0 : Int), ((0 : Int), ((0 : Int), ([], ((0 : Int), ((0 : Int), ((0 : Int), ((0 : Int), ((0 : Int), ([] : List UInt8)))))))))))))
 else
 bif decide (y316 = (17 : Int)) then
 Option.bind (loopR (r10_L0 a b281) ((), ((0 : Int), ((6 : Int), (y284, ((0 : Int), ((0 : Int), ((0 : Int), ([], ((0 : Int), ((0 : Int), ((0 : Int), ((0 : Int), ((0 : Int), ([] : List UInt8))))))))))))))) fun (q329 : (Unit × (Int × (Int × (Int × (Int × (Int × (List Int × (Int × (Int × (Int × (Int × (Int × List UInt8))))))))))))) =>
 some ((), q329.2)
 else
 bif decide (y316 = (18 : Int)) then
 some ((), ((7 : Int), (y284, ((0 : Int), ((0 : Int), ((0 : Int), ([], ((0 : Int), ((0 : Int), ((0 : Int), ((0 : Int), ((0 : Int), ([] : List UInt8)))))))))))))
 else
 Option.bind (r19 (b281, a.2.2.2)) fun (y330 : List UInt8) =>
 some ((), ((8 : Int), (y284, ((0 : Int), (y285, ((0 : Int), ([], ((0 : Int), ((0 : Int), ((0 : Int), ((0 : Int), ((0 : Int), y330))))))))))))) fun (d331 : (Unit × (Int × (Int × (Int × (Int × (Int × (List Int × (Int × (Int × (Int × (Int × (Int × List UInt8))))))))))))) =>
 bif roomOk false d169.2.2.length 1 120 then
 Option.bind (
 bif decide (d331.2.1 = (1 : Int)) then
 Option.bind (r15 (b281.2.2.2.2.2, (4 : Int))) fun (y334 : Int) =>
 some (decide ((0 : Int) < y334))
 else
 some false) fun (d335 : Bool) =>
 bif d335 then
 bif decide (a.1.1 = 0) then
 none
 else
 bif roomOk false ((app d169.2.2 [(d331.2.1, (d331.2.2.1, (d331.2.2.2.1, (d331.2.2.2.2.1, (d331.2.2.2.2.2.1, (d331.2.2.2.2.2.2.1, ((d331.2.2.2.2.2.2.2.1, (d331.2.2.2.2.2.2.2.2.1, (d331.2.2.2.2.2.2.2.2.2.1, (d331.2.2.2.2.2.2.2.2.2.2.1, d331.2.2.2.2.2.2.2.2.2.2.2.1)))), d331.2.2.2.2.2.2.2.2.2.2.2.2)))))))]).length) 2 120 then
 some ((), app (app d169.2.2 [(d331.2.1, (d331.2.2.1, (d331.2.2.2.1, (d331.2.2.2.2.1, (d331.2.2.2.2.2.1, (d331.2.2.2.2.2.2.1, ((d331.2.2.2.2.2.2.2.1, (d331.2.2.2.2.2.2.2.2.1, (d331.2.2.2.2.2.2.2.2.2.1, (d331.2.2.2.2.2.2.2.2.2.2.1, d331.2.2.2.2.2.2.2.2.2.2.2.1)))), d331.2.2.2.2.2.2.2.2.2.2.2.2)))))))]) [((2 : Int), (d331.2.2.1, ((Int.tmod d331.2.2.2.2.2.2.2.2.2.2.1 a.1.1), (d331.2.2.2.2.1, ((0 : Int), ([], (((0 : Int), ((0 : Int), ((0 : Int), ((0 : Int), (0 : Int))))), ([] : List UInt8)))))))), ((2 : Int), ((Int.tmod d331.2.2.2.2.2.2.2.2.2.2.1 a.1.1), (d331.2.2.1, (d331.2.2.2.2.1, ((0 : Int), ([], (((0 : Int), ((0 : Int), ((0 : Int), ((0 : Int), (0 : Int))))), ([] : List UInt8))))))))])
 else
 none
 else
 some ((), app d169.2.2 [(d331.2.1, (d331.2.2.1, (d331.2.2.2.1, (d331.2.2.2.2.1, (d331.2.2.2.2.2.1, (d331.2.2.2.2.2.2.1, ((d331.2.2.2.2.2.2.2.1, (d331.2.2.2.2.2.2.2.2.1, (d331.2.2.2.2.2.2.2.2.2.1, (d331.2.2.2.2.2.2.2.2.2.2.1, d331.2.2.2.2.2.2.2.2.2.2.2.1)))), d331.2.2.2.2.2.2.2.2.2.2.2.2)))))))])
 else
 none) fun (d336 : (Unit × List (T_0))) =>
 some (Sum.inl ((), ((Go.IntKind.wrap .i64 (d169.2.1 + (1 : Int))), d336.2)))
 else
 some (Sum.inr ((), d169.2.2))
def sg10 : Sig := ⟨[⟨true, .bo, (.pair (.int .i64) (.pair (.sl (.pair (.int .i64) (.int .i64))) (.int .i64)))⟩, ⟨false, .bo, (.sl E_5)⟩, ⟨false, .bo, (.int .i64)⟩, ⟨false, .bo, .bool⟩], [⟨false, .own, E_2⟩]⟩
noncomputable def r10 (a : ((Int × (List ((Int × Int)) × Int)) × (List ((Int × T_1)) × (Int × Bool)))) : Option (List (T_0)) :=
 Option.bind (loopR (r10_L1 a) ((), ((0 : Int), []))) fun (q337 : (Unit × List (T_0))) =>
 some q337.2
def an10 : Ann := .two (.leaf) (.two (.leaf) (.two (.two (.leaf) (.one (.loop [1, 2, 3, 4] [4] [(9, E_3)] [.tmp 9 (.own 9 [(0, 0)] E_3), .tmp 10 (.int .i64), .row 9 [.sl .own E_3]] [⟨.exit 0, [], [.tmp 9 (.own 9 [(0, 0)] E_3), .row 9 [.sl .own E_3]]⟩] (.two (.two (.join [1, 2, 3, 4, 9, 10] [4, 9] [⟨.normal, [], [.tmp 25 (.bool)]⟩] (.leaf)) (.two (.leaf) (.leaf))) (.two (.join [1, 2, 3, 4, 10] [4] [⟨.normal, [(9, E_3)], [.tmp 9 (.own 9 [(0, 0)] E_3), .row 9 [.sl .own E_3]]⟩] (.one (.two (.leaf) (.two (.draw 15) (.two (.join [1, 2, 3, 4, 9, 10, 11] [4, 9, 11] [⟨.normal, [], [.tmp 12 (.pt 12 [(0, 0)] 0 0 12), .box 12 [.int .i64, .int .i64, .int .i64, .int .i64, .int .i64, .sl .own (.int .i64), .int .i64, .int .i64, .int .i64, .int .i64, .int .i64, .str]]⟩] (.two (.leaf) (.one (.two (.leaf) (.two (.two (.leaf) (.leaf)) (.two (.leaf) (.two (.two (.leaf) (.two (.leaf) (.leaf))) (.two (.leaf) (.two (.two (.leaf) (.two (.leaf) (.leaf))) (.two (.leaf) (.two (.leaf) (.two (.leaf) (.two (.two (.leaf) (.two (.leaf) (.one (.loop [1, 2, 3, 4, 9, 10, 11] [4, 9, 11] [] [.tmp 12 (.pt 12 [(0, 0)] 0 0 12), .tmp 14 (.int .i64), .box 12 [.int .i64, .int .i64, .int .i64, .int .i64, .int .i64, .sl .own (.int .i64), .int .i64, .int .i64, .int .i64, .int .i64, .int .i64, .str]] [⟨.exit 3, [], [.tmp 12 (.pt 12 [(0, 0)] 0 0 12), .box 12 [.int .i64, .int .i64, .int .i64, .int .i64, .int .i64, .sl .own (.int .i64), .int .i64, .int .i64, .int .i64, .int .i64, .int .i64, .str]]⟩] (.two (.two (.leaf) (.two (.leaf) (.leaf))) (.two (.one (.draw 9)) (.leaf))))))) (.two (.leaf) (.two (.leaf) (.two (.leaf) (.leaf))))))))))))))))) (.two (.leaf) (.two (.join [1, 2, 3, 4, 9, 10, 12] [4, 12, 141] [⟨.normal, [], [.tmp 150 (.bool)]⟩] (.leaf)) (.two (.two (.leaf) (.leaf)) (.leaf))))))))) (.leaf)))))) (.two (.leaf) (.leaf))))
theorem s10 : SoundF cx.P cx.G 10 sg10 r10 := by
  have e : denF cx [(15, ⟨sg15, r15⟩), (18, ⟨sg18, r18⟩), (19, ⟨sg19, r19⟩)] an10 Tryd.f10.ntmps (Tryd.f10.body.getD .skip) Tryd.f10.results.toList sg10 = r10 := by kernel_rfl
  rw [← e]
  exact sound_of_den (c := cx) (Known.cons (.ofF s15 (by kernel_rfl)) Tryd.func15 (by kernel_rfl) (by kernel_rfl) (Known.cons (.ofF s18 (by kernel_rfl)) Tryd.func18 (by kernel_rfl) (by kernel_rfl) (Known.cons (.ofF s19 (by kernel_rfl)) Tryd.func19 (by kernel_rfl) (by kernel_rfl) (Known.nil)))) Tryd.func10 (by kernel_rfl) (Nat.le_of_ble_eq_true (by kernel_rfl)) rfl

/-! reredos/label.one -/
def sg36 : Sig := ⟨[⟨true, .bo, (.pair (.int .i64) (.int .i64))⟩], [⟨false, .own, .bool⟩]⟩
noncomputable def r36 (a : (Int × Int)) : Option Bool :=
 Option.bind (
 bif decide ((0 : Int) ≤ a.1) then
 some (decide (a.1 ≤ (9 : Int)))
 else
 some false) fun (g1 : Bool) =>
 Option.bind (
 bif g1 then
 some (decide ((0 : Int) ≤ a.2))
 else
 some false) fun (g2 : Bool) =>
 bif g2 then
 some (decide (a.2 ≤ (15 : Int)))
 else
 some false
def an36 : Ann := .two (.leaf) (.two (.segs [(8, ([1], ([1], [.tmp 10 (.bool)]))), (5, ([1], ([1], [.tmp 15 (.bool)])))]) (.leaf))
theorem s36 : SoundF cx.P cx.G 36 sg36 r36 := by
  have e : denF cx [] an36 Tryd.f36.ntmps (Tryd.f36.body.getD .skip) Tryd.f36.results.toList sg36 = r36 := by kernel_rfl
  rw [← e]
  exact sound_of_den (c := cx) (Known.nil) Tryd.func36 (by kernel_rfl) (Nat.le_of_ble_eq_true (by kernel_rfl)) rfl

/-! reredos/label.Check -/
noncomputable def r20_L0 (d3 : Int) (a : (Int × (List ((Int × Int)) × Int))) (b4 : (Int × Int)) (d6 : Int) : Option (Int ⊕ (Unit ⊕ Int)) :=
 bif decide (d6 < (↑((List.take (Int.toNat d3) a.2.1).length) : Int)) then
 Option.bind (idxI (List.take (Int.toNat d3) a.2.1) d6) fun (b7 : (Int × Int)) =>
 bif (decide (b7.1 = b4.1) && (decide (b7.2 = b4.2) && true)) then
 some (Sum.inr (Sum.inr (7 : Int)))
 else
 some (Sum.inl (Go.IntKind.wrap .i64 (d6 + (1 : Int))))
 else
 some (Sum.inr (Sum.inl ()))
noncomputable def r20_L1 (a : (Int × (List ((Int × Int)) × Int))) (d3 : Int) : Option (Int ⊕ (Unit ⊕ Int)) :=
 bif decide (d3 < (↑a.2.1.length : Int)) then
 Option.bind (idxI a.2.1 d3) fun (b4 : (Int × Int)) =>
 Option.bind (r36 b4) fun (y5 : Bool) =>
 bif !(y5) then
 some (Sum.inr (Sum.inr (2 : Int)))
 else
 bif okB none (some d3) none a.2.1.length then
 Option.bind (loopR (r20_L0 d3 a b4) (0 : Int)) fun (q8 : (Unit ⊕ Int)) =>
 Sum.elim (fun (_ : Unit) =>
 some (Sum.inl (Go.IntKind.wrap .i64 (d3 + (1 : Int)))))
 (fun (v10 : Int) =>
 some (Sum.inr (Sum.inr v10))) q8
 else
 none
 else
 some (Sum.inr (Sum.inl ()))
def sg20 : Sig := ⟨[⟨true, .bo, (.pair (.int .i64) (.pair (.sl (.pair (.int .i64) (.int .i64))) (.int .i64)))⟩], [⟨false, .own, (.int .i64)⟩]⟩
noncomputable def r20 (a : (Int × (List ((Int × Int)) × Int))) : Option Int :=
 Option.bind (
 bif !(decide (a.1 < (1 : Int))) then
 some (decide ((4 : Int) < a.1))
 else
 some true) fun (d1 : Bool) =>
 bif d1 then
 some (2 : Int)
 else
 Option.bind (
 bif !(decide ((↑a.2.1.length : Int) < (1 : Int))) then
 some (decide ((6 : Int) < (↑a.2.1.length : Int)))
 else
 some true) fun (d2 : Bool) =>
 bif d2 then
 some (1 : Int)
 else
 Option.bind (loopR (r20_L1 a) (0 : Int)) fun (q11 : (Unit ⊕ Int)) =>
 Sum.elim (fun (_ : Unit) =>
 Option.bind (
 bif !(decide (a.2.2 < (1 : Int))) then
 some (decide ((1048576 : Int) < a.2.2))
 else
 some true) fun (d14 : Bool) =>
 bif d14 then
 some (2 : Int)
 else
 some (0 : Int))
 (fun (v13 : Int) =>
 some v13) q11
def an20 : Ann := .two (.leaf) (.two (.two (.join [1] [1] [⟨.normal, [], [.tmp 14 (.bool)]⟩] (.leaf)) (.two (.two (.leaf) (.leaf)) (.leaf))) (.two (.two (.join [1] [1] [⟨.normal, [], [.tmp 24 (.bool)]⟩] (.leaf)) (.two (.two (.leaf) (.leaf)) (.leaf))) (.two (.two (.leaf) (.one (.loop [1, 26, 27] [1] [] [.tmp 28 (.int .i64)] [⟨.exit 0, [], []⟩, ⟨.ret, [], [.tmp 2 (.int .i64)]⟩] (.two (.leaf) (.two (.two (.leaf) (.leaf)) (.two (.one (.two (.leaf) (.two (.two (.leaf) (.two (.two (.leaf) (.leaf)) (.leaf))) (.two (.leaf) (.one (.loop [1, 4, 26, 27, 28, 39, 40] [1, 4] [] [.tmp 41 (.int .i64)] [⟨.exit 2, [], []⟩, ⟨.ret, [], [.tmp 2 (.int .i64)]⟩] (.two (.leaf) (.two (.two (.leaf) (.leaf)) (.two (.one (.two (.leaf) (.two (.leaf) (.two (.two (.leaf) (.leaf)) (.leaf))))) (.leaf)))))))))) (.leaf))))))) (.two (.two (.join [] [] [⟨.normal, [], [.tmp 57 (.bool)]⟩] (.leaf)) (.two (.two (.leaf) (.leaf)) (.leaf))) (.two (.leaf) (.leaf))))))
theorem s20 : SoundF cx.P cx.G 20 sg20 r20 := by
  have e : denF cx [(36, ⟨sg36, r36⟩)] an20 Tryd.f20.ntmps (Tryd.f20.body.getD .skip) Tryd.f20.results.toList sg20 = r20 := by kernel_rfl
  rw [← e]
  exact sound_of_den (c := cx) (Known.cons (.ofF s36 (by kernel_rfl)) Tryd.func36 (by kernel_rfl) (by kernel_rfl) (Known.nil)) Tryd.func20 (by kernel_rfl) (Nat.le_of_ble_eq_true (by kernel_rfl)) rfl

/-! reredos/lines.numbers$1 -/
def sg51 : Sig := ⟨[⟨false, .bo, (.int .i64)⟩], [⟨false, .own, .bool⟩]⟩
noncomputable def r51 (a : Int) : Option Bool :=
 bif !(decide (a < (0 : Int))) then
 some (decide ((6000 : Int) < a))
 else
 some true
def an51 : Ann := .two (.leaf) (.two (.leaf) (.leaf))
theorem s51 : SoundF cx.P cx.G 51 sg51 r51 := by
  have e : denF cx [] an51 Tryd.f51.ntmps (Tryd.f51.body.getD .skip) Tryd.f51.results.toList sg51 = r51 := by kernel_rfl
  rw [← e]
  exact sound_of_den (c := cx) (Known.nil) Tryd.func51 (by kernel_rfl) (Nat.le_of_ble_eq_true (by kernel_rfl)) rfl

/-! reredos/lines.numbers -/
noncomputable def r37_L0 (a : ((Int × (List ((Int × Int)) × Int)) × T_0)) (d38 : Int) : Option (Int ⊕ (Unit ⊕ Int)) :=
 bif decide (d38 < (↑a.2.2.2.2.2.2.1.length : Int)) then
 Option.bind (idxI a.2.2.2.2.2.2.1 d38) fun (b39 : Int) =>
 Option.bind (
 bif !(decide (b39 < (0 : Int))) then
 some (decide ((6000 : Int) < b39))
 else
 some true) fun (d40 : Bool) =>
 bif d40 then
 some (Sum.inr (Sum.inr d38))
 else
 some (Sum.inl (Go.IntKind.wrap .i64 (d38 + (1 : Int))))
 else
 some (Sum.inr (Sum.inl ()))
def sg37 : Sig := ⟨[⟨true, .bo, (.pair (.int .i64) (.pair (.sl (.pair (.int .i64) (.int .i64))) (.int .i64)))⟩, ⟨true, .bo, E_4⟩], [⟨false, .own, .bool⟩]⟩
noncomputable def r37 (a : ((Int × (List ((Int × Int)) × Int)) × T_0)) : Option Bool :=
 Option.bind (
 Option.bind (
 bif !(decide (a.2.2.1 < (0 : Int))) then
 some (decide (a.1.1 ≤ a.2.2.1))
 else
 some true) fun (g17 : Bool) =>
 Option.bind (
 bif !(g17) then
 some (decide (a.2.2.2.1 < (0 : Int)))
 else
 some true) fun (g18 : Bool) =>
 Option.bind (
 bif !(g18) then
 some (decide (a.1.1 ≤ a.2.2.2.1))
 else
 some true) fun (g19 : Bool) =>
 Option.bind (
 bif !(g19) then
 some (decide (a.2.2.2.2.1 < (0 : Int)))
 else
 some true) fun (g20 : Bool) =>
 Option.bind (
 bif !(g20) then
 some (decide ((↑a.1.2.1.length : Int) ≤ a.2.2.2.2.1))
 else
 some true) fun (g21 : Bool) =>
 Option.bind (
 bif !(g21) then
 some (decide (a.2.2.2.2.2.1 < (0 : Int)))
 else
 some true) fun (g22 : Bool) =>
 Option.bind (
 bif !(g22) then
 some (decide ((1048576 : Int) < a.2.2.2.2.2.1))
 else
 some true) fun (g23 : Bool) =>
 Option.bind (
 bif !(g23) then
 some (decide ((↑a.1.2.1.length : Int) < (↑a.2.2.2.2.2.2.1.length : Int)))
 else
 some true) fun (g24 : Bool) =>
 bif !(g24) then
 some (decide ((60 : Int) < (↑a.2.2.2.2.2.2.2.2.length : Int)))
 else
 some true) fun (d25 : Bool) =>
 bif d25 then
 some false
 else
 Option.bind (
 Option.bind (loopR (r37_L0 a) (0 : Int)) fun (q41 : (Unit ⊕ Int)) =>
 Sum.elim (fun (_ : Unit) =>
 some (-1 : Int))
 (fun (v43 : Int) =>
 some v43) q41) fun (d44 : Int) =>
 some (!(decide ((0 : Int) ≤ d44)))
def an37 : Ann := .two (.leaf) (.two (.two (.join [3] [3] [⟨.normal, [], [.tmp 64 (.bool)]⟩] (.segs [(10, ([2, 3], ([2, 3], [.tmp 14 (.bool)]))), (5, ([2, 3], ([2, 3], [.tmp 19 (.bool)]))), (7, ([2, 3], ([2, 3], [.tmp 26 (.bool)]))), (5, ([2, 3], ([2, 3], [.tmp 31 (.bool)]))), (8, ([2, 3], ([2, 3], [.tmp 39 (.bool)]))), (5, ([2, 3], ([2, 3], [.tmp 44 (.bool)]))), (5, ([2, 3], ([2, 3], [.tmp 49 (.bool)]))), (9, ([3], ([3], [.tmp 58 (.bool)])))])) (.two (.two (.leaf) (.leaf)) (.leaf))) (.two (.inl 2 69 (.two (.leaf) (.two (.inl 2 78 (.join [] [] [⟨.ret, [], [.tmp 82 (.int .i64)]⟩] (.two (.leaf) (.two (.two (.leaf) (.one (.loop [78, 79, 85] [] [] [.tmp 86 (.int .i64)] [⟨.exit 0, [], []⟩, ⟨.ret, [], [.tmp 82 (.int .i64)]⟩] (.two (.leaf) (.two (.two (.leaf) (.leaf)) (.two (.one (.two (.leaf) (.two (.inl 5 97 (.join [78, 79, 83, 85, 86] [] [⟨.ret, [], [.tmp 99 (.bool)]⟩] (.two (.leaf) (.two (.leaf) (.leaf)))) (.leaf)) (.two (.two (.leaf) (.leaf)) (.leaf))))) (.leaf))))))) (.two (.leaf) (.leaf))))) (.leaf)) (.leaf))) (.leaf)) (.leaf)))
theorem s37 : SoundF cx.P cx.G 37 sg37 r37 := by
  have e : denF cx [] an37 Tryd.f37.ntmps (Tryd.f37.body.getD .skip) Tryd.f37.results.toList sg37 = r37 := by kernel_rfl
  rw [← e]
  exact sound_of_den (c := cx) (Known.nil) Tryd.func37 (by kernel_rfl) (Nat.le_of_ble_eq_true (by kernel_rfl)) rfl

/-! reredos/lines.bare -/
def sg38 : Sig := ⟨[⟨true, .bo, E_4⟩], [⟨false, .own, .bool⟩]⟩
noncomputable def r38 (a : T_0) : Option Bool :=
 Option.bind (
 Option.bind (
 bif !(decide (a.1 = (2 : Int))) then
 some (decide (a.1 = (3 : Int)))
 else
 some true) fun (g3 : Bool) =>
 bif !(g3) then
 some (decide (a.1 = (4 : Int)))
 else
 some true) fun (d4 : Bool) =>
 Option.bind (
 bif !(d4) then
 some (!(decide (a.1 = (5 : Int))))
 else
 some true) fun (d5 : Bool) =>
 Option.bind (
 Option.bind (
 bif !(d4) then
 some (decide (a.1 = (1 : Int)))
 else
 some true) fun (g8 : Bool) =>
 bif !(g8) then
 some (decide (a.1 = (8 : Int)))
 else
 some true) fun (d9 : Bool) =>
 Option.bind (
 bif !(d5) then
 some (decide (a.2.1 = (0 : Int)))
 else
 some true) fun (g10 : Bool) =>
 Option.bind (
 bif g10 then
 bif !(d9) then
 some (decide (a.2.2.2.1 = (0 : Int)))
 else
 some true
 else
 some false) fun (g11 : Bool) =>
 Option.bind (
 bif g11 then
 bif !(d4) then
 bif decide (a.2.2.1 = (0 : Int)) then
 some (decide (a.2.2.2.2.1 = (0 : Int)))
 else
 some false
 else
 some true
 else
 some false) fun (g12 : Bool) =>
 Option.bind (
 bif g12 then
 bif !(decide (a.1 = (6 : Int))) then
 some (decide ((↑a.2.2.2.2.2.1.length : Int) = (0 : Int)))
 else
 some true
 else
 some false) fun (g13 : Bool) =>
 Option.bind (
 bif g13 then
 bif !(decide (a.1 = (1 : Int))) then
 some (decide (a.2.2.2.2.2.2.1.1 = (0 : Int)) && (decide (a.2.2.2.2.2.2.1.2.1 = (0 : Int)) && (decide (a.2.2.2.2.2.2.1.2.2.1 = (0 : Int)) && (decide (a.2.2.2.2.2.2.1.2.2.2.1 = (0 : Int)) && (decide (a.2.2.2.2.2.2.1.2.2.2.2 = (0 : Int)) && true)))))
 else
 some true
 else
 some false) fun (g14 : Bool) =>
 bif g14 then
 bif !(decide (a.1 = (8 : Int))) then
 some (decide (a.2.2.2.2.2.2.2 = ([] : List UInt8)))
 else
 some true
 else
 some false
def an38 : Ann := .two (.leaf) (.two (.join [1] [1] [⟨.normal, [], [.tmp 3 (.bool)]⟩] (.segs [(8, ([1], ([1], [.tmp 13 (.bool)])))])) (.two (.join [1, 3] [1] [⟨.normal, [], [.tmp 4 (.bool)]⟩] (.leaf)) (.two (.join [1, 3, 4] [1] [⟨.normal, [], [.tmp 5 (.bool)]⟩] (.segs [(6, ([1, 3, 4], ([1], [.tmp 30 (.bool)])))])) (.two (.segs [(6, ([1, 3, 5], ([1], [.tmp 41 (.bool)]))), (8, ([1, 3], ([1], [.tmp 49 (.bool)]))), (13, ([1], ([1], [.tmp 62 (.bool)]))), (11, ([1], ([1], [.tmp 73 (.bool)]))), (11, ([1], ([1], [.tmp 84 (.bool)])))]) (.leaf)))))
theorem s38 : SoundF cx.P cx.G 38 sg38 r38 := by
  have e : denF cx [] an38 Tryd.f38.ntmps (Tryd.f38.body.getD .skip) Tryd.f38.results.toList sg38 = r38 := by kernel_rfl
  rw [← e]
  exact sound_of_den (c := cx) (Known.nil) Tryd.func38 (by kernel_rfl) (Nat.le_of_ble_eq_true (by kernel_rfl)) rfl

/-! reredos/lines.call -/
def sg39 : Sig := ⟨[⟨true, .bo, E_6⟩], [⟨false, .own, (.int .i64)⟩]⟩
noncomputable def r39 (a : T_1) : Option Int :=
 Option.bind (
 bif !(decide (a.1 < (1 : Int))) then
 some (decide ((5 : Int) < a.1))
 else
 some true) fun (d1 : Bool) =>
 bif d1 then
 some (3 : Int)
 else
 Option.bind (
 Option.bind (
 bif !(decide (a.2.1 < (0 : Int))) then
 some (decide ((1048576 : Int) < a.2.1))
 else
 some true) fun (g14 : Bool) =>
 Option.bind (
 bif !(g14) then
 some (decide (a.2.2.1 < (0 : Int)))
 else
 some true) fun (g15 : Bool) =>
 Option.bind (
 bif !(g15) then
 some (decide ((6 : Int) ≤ a.2.2.1))
 else
 some true) fun (g16 : Bool) =>
 Option.bind (
 bif !(g16) then
 some (decide (a.2.2.2.1 < (0 : Int)))
 else
 some true) fun (g17 : Bool) =>
 Option.bind (
 bif !(g17) then
 some (decide ((8 : Int) < a.2.2.2.1))
 else
 some true) fun (g18 : Bool) =>
 Option.bind (
 bif !(g18) then
 some (decide (a.2.2.2.2 < (0 : Int)))
 else
 some true) fun (g19 : Bool) =>
 bif !(g19) then
 some (decide ((1073741824 : Int) < a.2.2.2.2))
 else
 some true) fun (d20 : Bool) =>
 bif d20 then
 some (2 : Int)
 else
 Option.bind (
 bif !(decide (a.1 = (1 : Int))) then
 some ((), (a.1, (a.2.1, ((0 : Int), ((0 : Int), (0 : Int))))))
 else
 some ((), (a.1, ((0 : Int), ((0 : Int), ((0 : Int), (0 : Int))))))) fun (d21 : (Unit × T_1)) =>
 Option.bind (
 bif decide (a.1 = (2 : Int)) then
 Option.bind (
 
 some ((), (d21.2.1, (d21.2.2.1, (a.2.2.1, (a.2.2.2.1, d21.2.2.2.2.2)))))) fun (d26 : (Unit × T_1)) =>
 some ((), d26.2)
 else
 bif decide (a.1 = (3 : Int)) then
 Option.bind (
 
 some ((), (d21.2.1, (d21.2.2.1, (d21.2.2.2.1, a.2.2.2))))) fun (d27 : (Unit × T_1)) =>
 some ((), d27.2)
 else
 some ((), d21.2)) fun (d28 : (Unit × T_1)) =>
 bif !((decide (a.1 = d28.2.1) && (decide (a.2.1 = d28.2.2.1) && (decide (a.2.2.1 = d28.2.2.2.1) && (decide (a.2.2.2.1 = d28.2.2.2.2.1) && (decide (a.2.2.2.2 = d28.2.2.2.2.2) && true)))))) then
 some (4 : Int)
 else
 some (0 : Int)
noncomputable def r39q : T_1 → Option Int := fun a =>
 Option.bind (
 bif !(decide (a.1 < (1 : Int))) then
 some (decide ((5 : Int) < a.1))
 else
 some true) fun (d1 : Bool) =>
 bif d1 then
 some (3 : Int)
 else
 Option.bind (
 Option.bind (
 bif !(decide (a.2.1 < (0 : Int))) then
 some (decide ((1048576 : Int) < a.2.1))
 else
 some true) fun (g14 : Bool) =>
 Option.bind (
 bif !(g14) then
 some (decide (a.2.2.1 < (0 : Int)))
 else
 some true) fun (g15 : Bool) =>
 Option.bind (
 bif !(g15) then
 some (decide ((6 : Int) ≤ a.2.2.1))
 else
 some true) fun (g16 : Bool) =>
 Option.bind (
 bif !(g16) then
 some (decide (a.2.2.2.1 < (0 : Int)))
 else
 some true) fun (g17 : Bool) =>
 Option.bind (
 bif !(g17) then
 some (decide ((8 : Int) < a.2.2.2.1))
 else
 some true) fun (g18 : Bool) =>
 Option.bind (
 bif !(g18) then
 some (decide (a.2.2.2.2 < (0 : Int)))
 else
 some true) fun (g19 : Bool) =>
 bif !(g19) then
 some (decide ((1073741824 : Int) < a.2.2.2.2))
 else
 some true) fun (d20 : Bool) =>
 bif d20 then
 some (2 : Int)
 else
 Option.bind (
 bif !(decide (a.1 = (1 : Int))) then
 some ((), (a.1, (a.2.1, ((0 : Int), ((0 : Int), (0 : Int))))))
 else
 some ((), (a.1, ((0 : Int), ((0 : Int), ((0 : Int), (0 : Int))))))) fun (d21 : (Unit × T_1)) =>
 Option.bind (
 bif decide (a.1 = (2 : Int)) then
 Option.bind (
 sameR (
 some ((), (d21.2.1, (d21.2.2.1, (a.2.2.1, (a.2.2.2.1, d21.2.2.2.2.2))))))
 (
 sameR (
 sameR (
 some ((), (d21.2.1, (d21.2.2.1, (a.2.2.1, (a.2.2.2.1, d21.2.2.2.2.2))))))
 (
 some ((), (d21.2.1, (d21.2.2.1, (a.2.2.1, (a.2.2.2.1, d21.2.2.2.2.2)))))))
 (
 sameR (
 sameR (
 some ((), (d21.2.1, (d21.2.2.1, (a.2.2.1, (a.2.2.2.1, d21.2.2.2.2.2))))))
 (
 some ((), (d21.2.1, (d21.2.2.1, (a.2.2.1, (a.2.2.2.1, d21.2.2.2.2.2)))))))
 (
 some ((), (d21.2.1, (d21.2.2.1, (a.2.2.1, (a.2.2.2.1, d21.2.2.2.2.2))))))))) fun (d26 : (Unit × T_1)) =>
 some ((), d26.2)
 else
 bif decide (a.1 = (3 : Int)) then
 Option.bind (
 sameR (
 some ((), (d21.2.1, (d21.2.2.1, (d21.2.2.2.1, a.2.2.2)))))
 (
 sameR (
 sameR (
 some ((), (d21.2.1, (d21.2.2.1, (d21.2.2.2.1, a.2.2.2)))))
 (
 some ((), (d21.2.1, (d21.2.2.1, (d21.2.2.2.1, a.2.2.2))))))
 (
 sameR (
 sameR (
 some ((), (d21.2.1, (d21.2.2.1, (d21.2.2.2.1, a.2.2.2)))))
 (
 some ((), (d21.2.1, (d21.2.2.1, (d21.2.2.2.1, a.2.2.2))))))
 (
 some ((), (d21.2.1, (d21.2.2.1, (d21.2.2.2.1, a.2.2.2)))))))) fun (d27 : (Unit × T_1)) =>
 some ((), d27.2)
 else
 some ((), d21.2)) fun (d28 : (Unit × T_1)) =>
 bif !((decide (a.1 = d28.2.1) && (decide (a.2.1 = d28.2.2.1) && (decide (a.2.2.1 = d28.2.2.2.1) && (decide (a.2.2.2.1 = d28.2.2.2.2.1) && (decide (a.2.2.2.2 = d28.2.2.2.2.2) && true)))))) then
 some (4 : Int)
 else
 some (0 : Int)
theorem r39e : r39q = r39 := by unfold r39q r39; simp only [sameR_self]
def an39 : Ann := .two (.leaf) (.two (.two (.join [1] [1] [⟨.normal, [], [.tmp 11 (.bool)]⟩] (.leaf)) (.two (.two (.leaf) (.leaf)) (.leaf))) (.two (.two (.join [1] [1] [⟨.normal, [], [.tmp 49 (.bool)]⟩] (.segs [(8, ([1], ([1], [.tmp 19 (.bool)]))), (5, ([1], ([1], [.tmp 24 (.bool)]))), (5, ([1], ([1], [.tmp 29 (.bool)]))), (5, ([1], ([1], [.tmp 34 (.bool)]))), (5, ([1], ([1], [.tmp 39 (.bool)]))), (5, ([1], ([1], [.tmp 44 (.bool)])))])) (.two (.two (.leaf) (.leaf)) (.leaf))) (.two (.leaf) (.two (.join [1] [1] [⟨.normal, [], [.tmp 3 (.pt 3 [(0, 0)] 0 0 5), .box 3 [.int .i64, .int .i64, .int .i64, .int .i64, .int .i64]]⟩] (.two (.leaf) (.two (.leaf) (.leaf)))) (.two (.join [1] [1] [⟨.normal, [], [.tmp 3 (.pt 3 [(0, 0)] 0 0 5), .box 3 [.int .i64, .int .i64, .int .i64, .int .i64, .int .i64]]⟩] (.two (.leaf) (.one (.two (.leaf) (.two (.join [1] [1] [⟨.normal, [], [.tmp 3 (.pt 3 [(0, 0)] 0 0 5), .box 3 [.int .i64, .int .i64, .int .i64, .int .i64, .int .i64]]⟩] (.drawT [0, 1, 2, 3, 4] [2, 3])) (.two (.leaf) (.two (.join [1] [1] [⟨.normal, [], [.tmp 3 (.pt 3 [(0, 0)] 0 0 5), .box 3 [.int .i64, .int .i64, .int .i64, .int .i64, .int .i64]]⟩] (.drawT [0, 1, 2, 3, 4] [2, 3])) (.leaf)))))))) (.two (.two (.leaf) (.two (.two (.leaf) (.leaf)) (.leaf))) (.two (.leaf) (.leaf))))))))
theorem s39 : SoundF cx.P cx.G 39 sg39 r39 := by
  have e : denF cx [] an39 Tryd.f39.ntmps (Tryd.f39.body.getD .skip) Tryd.f39.results.toList sg39 = r39q := by kernel_rfl
  rw [← r39e, ← e]
  exact sound_of_den (c := cx) (Known.nil) Tryd.func39 (by kernel_rfl) (Nat.le_of_ble_eq_true (by kernel_rfl)) rfl

/-! reredos/lines.Check -/
def sg21 : Sig := ⟨[⟨true, .bo, (.pair (.int .i64) (.pair (.sl (.pair (.int .i64) (.int .i64))) (.int .i64)))⟩, ⟨true, .bo, E_4⟩], [⟨false, .own, (.int .i64)⟩]⟩
noncomputable def r21 (a : ((Int × (List ((Int × Int)) × Int)) × T_0)) : Option Int :=
 Option.bind (r20 a.1) fun (y1 : Int) =>
 bif !(decide (y1 = (0 : Int))) then
 some y1
 else
 Option.bind (
 bif !(decide (a.2.1 < (1 : Int))) then
 some (decide ((8 : Int) < a.2.1))
 else
 some true) fun (d2 : Bool) =>
 bif d2 then
 some (3 : Int)
 else
 Option.bind (r37 (a.1, a.2)) fun (y3 : Bool) =>
 bif !(y3) then
 some (2 : Int)
 else
 Option.bind (r38 a.2) fun (y4 : Bool) =>
 bif !(y4) then
 some (4 : Int)
 else
 bif decide (a.2.1 = (1 : Int)) then
 Option.bind (r39 a.2.2.2.2.2.2.2.1) fun (y5 : Int) =>
 some y5
 else
 some (0 : Int)
def an21 : Ann := .two (.leaf) (.two (.two (.leaf) (.two (.leaf) (.two (.two (.leaf) (.leaf)) (.leaf)))) (.two (.one (.two (.join [2, 3] [2, 3] [⟨.normal, [], [.tmp 11 (.bool)]⟩] (.leaf)) (.two (.two (.leaf) (.leaf)) (.two (.leaf) (.two (.two (.leaf) (.leaf)) (.two (.leaf) (.two (.two (.leaf) (.leaf)) (.two (.leaf) (.two (.two (.leaf) (.leaf)) (.leaf)))))))))) (.two (.leaf) (.leaf))))
theorem s21 : SoundF cx.P cx.G 21 sg21 r21 := by
  have e : denF cx [(20, ⟨sg20, r20⟩), (37, ⟨sg37, r37⟩), (38, ⟨sg38, r38⟩), (39, ⟨sg39, r39⟩)] an21 Tryd.f21.ntmps (Tryd.f21.body.getD .skip) Tryd.f21.results.toList sg21 = r21 := by kernel_rfl
  rw [← e]
  exact sound_of_den (c := cx) (Known.cons (.ofF s20 (by kernel_rfl)) Tryd.func20 (by kernel_rfl) (by kernel_rfl) (Known.cons (.ofF s37 (by kernel_rfl)) Tryd.func37 (by kernel_rfl) (by kernel_rfl) (Known.cons (.ofF s38 (by kernel_rfl)) Tryd.func38 (by kernel_rfl) (by kernel_rfl) (Known.cons (.ofF s39 (by kernel_rfl)) Tryd.func39 (by kernel_rfl) (by kernel_rfl) (Known.nil))))) Tryd.func21 (by kernel_rfl) (Nat.le_of_ble_eq_true (by kernel_rfl)) rfl

/-! (*strings.Builder).WriteString -/
theorem bldCheck22 : CheckOk cx.P 40 67 := ⟨Tryd.copyCheck_used, Tryd.copyCheck_fresh⟩
set_option maxRecDepth 20000 in
theorem walk22 (w w1 w2 : World) (b : Nat) (base : Option Addr) (n cap : Nat) (s : ByteArray) (b' : Option Addr) (n' cap' : Nat)
    (hcc : Calls Tryd.prog 40 #[.pointer (some ⟨b, 0, none⟩)] w fun e w' => e = .returned (.tuple #[]) ∧ w' = w1)
    (hb1 : w1.heap[b]? = some (.cells #[.pointer (some ⟨b, 0, none⟩), .slice base n cap] 67 (0, 0)))
    (happ : (Builtin.append_ #[56, 9] 56 #[.slice base n cap, .string s]).run Tryd.prog w1 = .ok (.slice b' n' cap') w2)
    (hb2 : w2.heap[b]? = some (.cells #[.pointer (some ⟨b, 0, none⟩), .slice base n cap] 67 (0, 0))) :
    Calls Tryd.prog 22 #[.pointer (some ⟨b, 0, none⟩), .string s] w fun e w' => e = .returned (.tuple #[.int .i64 s.size, .nilIface]) ∧ w' = w2.setCell ⟨b, 1, none⟩ (.slice b' n' cap') := by
  have c0 : w1.cell? ⟨b, 0, none⟩ = some (.pointer (some ⟨b, 0, none⟩)) := by rw [Lib.cell_of_heap hb1]; rfl
  have c1 : w1.cell? ⟨b, 1, none⟩ = some (.slice base n cap) := by rw [Lib.cell_of_heap hb1]; rfl
  have d0 : w2.cell? ⟨b, 0, none⟩ = some (.pointer (some ⟨b, 0, none⟩)) := by rw [Lib.cell_of_heap hb2]; rfl
  have d1 : w2.cell? ⟨b, 1, none⟩ = some (.slice base n cap) := by rw [Lib.cell_of_heap hb2]; rfl
  have f1 : w2.frozen? ⟨b, 1, none⟩ = false := Lib.frozen_of_heap hb2 1
  have ec : ∀ args w, (callFunc 40 args).run Tryd.prog w = .ok (.enter 40 args) w := fun args w => enters_of Tryd.func40 (by kernel_rfl) rfl args w
  go_enter Tryd.func22, Tryd.f22
  go_wp2_with (go_at_call 40; refine hcc.mono ?_)
  rintro e w' ⟨rfl, rfl⟩
  go_wp2_with (at_builtin; refine wpList_val rfl (v := .slice b' n' cap') (w' := w2) (by simp [execOp, resolve, invoke, builtin, Act.eval, happ]) ?_)
  go_wp2
  go_ret2
  exact ⟨rfl, rfl⟩
def sg22 : Sig := ⟨[⟨false, .own, .bld (67, 5)⟩, ⟨false, .bo, .str⟩], [⟨false, .own, .int .i64⟩, ⟨false, .own, .ifc⟩, ⟨false, .own, .bld (67, 5)⟩]⟩
noncomputable def r22 (a : List UInt8 × List UInt8) : Option (Int × Bool × List UInt8) := writeStrR a
theorem s22 : SoundM cx.P cx.G 22 sg22 r22 := writeStr_sound (c := cx) (cc := 40) (t := (67, 5)) (st := 56) (xt := 9) (tysOk 56 ⟨.sl 5, 1, 24, [.slice none 0 0], false, [some (.int .u8)], [none], (.sl (.int .u8))⟩ (by kernel_rfl)) rfl (tysOk 5 ⟨.int .u8, 1, 1, [.int .u8 0], false, [none], [none], (.int .u8)⟩ (by kernel_rfl)) rfl rfl rfl Tryd.underlying9 bldCheck22 walk22

/-! reredos/lines.values -/
def sg23 : Sig := ⟨[⟨true, .bo, E_4⟩], [⟨false, .own, (.sl (.int .i64))⟩]⟩
noncomputable def r23 (a : T_0) : Option (List Int) :=
 Option.bind (
 bif decide (a.1 = (2 : Int)) then
 some (decide (a.1 = (2 : Int)))
 else
 bif decide (a.1 = (3 : Int)) then
 some (decide (a.1 = (3 : Int)))
 else
 some (decide (a.1 = (4 : Int)))) fun (d1 : Bool) =>
 bif d1 then
 some [a.2.1, a.2.2.1, a.2.2.2.1, a.2.2.2.2.1]
 else
 bif decide (a.1 = (5 : Int)) then
 some []
 else
 bif decide (a.1 = (6 : Int)) then
 bif roomOk false 1 a.2.2.2.2.2.1.length 8 then
 some (app [a.2.1] a.2.2.2.2.2.1)
 else
 none
 else
 bif decide (a.1 = (7 : Int)) then
 some [a.2.1]
 else
 some [a.2.1, a.2.2.2.1]
def an23 : Ann := .two (.leaf) (.two (.two (.leaf) (.one (.two (.join [1, 4] [1] [⟨.normal, [], [.tmp 5 (.bool)]⟩] (.two (.leaf) (.two (.leaf) (.two (.leaf) (.two (.leaf) (.leaf)))))) (.two (.two (.leaf) (.leaf)) (.two (.leaf) (.two (.two (.leaf) (.leaf)) (.two (.leaf) (.two (.two (.leaf) (.leaf)) (.two (.leaf) (.two (.two (.leaf) (.leaf)) (.leaf))))))))))) (.two (.leaf) (.leaf)))
theorem s23 : SoundF cx.P cx.G 23 sg23 r23 := by
  have e : denF cx [] an23 Tryd.f23.ntmps (Tryd.f23.body.getD .skip) Tryd.f23.results.toList sg23 = r23 := by kernel_rfl
  rw [← e]
  exact sound_of_den (c := cx) (Known.nil) Tryd.func23 (by kernel_rfl) (Nat.le_of_ble_eq_true (by kernel_rfl)) rfl

/-! strconv.Itoa -/
def sg24 : Sig := ⟨[⟨false, .bo, (.int .i64)⟩], [⟨false, .own, .str⟩]⟩
noncomputable def r24 (a : Int) : Option (List UInt8) := itoaR a
theorem s24 : SoundF cx.P cx.G 24 sg24 r24 := itoa_sound (g := 3) Tryd.strconv_Itoa (by kernel_rfl) (show Go.V.look cx.G 3 = some (.ga (.int .u64) tab3) by kernel_rfl) (by kernel_rfl)

/-! reredos/lines.asked -/
noncomputable def r25_L0 (d5 : (Unit × List Int)) (d6 : (List UInt8 × Int)) : Option ((List UInt8 × Int) ⊕ List UInt8) :=
 bif decide (d6.2 < (↑d5.2.length : Int)) then
 bif inB d6.2 d5.2.length then
 Option.bind (idxN d5.2 (Int.toNat d6.2)) fun (x7 : Int) =>
 Option.bind (r24 x7) fun (y8 : List UInt8) =>
 bif decide (([32] : List UInt8).length + y8.length ≤ 9223372036854775807) then
 bif decide (d6.1.length + (([32] : List UInt8) ++ y8).length ≤ 9223372036854775807) then
 some (Sum.inl ((d6.1 ++ (([32] : List UInt8) ++ y8)), (Go.IntKind.wrap .i64 (d6.2 + (1 : Int)))))
 else
 none
 else
 none
 else
 none
 else
 some (Sum.inr d6.1)
def sg25 : Sig := ⟨[⟨true, .bo, E_6⟩], [⟨false, .own, .str⟩]⟩
noncomputable def r25 (a : T_1) : Option (List UInt8) :=
 Option.bind (idxI tab1 a.1) fun (b1 : List UInt8) =>
 bif decide (([32] : List UInt8).length + b1.length ≤ 9223372036854775807) then
 Option.bind (
 bif decide (a.1 = (2 : Int)) then
 some ((), [a.2.1, a.2.2.1, a.2.2.2.1])
 else
 bif decide (a.1 = (3 : Int)) then
 some ((), [a.2.1, a.2.2.2.1, a.2.2.2.2])
 else
 Option.bind (
 bif decide (a.1 = (4 : Int)) then
 some (decide (a.1 = (4 : Int)))
 else
 some (decide (a.1 = (5 : Int)))) fun (d4 : Bool) =>
 bif d4 then
 some ((), [a.2.1])
 else
 some ((), [])) fun (d5 : (Unit × List Int)) =>
 Option.bind (loopR (r25_L0 d5) ((([32] : List UInt8) ++ b1), (0 : Int))) fun (q9 : List UInt8) =>
 some q9
 else
 none
def an25 : Ann := .two (.leaf) (.two (.leaf) (.two (.leaf) (.two (.join [3] [] [⟨.normal, [(4, (.int .i64))], [.tmp 4 (.own 4 [(0, 0)] (.int .i64)), .row 4 [.sl .own (.int .i64)]]⟩] (.two (.leaf) (.one (.two (.leaf) (.two (.leaf) (.two (.leaf) (.two (.leaf) (.two (.join [1, 3, 4] [1] [⟨.normal, [], [.tmp 32 (.bool)]⟩] (.two (.leaf) (.two (.leaf) (.leaf)))) (.two (.leaf) (.leaf)))))))))) (.two (.two (.leaf) (.one (.loop [38, 39] [4] [] [.tmp 3 (.str), .tmp 40 (.int .i64)] [⟨.exit 1, [], [.tmp 3 (.str)]⟩] (.two (.leaf) (.two (.two (.leaf) (.leaf)) (.two (.one (.two (.leaf) (.leaf))) (.leaf))))))) (.two (.leaf) (.leaf))))))
theorem s25 : SoundF cx.P cx.G 25 sg25 r25 := by
  have e : denF cx [(24, ⟨sg24, r24⟩)] an25 Tryd.f25.ntmps (Tryd.f25.body.getD .skip) Tryd.f25.results.toList sg25 = r25 := by kernel_rfl
  rw [← e]
  exact sound_of_den (c := cx) (Known.cons (.ofF s24 (by kernel_rfl)) Tryd.func24 (by kernel_rfl) (by kernel_rfl) (Known.nil)) Tryd.func25 (by kernel_rfl) (Nat.le_of_ble_eq_true (by kernel_rfl)) rfl

/-! reredos/lines.hex -/
noncomputable def r26_L0 (a : List UInt8) (d19 : (Unit × (Int × List Int))) : Option ((Unit × (Int × List Int)) ⊕ (Unit × List Int)) :=
 bif decide (d19.2.1 < (↑a.length : Int)) then
 Option.bind (idxI a d19.2.1) fun (b24 : UInt8) =>
 Option.bind (idxI ([48, 49, 50, 51, 52, 53, 54, 55, 56, 57, 97, 98, 99, 100, 101, 102] : List UInt8) (Int.fdiv (↑(UInt8.toNat b24) : Int) (2 ^ 4))) fun (b25 : UInt8) =>
 Option.bind (idxI a d19.2.1) fun (b26 : UInt8) =>
 Option.bind (idxI ([48, 49, 50, 51, 52, 53, 54, 55, 56, 57, 97, 98, 99, 100, 101, 102] : List UInt8) (Go.bits .and .u8 (↑(UInt8.toNat b26) : Int) (15 : Int))) fun (b27 : UInt8) =>
 bif roomOk false d19.2.2.length 2 1 then
 some (Sum.inl ((), ((Go.IntKind.wrap .i64 (d19.2.1 + (1 : Int))), app d19.2.2 [(↑(UInt8.toNat b25) : Int), (↑(UInt8.toNat b27) : Int)])))
 else
 none
 else
 some (Sum.inr ((), d19.2.2))
def sg26 : Sig := ⟨[⟨false, .bo, .str⟩], [⟨false, .own, .str⟩]⟩
noncomputable def r26 (a : List UInt8) : Option (List UInt8) :=
 Option.bind (loopR (r26_L0 a) ((), ((0 : Int), [(46 : Int)]))) fun (q28 : (Unit × List Int)) =>
 some (List.map byte8 q28.2)
def an26 : Ann := .two (.leaf) (.two (.leaf) (.two (.two (.leaf) (.one (.loop [0, 7] [] [(3, (.int .u8))] [.tmp 3 (.own 3 [(0, 0)] (.int .u8)), .tmp 8 (.int .i64), .row 3 [.sl .own (.int .u8)]] [⟨.exit 0, [], [.tmp 3 (.own 3 [(0, 0)] (.int .u8)), .row 3 [.sl .own (.int .u8)]]⟩] (.two (.leaf) (.two (.two (.leaf) (.leaf)) (.two (.one (.two (.leaf) (.draw 12))) (.leaf))))))) (.two (.leaf) (.leaf))))
theorem s26 : SoundF cx.P cx.G 26 sg26 r26 := by
  have e : denF cx [] an26 Tryd.f26.ntmps (Tryd.f26.body.getD .skip) Tryd.f26.results.toList sg26 = r26 := by kernel_rfl
  rw [← e]
  exact sound_of_den (c := cx) (Known.nil) Tryd.func26 (by kernel_rfl) (Nat.le_of_ble_eq_true (by kernel_rfl)) rfl

/-! (*strings.Builder).WriteByte -/
theorem bldCheck27 : CheckOk cx.P 40 67 := ⟨Tryd.copyCheck_used, Tryd.copyCheck_fresh⟩
set_option maxRecDepth 20000 in
theorem walk27 (w w1 w2 : World) (b : Nat) (base : Option Addr) (n cap : Nat) (ch : Int) (b' : Option Addr) (n' cap' : Nat)
    (hcc : Calls Tryd.prog 40 #[.pointer (some ⟨b, 0, none⟩)] w fun e w' => e = .returned (.tuple #[]) ∧ w' = w1)
    (hb1 : w1.heap[b]? = some (.cells #[.pointer (some ⟨b, 0, none⟩), .slice base n cap] 67 (0, 0)))
    (happ : (Builtin.append_ #[56, 56] 56 #[.slice base n cap, .slice (some ⟨w1.heap.size, 0, none⟩) 1 1]).run Tryd.prog (w1.alloc (.cells #[.int .u8 ch] 5)) = .ok (.slice b' n' cap') w2)
    (hb2 : w2.heap[b]? = some (.cells #[.pointer (some ⟨b, 0, none⟩), .slice base n cap] 67 (0, 0))) :
    Calls Tryd.prog 27 #[.pointer (some ⟨b, 0, none⟩), .int .u8 ch] w fun e w' => e = .returned .nilIface ∧ w' = w2.setCell ⟨b, 1, none⟩ (.slice b' n' cap') := by
  have c0 : w1.cell? ⟨b, 0, none⟩ = some (.pointer (some ⟨b, 0, none⟩)) := by rw [Lib.cell_of_heap hb1]; rfl
  have c1 : w1.cell? ⟨b, 1, none⟩ = some (.slice base n cap) := by rw [Lib.cell_of_heap hb1]; rfl
  have d0 : w2.cell? ⟨b, 0, none⟩ = some (.pointer (some ⟨b, 0, none⟩)) := by rw [Lib.cell_of_heap hb2]; rfl
  have d1 : w2.cell? ⟨b, 1, none⟩ = some (.slice base n cap) := by rw [Lib.cell_of_heap hb2]; rfl
  have f1 : w2.frozen? ⟨b, 1, none⟩ = false := Lib.frozen_of_heap hb2 1
  have ec : ∀ args w, (callFunc 40 args).run Tryd.prog w = .ok (.enter 40 args) w := fun args w => enters_of Tryd.func40 (by kernel_rfl) rfl args w
  go_enter Tryd.func27, Tryd.f27
  go_wp2_with (go_at_call 40; refine hcc.mono ?_)
  rintro e w' ⟨rfl, rfl⟩
  go_wp2_with (at_builtin; refine wpList_val rfl (v := .slice b' n' cap') (w' := w2) (by simp [execOp, resolve, invoke, builtin, Act.eval, happ]) ?_)
  go_wp2
  go_ret
  exact ⟨rfl, rfl⟩
def sg27 : Sig := ⟨[⟨false, .own, .bld (67, 5)⟩, ⟨false, .bo, .int .u8⟩], [⟨false, .own, .ifc⟩, ⟨false, .own, .bld (67, 5)⟩]⟩
noncomputable def r27 (a : List UInt8 × Int) : Option (Bool × List UInt8) := writeByteR a
theorem s27 : SoundM cx.P cx.G 27 sg27 r27 := writeByte_sound (c := cx) (cc := 40) (t := (67, 5)) (st := 56) (tysOk 56 ⟨.sl 5, 1, 24, [.slice none 0 0], false, [some (.int .u8)], [none], (.sl (.int .u8))⟩ (by kernel_rfl)) rfl (tysOk 5 ⟨.int .u8, 1, 1, [.int .u8 0], false, [none], [none], (.int .u8)⟩ (by kernel_rfl)) rfl rfl rfl bldCheck27 walk27

/-! (*strings.Builder).String -/
set_option maxHeartbeats 2000000 in
set_option maxRecDepth 100000 in
theorem walk28 (w w2 : World) (b : Nat) (x0 : Value) (base : Option Addr) (n cap : Nat) (q : Option Addr) (r : ByteArray)
    (hb : w.heap[b]? = some (.cells #[x0, .slice base n cap] 67 (0, 0)))
    (hSD : (Builtin.unsafeSliceData_ #[56] 96 #[.slice base n cap]).run Tryd.prog w.drew = .ok (.pointer q) w.drew)
    (hUS : (Builtin.unsafeString_ #[96, 3] 9 #[.pointer q, .int .i64 n]).run Tryd.prog w.drew = .ok (.string r) w2) :
    Calls Tryd.prog 28 #[.pointer (some ⟨b, 0, none⟩)] w fun e w' => e = .returned (.string r) ∧ w' = w2 := by
  have c1 : w.drew.cell? ⟨b, 1, none⟩ = some (.slice base n cap) := by
    have : w.drew.heap[b]? = some (.cells #[x0, .slice base n cap] 67 (0, 0)) := hb
    rw [Lib.cell_of_heap this]; rfl
  go_enter Tryd.func28, Tryd.f28
  go_wp2
  go_region
  all_goals (go_wp2; go_ret; exact ⟨rfl, rfl⟩)
def sg28 : Sig := ⟨[⟨false, .own, .bld (67, 5)⟩], [⟨false, .own, .str⟩]⟩
noncomputable def r28 (a : List UInt8) : Option (List UInt8) := textR a
theorem s28 : SoundT cx.P 28 sg28 r28 := text_sound (c := cx) (t := (67, 5)) (st := 56) (pt := 96) (it := 3) (ty := 9) Tryd.underlying96 (by kernel_rfl) walk28

/-! reredos/lines.Show -/
noncomputable def r11_L0 (y17 : List Int) (d22 : (Unit × (Int × List UInt8))) : Option ((Unit × (Int × List UInt8)) ⊕ (Unit × List UInt8)) :=
 bif decide (d22.2.1 < (↑y17.length : Int)) then
 bif inB d22.2.1 y17.length then
 Option.bind (idxN y17 (Int.toNat d22.2.1)) fun (x23 : Int) =>
 Option.bind (r24 x23) fun (y24 : List UInt8) =>
 bif decide (([32] : List UInt8).length + y24.length ≤ 9223372036854775807) then
 Option.bind (r22 (d22.2.2, (([32] : List UInt8) ++ y24))) fun (y25 : (Int × (Bool × List UInt8))) =>
 some (Sum.inl ((), ((Go.IntKind.wrap .i64 (d22.2.1 + (1 : Int))), y25.2.2)))
 else
 none
 else
 none
 else
 some (Sum.inr ((), d22.2.2))
noncomputable def r11_L1 (a : ((Int × (List ((Int × Int)) × Int)) × List (T_0))) (d12 : (Unit × (Int × List UInt8))) : Option ((Unit × (Int × List UInt8)) ⊕ ((Unit × List UInt8) ⊕ (List UInt8 × (Int × Int)))) :=
 bif decide (d12.2.1 < (↑a.2.length : Int)) then
 Option.bind (idxI a.2 d12.2.1) fun (b13 : T_0) =>
 Option.bind (r21 (a.1, b13)) fun (y14 : Int) =>
 bif !(decide (y14 = (0 : Int))) then
 some (Sum.inr (Sum.inr (([] : List UInt8), (d12.2.1, y14))))
 else
 Option.bind (idxI tab0 b13.1) fun (b15 : List UInt8) =>
 Option.bind (r22 (d12.2.2, b15)) fun (y16 : (Int × (Bool × List UInt8))) =>
 Option.bind (r23 b13) fun (y17 : List Int) =>
 Option.bind (loopR (r11_L0 y17) ((), ((0 : Int), y16.2.2))) fun (q26 : (Unit × List UInt8)) =>
 Option.bind (
 bif decide (b13.1 = (1 : Int)) then
 Option.bind (r25 b13.2.2.2.2.2.2.1) fun (y35 : List UInt8) =>
 Option.bind (r22 (q26.2, y35)) fun (y36 : (Int × (Bool × List UInt8))) =>
 some ((), y36.2.2)
 else
 bif decide (b13.1 = (8 : Int)) then
 Option.bind (r26 b13.2.2.2.2.2.2.2) fun (y37 : List UInt8) =>
 bif decide (([32] : List UInt8).length + y37.length ≤ 9223372036854775807) then
 Option.bind (r22 (q26.2, (([32] : List UInt8) ++ y37))) fun (y38 : (Int × (Bool × List UInt8))) =>
 some ((), y38.2.2)
 else
 none
 else
 some ((), q26.2)) fun (d39 : (Unit × List UInt8)) =>
 Option.bind (r27 (d39.2, (10 : Int))) fun (y40 : (Bool × List UInt8)) =>
 some (Sum.inl ((), ((Go.IntKind.wrap .i64 (d12.2.1 + (1 : Int))), y40.2)))
 else
 some (Sum.inr (Sum.inl ((), d12.2.2)))
def sg11 : Sig := ⟨[⟨true, .bo, (.pair (.int .i64) (.pair (.sl (.pair (.int .i64) (.int .i64))) (.int .i64)))⟩, ⟨false, .bo, E_2⟩], [⟨false, .own, .str⟩, ⟨false, .own, (.int .i64)⟩, ⟨false, .own, (.int .i64)⟩]⟩
noncomputable def r11 (a : ((Int × (List ((Int × Int)) × Int)) × List (T_0))) : Option (List UInt8 × (Int × Int)) :=
 Option.bind (r20 a.1) fun (y1 : Int) =>
 bif !(decide (y1 = (0 : Int))) then
 some (([] : List UInt8), ((0 : Int), y1))
 else
 bif decide ((3000 : Int) < (↑a.2.length : Int)) then
 some (([] : List UInt8), ((0 : Int), (1 : Int)))
 else
 Option.bind (loopR (r11_L1 a) ((), ((0 : Int), ([] : List UInt8)))) fun (q41 : ((Unit × List UInt8) ⊕ (List UInt8 × (Int × Int)))) =>
 Sum.elim (fun (v42 : (Unit × List UInt8)) =>
 Option.bind (r28 v42.2) fun (y44 : List UInt8) =>
 some (y44, ((0 : Int), (0 : Int))))
 (fun (v43 : (List UInt8 × (Int × Int))) =>
 some v43) q41
def an11 : Ann := .two (.leaf) (.two (.two (.leaf) (.two (.leaf) (.two (.two (.leaf) (.leaf)) (.leaf)))) (.two (.two (.leaf) (.two (.two (.leaf) (.leaf)) (.leaf))) (.two (.leaf) (.two (.two (.leaf) (.one (.loop [2, 22, 23] [2] [] [.tmp 8 (.pt 8 [(0, 0)] 0 0 2), .tmp 24 (.int .i64), .row 8 [.bld (67, 5)]] [⟨.exit 0, [], [.tmp 8 (.pt 8 [(0, 0)] 0 0 2), .row 8 [.bld (67, 5)]]⟩, ⟨.ret, [], [.tmp 4 (.str), .tmp 5 (.int .i64), .tmp 6 (.int .i64)]⟩] (.two (.leaf) (.two (.two (.leaf) (.leaf)) (.two (.one (.two (.leaf) (.two (.two (.leaf) (.two (.leaf) (.two (.two (.leaf) (.leaf)) (.leaf)))) (.two (.leaf) (.two (.two (.leaf) (.one (.loop [2, 10, 22, 23, 24, 42, 43] [2, 10, 42] [] [.tmp 8 (.pt 8 [(0, 0)] 0 0 2), .tmp 44 (.int .i64), .row 8 [.bld (67, 5)]] [⟨.exit 2, [], [.tmp 8 (.pt 8 [(0, 0)] 0 0 2), .row 8 [.bld (67, 5)]]⟩] (.two (.leaf) (.two (.two (.leaf) (.leaf)) (.two (.one (.two (.leaf) (.leaf))) (.leaf))))))) (.two (.join [2, 22, 23, 24] [2] [⟨.normal, [], [.tmp 8 (.pt 8 [(0, 0)] 0 0 2), .row 8 [.bld (67, 5)]]⟩] (.two (.leaf) (.one (.two (.leaf) (.two (.leaf) (.two (.leaf) (.two (.leaf) (.leaf)))))))) (.leaf))))))) (.leaf))))))) (.two (.leaf) (.leaf))))))
theorem s11 : SoundF cx.P cx.G 11 sg11 r11 := by
  have e : denF cx [(20, ⟨sg20, r20⟩), (21, ⟨sg21, r21⟩), (22, ⟨sg22, r22⟩), (23, ⟨sg23, r23⟩), (24, ⟨sg24, r24⟩), (25, ⟨sg25, r25⟩), (26, ⟨sg26, r26⟩), (27, ⟨sg27, r27⟩), (28, ⟨sg28, r28⟩)] an11 Tryd.f11.ntmps (Tryd.f11.body.getD .skip) Tryd.f11.results.toList sg11 = r11 := by kernel_rfl
  rw [← e]
  exact sound_of_den (c := cx) (Known.cons (.ofF s20 (by kernel_rfl)) Tryd.func20 (by kernel_rfl) (by kernel_rfl) (Known.cons (.ofF s21 (by kernel_rfl)) Tryd.func21 (by kernel_rfl) (by kernel_rfl) (Known.cons (.ofM s22 (by kernel_rfl)) Tryd.func22 (by kernel_rfl) (by kernel_rfl) (Known.cons (.ofF s23 (by kernel_rfl)) Tryd.func23 (by kernel_rfl) (by kernel_rfl) (Known.cons (.ofF s24 (by kernel_rfl)) Tryd.func24 (by kernel_rfl) (by kernel_rfl) (Known.cons (.ofF s25 (by kernel_rfl)) Tryd.func25 (by kernel_rfl) (by kernel_rfl) (Known.cons (.ofF s26 (by kernel_rfl)) Tryd.func26 (by kernel_rfl) (by kernel_rfl) (Known.cons (.ofM s27 (by kernel_rfl)) Tryd.func27 (by kernel_rfl) (by kernel_rfl) (Known.cons (.ofT s28 (by kernel_rfl)) Tryd.func28 (by kernel_rfl) (by kernel_rfl) (Known.nil)))))))))) Tryd.func11 (by kernel_rfl) (Nat.le_of_ble_eq_true (by kernel_rfl)) rfl

/-! reredos/reredoskeep.LinesJoin -/
def sg3 : Sig := ⟨[⟨false, .bo, (.sl E_5)⟩, ⟨false, .bo, (.sl E_5)⟩], [⟨false, .own, .bool⟩]⟩
noncomputable def r3 (a : (List ((Int × T_1)) × List ((Int × T_1)))) : Option Bool :=
 Option.bind (r9 (2 : Int)) fun (y1 : (Int × (List ((Int × Int)) × Int))) =>
 Option.bind (r10 (y1, a.1, (12 : Int), true)) fun (y2 : List (T_0)) =>
 Option.bind (r10 (y1, a.2, (12 : Int), true)) fun (y3 : List (T_0)) =>
 bif roomOk false y3.length 1 120 then
 Option.bind (r11 (y1, y2)) fun (y4 : (List UInt8 × (Int × Int))) =>
 Option.bind (r11 (y1, app y3 [((5 : Int), ((0 : Int), ((0 : Int), ((0 : Int), ((0 : Int), ([], (((0 : Int), ((0 : Int), ((0 : Int), ((0 : Int), (0 : Int))))), ([] : List UInt8))))))))])) fun (y5 : (List UInt8 × (Int × Int))) =>
 Option.bind (
 bif roomOk true 0 y2.length 120 then
 
 bif roomOk false y2.length ((app y3 [((5 : Int), ((0 : Int), ((0 : Int), ((0 : Int), ((0 : Int), ([], (((0 : Int), ((0 : Int), ((0 : Int), ((0 : Int), (0 : Int))))), ([] : List UInt8))))))))]).length) 120 then
 Option.bind (r11 (y1, app y2 (app y3 [((5 : Int), ((0 : Int), ((0 : Int), ((0 : Int), ((0 : Int), ([], (((0 : Int), ((0 : Int), ((0 : Int), ((0 : Int), (0 : Int))))), ([] : List UInt8))))))))]))) fun (y12 : (List UInt8 × (Int × Int))) =>
 
 some (y12.1, y12.2.2)
 else
 none
 else
 none) fun (d14 : (List UInt8 × Int)) =>
 Option.bind (
 bif decide (y4.2.2 = (0 : Int)) then
 some (decide (y5.2.2 = (0 : Int)))
 else
 some false) fun (g15 : Bool) =>
 Option.bind (
 bif g15 then
 some (decide (d14.2 = (0 : Int)))
 else
 some false) fun (g16 : Bool) =>
 Option.bind (
 bif g16 then
 bif decide (y4.1.length + y5.1.length ≤ 9223372036854775807) then
 some (decide (d14.1 = (y4.1 ++ y5.1)))
 else
 none
 else
 some false) fun (g17 : Bool) =>
 bif g17 then
 some (decide ((0 : Int) < (↑y5.1.length : Int)))
 else
 some false
 else
 none
noncomputable def r3q : (List ((Int × T_1)) × List ((Int × T_1))) → Option Bool := fun a =>
 Option.bind (r9 (2 : Int)) fun (y1 : (Int × (List ((Int × Int)) × Int))) =>
 Option.bind (r10 (y1, a.1, (12 : Int), true)) fun (y2 : List (T_0)) =>
 Option.bind (r10 (y1, a.2, (12 : Int), true)) fun (y3 : List (T_0)) =>
 bif roomOk false y3.length 1 120 then
 Option.bind (r11 (y1, y2)) fun (y4 : (List UInt8 × (Int × Int))) =>
 Option.bind (r11 (y1, app y3 [((5 : Int), ((0 : Int), ((0 : Int), ((0 : Int), ((0 : Int), ([], (((0 : Int), ((0 : Int), ((0 : Int), ((0 : Int), (0 : Int))))), ([] : List UInt8))))))))])) fun (y5 : (List UInt8 × (Int × Int))) =>
 Option.bind (
 bif roomOk true 0 y2.length 120 then
 sameR (
 bif roomOk false y2.length ((app y3 [((5 : Int), ((0 : Int), ((0 : Int), ((0 : Int), ((0 : Int), ([], (((0 : Int), ((0 : Int), ((0 : Int), ((0 : Int), (0 : Int))))), ([] : List UInt8))))))))]).length) 120 then
 Option.bind (r11 (y1, app y2 (app y3 [((5 : Int), ((0 : Int), ((0 : Int), ((0 : Int), ((0 : Int), ([], (((0 : Int), ((0 : Int), ((0 : Int), ((0 : Int), (0 : Int))))), ([] : List UInt8))))))))]))) fun (y12 : (List UInt8 × (Int × Int))) =>
 sameR (
 some (y12.1, y12.2.2))
 (
 sameR (
 sameR (
 some (y12.1, y12.2.2))
 (
 sameR (
 some (y12.1, y12.2.2))
 (
 some (y12.1, y12.2.2))))
 (
 sameR (
 sameR (
 some (y12.1, y12.2.2))
 (
 some (y12.1, y12.2.2)))
 (
 sameR (
 some (y12.1, y12.2.2))
 (
 sameR (
 sameR (
 some (y12.1, y12.2.2))
 (
 some (y12.1, y12.2.2)))
 (
 sameR (
 some (y12.1, y12.2.2))
 (
 sameR (
 some (y12.1, y12.2.2))
 (
 some (y12.1, y12.2.2))))))))
 else
 none)
 (
 bif roomOk false y2.length ((app y3 [((5 : Int), ((0 : Int), ((0 : Int), ((0 : Int), ((0 : Int), ([], (((0 : Int), ((0 : Int), ((0 : Int), ((0 : Int), (0 : Int))))), ([] : List UInt8))))))))]).length) 120 then
 Option.bind (r11 (y1, app y2 (app y3 [((5 : Int), ((0 : Int), ((0 : Int), ((0 : Int), ((0 : Int), ([], (((0 : Int), ((0 : Int), ((0 : Int), ((0 : Int), (0 : Int))))), ([] : List UInt8))))))))]))) fun (y13 : (List UInt8 × (Int × Int))) =>
 sameR (
 some (y13.1, y13.2.2))
 (
 sameR (
 sameR (
 some (y13.1, y13.2.2))
 (
 sameR (
 some (y13.1, y13.2.2))
 (
 some (y13.1, y13.2.2))))
 (
 sameR (
 sameR (
 some (y13.1, y13.2.2))
 (
 some (y13.1, y13.2.2)))
 (
 sameR (
 some (y13.1, y13.2.2))
 (
 sameR (
 sameR (
 some (y13.1, y13.2.2))
 (
 some (y13.1, y13.2.2)))
 (
 sameR (
 some (y13.1, y13.2.2))
 (
 sameR (
 some (y13.1, y13.2.2))
 (
 some (y13.1, y13.2.2))))))))
 else
 none)
 else
 none) fun (d14 : (List UInt8 × Int)) =>
 Option.bind (
 bif decide (y4.2.2 = (0 : Int)) then
 some (decide (y5.2.2 = (0 : Int)))
 else
 some false) fun (g15 : Bool) =>
 Option.bind (
 bif g15 then
 some (decide (d14.2 = (0 : Int)))
 else
 some false) fun (g16 : Bool) =>
 Option.bind (
 bif g16 then
 bif decide (y4.1.length + y5.1.length ≤ 9223372036854775807) then
 some (decide (d14.1 = (y4.1 ++ y5.1)))
 else
 none
 else
 some false) fun (g17 : Bool) =>
 bif g17 then
 some (decide ((0 : Int) < (↑y5.1.length : Int)))
 else
 some false
 else
 none
theorem r3e : r3q = r3 := by unfold r3q r3; simp only [sameR_self]
def an3 : Ann := .two (.leaf) (.two (.leaf) (.two (.leaf) (.two (.leaf) (.two (.leaf) (.two (.leaf) (.two (.join [8, 10, 11, 13] [] [⟨.normal, [], [.tmp 14 (.str), .tmp 16 (.int .i64)]⟩] (.stages [0, 1, 2, 3, 8, 9])) (.two (.segs [(6, ([8, 11, 14, 16], ([], [.tmp 56 (.bool)]))), (4, ([8, 11, 14], ([], [.tmp 60 (.bool)]))), (7, ([11], ([], [.tmp 67 (.bool)])))]) (.leaf))))))))
theorem s3 : SoundF cx.P cx.G 3 sg3 r3 := by
  have e : denF cx [(9, ⟨sg9, r9⟩), (10, ⟨sg10, r10⟩), (11, ⟨sg11, r11⟩)] an3 Tryd.f3.ntmps (Tryd.f3.body.getD .skip) Tryd.f3.results.toList sg3 = r3q := by kernel_rfl
  rw [← r3e, ← e]
  exact sound_of_den (c := cx) (Known.cons (.ofF s9 (by kernel_rfl)) Tryd.func9 (by kernel_rfl) (by kernel_rfl) (Known.cons (.ofF s10 (by kernel_rfl)) Tryd.func10 (by kernel_rfl) (by kernel_rfl) (Known.cons (.ofF s11 (by kernel_rfl)) Tryd.func11 (by kernel_rfl) (by kernel_rfl) (Known.nil)))) Tryd.func3 (by kernel_rfl) (Nat.le_of_ble_eq_true (by kernel_rfl)) rfl

end Go.Hj
