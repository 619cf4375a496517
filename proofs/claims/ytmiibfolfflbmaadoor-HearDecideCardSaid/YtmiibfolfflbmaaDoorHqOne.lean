/- What the functions compute: written by gen.py. -/
import Derived.Test.YtmiibfolfflbmaaDoorLibI
import Derived.WalkKit
import Derived.Lib.Walk
import Derived.Lib.JoinLaws
import Derived.Test.YtmiibfolfflbmaaDoorLibJ
import Derived.Test.YtmiibfolfflbmaaDoorProg
import Derived.KernelRfl
namespace Go.Hq
open Go.RowKit Go.Proofs Go.V
abbrev E_39 : Ty := (.pair (.pair (.int .i64) (.int .i64)) (.int .i64))
abbrev E_38 : Ty := (.pair (.int .i64) (.pair (.int .i64) (.int .i64)))
abbrev E_37 : Ty := (.pair (.pair (.int .i64) (.int .i64)) (.pair .bool .bool))
abbrev E_36 : Ty := (.pair (.pair (.int .i64) (.int .i64)) (.pair (.int .i64) (.pair .bool (.pair (.int .i64) (.int .i64)))))
abbrev E_35 : Ty := (.pair (.int .i64) (.pair (.int .i64) (.pair (.int .i64) E_38)))
abbrev E_34 : Ty := (.sl E_35)
abbrev E_33 : Ty := (.pair (.int .i64) (.pair (.pair (.int .i64) (.int .i64)) (.pair (.int .i64) (.pair (.int .i64) (.pair (.int .i64) (.pair .bool (.rsl (.int .i64))))))))
abbrev E_32 : Ty := (.pair (.int .i64) (.pair (.int .i64) (.pair (.int .i64) (.pair (.pair (.int .i64) (.int .i64)) (.pair (.int .i64) (.pair (.int .i64) (.pair (.int .i64) (.pair (.int .i64) (.pair (.int .i64) (.pair .bool (.int .i64)))))))))))
abbrev E_31 : Ty := (.pair (.sl E_38) (.pair (.sl E_36) (.pair (.sl E_39) (.sl (.pair (.int .i64) (.int .i64))))))
abbrev E_30 : Ty := (.pair (.rsl E_38) (.pair (.rsl E_36) (.pair (.rsl E_39) (.rsl (.pair (.int .i64) (.int .i64))))))
abbrev E_29 : Ty := (.sl E_30)
abbrev E_28 : Ty := (.pair E_31 (.pair (.sl E_32) (.pair (.sl E_33) (.sl E_37))))
abbrev E_27 : Ty := (.pair E_30 (.pair (.rsl E_32) (.pair (.rsl E_33) (.rsl E_37))))
abbrev T_26 : Type := (Int × (Int × (Int × (Int × (Int × Int)))))
abbrev T_25 : Type := ((Int × Int) × (Int × (Bool × (Int × Int))))
abbrev T_24 : Type := (Int × (Int × (Int × ((Int × Int) × (Int × (Int × (Int × (Int × (Int × (Bool × Int))))))))))
abbrev T_23 : Type := (Unit × (Int × (Int × (Int × (Int × (Int × (Int × (Int × (Int × (Int × (Int × (Bool × Int))))))))))))
abbrev T_22 : Type := (List ((Int × (Int × Int))) × (List (T_25) × (List (((Int × Int) × Int)) × List ((Int × Int)))))
abbrev T_21 : Type := (T_22 × Int)
abbrev T_20 : Type := (Unit × T_22)
abbrev T_19 : Type := (T_22 × (Int × Int))
abbrev T_18 : Type := (Unit × (Int × T_22))
abbrev T_17 : Type := (T_22 × (Int × (Int × Int)))
abbrev T_16 : Type := (T_22 × ((Int × Int) × Int))
abbrev T_15 : Type := (T_22 × ((Int × Int) × Bool))
abbrev T_14 : Type := (Unit × T_18)
abbrev T_13 : Type := (Unit × (Int × (Int × (Int × T_22))))
abbrev T_12 : Type := (Unit × (Unit × (Int × (Int × T_22))))
abbrev T_11 : Type := ((Int × (List ((Int × Int)) × Int)) × (Int × (Int × (List (T_22) × (List (((Int × Int) × (Bool × Bool))) × ((Int × Int) × Bool))))))
abbrev T_10 : Type := (T_22 × T_22)
abbrev T_9 : Type := ((Int × (List ((Int × Int)) × Int)) × (Int × (Int × (List (T_22) × (List (((Int × Int) × (Bool × Bool))) × (Int × T_24))))))
abbrev T_8 : Type := (List ((Int × (Int × Int))) × (List (T_25) × (List (((Int × Int) × Int)) × (List ((Int × Int)) × (List (T_24) × (List ((Int × ((Int × Int) × (Int × (Int × (Int × (Bool × List Int))))))) × List (((Int × Int) × (Bool × Bool)))))))))
abbrev T_7 : Type := ((T_22 × (List (T_24) × (List ((Int × ((Int × Int) × (Int × (Int × (Int × (Bool × List Int))))))) × List (((Int × Int) × (Bool × Bool)))))) × Int)
abbrev T_6 : Type := (Unit × T_8)
abbrev T_5 : Type := (Unit × (Int × T_8))
abbrev T_4 : Type := (Unit × (Unit × (T_8 × (Int × (Int × (Int × (Int × (Int × (Int × (Int × (Int × (Int × (Int × (Bool × Int))))))))))))))
abbrev T_3 : Type := (T_8 × (List (((Int × Int) × (Bool × Bool))) × T_8))
abbrev T_2 : Type := (Unit × T_3)
abbrev T_1 : Type := (Unit × T_2)
abbrev T_0 : Type := (Unit × T_1)
def tys : List (Nat × TyInfo) := [
 (3, ⟨.int .i64, 1, 8, [.int .i64 0], false, [none], [none], (.int .i64)⟩),
 (4, ⟨.bool, 1, 1, [.bool false], false, [none], [none], .bool⟩),
 (22, ⟨.sl 61, 1, 24, [.slice none 0 0], false, [some E_35], [none], E_34⟩),
 (23, ⟨.sl 58, 1, 24, [.slice none 0 0], false, [some (.pair (.int .i64) (.int .i64))], [none], (.sl (.pair (.int .i64) (.int .i64)))⟩),
 (25, ⟨.st [(0, 3), (1, 23), (2, 3)], 3, 40, [.int .i64 0, .slice none 0 0, .int .i64 0], false, [none, some (.pair (.int .i64) (.int .i64)), none], [none, none, none], (.pair (.int .i64) (.pair (.rsl (.pair (.int .i64) (.int .i64))) (.int .i64)))⟩),
 (28, ⟨.st [(0, 3), (1, 3)], 2, 16, [.int .i64 0, .int .i64 0], true, [none, none], [none, none], (.pair (.int .i64) (.int .i64))⟩),
 (30, ⟨.sl 33, 1, 24, [.slice none 0 0], false, [some E_33], [none], (.sl E_33)⟩),
 (31, ⟨.sl 3, 1, 24, [.slice none 0 0], false, [some (.int .i64)], [none], (.sl (.int .i64))⟩),
 (33, ⟨.st [(0, 3), (1, 28), (3, 3), (4, 3), (5, 3), (6, 4), (7, 31)], 8, 80, [.int .i64 0, .int .i64 0, .int .i64 0, .int .i64 0, .int .i64 0, .int .i64 0, .bool false, .slice none 0 0], false, [none, none, none, none, none, none, none, some (.int .i64)], [none, none, none, none, none, none, none, none], E_33⟩),
 (35, ⟨.sl 108, 1, 24, [.slice none 0 0], false, [some E_38], [none], (.sl E_38)⟩),
 (36, ⟨.sl 102, 1, 24, [.slice none 0 0], false, [some E_36], [none], (.sl E_36)⟩),
 (37, ⟨.sl 113, 1, 24, [.slice none 0 0], false, [some E_39], [none], (.sl E_39)⟩),
 (38, ⟨.sl 28, 1, 24, [.slice none 0 0], false, [some (.pair (.int .i64) (.int .i64))], [none], (.sl (.pair (.int .i64) (.int .i64)))⟩),
 (40, ⟨.st [(0, 35), (1, 36), (2, 37), (3, 38)], 4, 96, [.slice none 0 0, .slice none 0 0, .slice none 0 0, .slice none 0 0], false, [some E_38, some E_36, some E_39, some (.pair (.int .i64) (.int .i64))], [none, none, none, none], E_30⟩),
 (44, ⟨.sl 92, 1, 24, [.slice none 0 0], false, [some E_37], [none], (.sl E_37)⟩),
 (45, ⟨.int .i64, 1, 8, [.int .i64 0], false, [none], [none], (.int .i64)⟩),
 (58, ⟨.st [(0, 3), (1, 3)], 2, 16, [.int .i64 0, .int .i64 0], true, [none, none], [none, none], (.pair (.int .i64) (.int .i64))⟩),
 (61, ⟨.st [(0, 3), (1, 3), (2, 3), (3, 3), (4, 3), (5, 3)], 6, 48, [.int .i64 0, .int .i64 0, .int .i64 0, .int .i64 0, .int .i64 0, .int .i64 0], false, [none, none, none, none, none, none], [none, none, none, none, none, none], E_35⟩),
 (71, ⟨.st [(0, 3), (1, 3), (2, 3), (3, 28), (5, 3), (6, 3), (7, 3), (8, 3), (9, 3), (10, 4), (11, 45)], 12, 96, [.int .i64 0, .int .i64 0, .int .i64 0, .int .i64 0, .int .i64 0, .int .i64 0, .int .i64 0, .int .i64 0, .int .i64 0, .int .i64 0, .bool false, .int .i64 0], true, [none, none, none, none, none, none, none, none, none, none, none, none], [none, none, none, none, none, none, none, none, none, none, none, none], E_32⟩),
 (74, ⟨.sl 40, 1, 24, [.slice none 0 0], false, [some E_30], [none], E_29⟩),
 (75, ⟨.sl 71, 1, 24, [.slice none 0 0], false, [some E_32], [none], (.sl E_32)⟩),
 (77, ⟨.st [(0, 40), (4, 75), (5, 30), (6, 44)], 7, 168, [.slice none 0 0, .slice none 0 0, .slice none 0 0, .slice none 0 0, .slice none 0 0, .slice none 0 0, .slice none 0 0], false, [some E_38, some E_36, some E_39, some (.pair (.int .i64) (.int .i64)), some E_32, some E_33, some E_37], [none, none, none, none, none, none, none], E_27⟩),
 (92, ⟨.st [(0, 28), (2, 4), (3, 4)], 4, 24, [.int .i64 0, .int .i64 0, .bool false, .bool false], false, [none, none, none, none], [none, none, none, none], E_37⟩),
 (102, ⟨.st [(0, 28), (2, 3), (3, 4), (4, 3), (5, 3)], 6, 48, [.int .i64 0, .int .i64 0, .int .i64 0, .bool false, .int .i64 0, .int .i64 0], true, [none, none, none, none, none, none], [none, none, none, none, none, none], E_36⟩),
 (108, ⟨.st [(0, 3), (1, 3), (2, 3)], 3, 24, [.int .i64 0, .int .i64 0, .int .i64 0], true, [none, none, none], [none, none, none], E_38⟩),
 (113, ⟨.st [(0, 28), (2, 3)], 3, 24, [.int .i64 0, .int .i64 0, .int .i64 0], true, [none, none, none], [none, none, none], E_39⟩),
 (120, ⟨.sl 45, 1, 24, [.slice none 0 0], false, [some (.int .i64)], [none], (.sl (.int .i64))⟩),
 (125, ⟨.st [(0, 25), (3, 3), (4, 3), (5, 74)], 6, 80, [.int .i64 0, .slice none 0 0, .int .i64 0, .int .i64 0, .int .i64 0, .slice none 0 0], false, [none, some (.pair (.int .i64) (.int .i64)), none, none, none, some E_30], [none, none, none, none, none, none], (.pair (.pair (.int .i64) (.pair (.rsl (.pair (.int .i64) (.int .i64))) (.int .i64))) (.pair (.int .i64) (.pair (.int .i64) (.rsl E_30))))⟩),
 (137, ⟨.st [(0, 4), (1, 4), (2, 4), (3, 4), (4, 4), (5, 4), (6, 4), (7, 4)], 8, 8, [.bool false, .bool false, .bool false, .bool false, .bool false, .bool false, .bool false, .bool false], false, [none, none, none, none, none, none, none, none], [none, none, none, none, none, none, none, none], (.pair .bool (.pair .bool (.pair .bool (.pair .bool (.pair .bool (.pair .bool (.pair .bool .bool)))))))⟩),
 (138, ⟨.arr 10 137, 80, 80, [.bool false, .bool false, .bool false, .bool false, .bool false, .bool false, .bool false, .bool false, .bool false, .bool false, .bool false, .bool false, .bool false, .bool false, .bool false, .bool false, .bool false, .bool false, .bool false, .bool false, .bool false, .bool false, .bool false, .bool false, .bool false, .bool false, .bool false, .bool false, .bool false, .bool false, .bool false, .bool false, .bool false, .bool false, .bool false, .bool false, .bool false, .bool false, .bool false, .bool false, .bool false, .bool false, .bool false, .bool false, .bool false, .bool false, .bool false, .bool false, .bool false, .bool false, .bool false, .bool false, .bool false, .bool false, .bool false, .bool false, .bool false, .bool false, .bool false, .bool false, .bool false, .bool false, .bool false, .bool false, .bool false, .bool false, .bool false, .bool false, .bool false, .bool false, .bool false, .bool false, .bool false, .bool false, .bool false, .bool false, .bool false, .bool false, .bool false, .bool false], false, [none, none, none, none, none, none, none, none, none, none, none, none, none, none, none, none, none, none, none, none, none, none, none, none, none, none, none, none, none, none, none, none, none, none, none, none, none, none, none, none, none, none, none, none, none, none, none, none, none, none, none, none, none, none, none, none, none, none, none, none, none, none, none, none, none, none, none, none, none, none, none, none, none, none, none, none, none, none, none, none], [none, none, none, none, none, none, none, none, none, none, none, none, none, none, none, none, none, none, none, none, none, none, none, none, none, none, none, none, none, none, none, none, none, none, none, none, none, none, none, none, none, none, none, none, none, none, none, none, none, none, none, none, none, none, none, none, none, none, none, none, none, none, none, none, none, none, none, none, none, none, none, none, none, none, none, none, none, none, none, none], .unit⟩),
 (143, ⟨.arr 7 137, 56, 56, [.bool false, .bool false, .bool false, .bool false, .bool false, .bool false, .bool false, .bool false, .bool false, .bool false, .bool false, .bool false, .bool false, .bool false, .bool false, .bool false, .bool false, .bool false, .bool false, .bool false, .bool false, .bool false, .bool false, .bool false, .bool false, .bool false, .bool false, .bool false, .bool false, .bool false, .bool false, .bool false, .bool false, .bool false, .bool false, .bool false, .bool false, .bool false, .bool false, .bool false, .bool false, .bool false, .bool false, .bool false, .bool false, .bool false, .bool false, .bool false, .bool false, .bool false, .bool false, .bool false, .bool false, .bool false, .bool false, .bool false], false, [none, none, none, none, none, none, none, none, none, none, none, none, none, none, none, none, none, none, none, none, none, none, none, none, none, none, none, none, none, none, none, none, none, none, none, none, none, none, none, none, none, none, none, none, none, none, none, none, none, none, none, none, none, none, none, none], [none, none, none, none, none, none, none, none, none, none, none, none, none, none, none, none, none, none, none, none, none, none, none, none, none, none, none, none, none, none, none, none, none, none, none, none, none, none, none, none, none, none, none, none, none, none, none, none, none, none, none, none, none, none, none, none], .unit⟩),
 (173, ⟨.int .u64, 1, 8, [.int .u64 0], false, [none], [none], (.int .u64)⟩)]
theorem tysOk : TyOk Tryd.prog tys := tyOk_of fun e he => by
  simp only [tys, List.mem_cons, List.not_mem_nil, or_false] at he
  rcases he with rfl | rfl | rfl | rfl | rfl | rfl | rfl | rfl | rfl | rfl | rfl | rfl | rfl | rfl | rfl | rfl | rfl | rfl | rfl | rfl | rfl | rfl | rfl | rfl | rfl | rfl | rfl | rfl | rfl | rfl | rfl | rfl
  · exact ⟨by kernel_rfl, by kernel_rfl, fun h => nomatch h⟩
  · exact ⟨by kernel_rfl, by kernel_rfl, fun h => nomatch h⟩
  · exact ⟨by kernel_rfl, by kernel_rfl, fun h => nomatch h⟩
  · exact ⟨by kernel_rfl, by kernel_rfl, fun h => nomatch h⟩
  · exact ⟨by kernel_rfl, by kernel_rfl, fun h => nomatch h⟩
  · exact ⟨by kernel_rfl, by kernel_rfl, fun _ => ⟨by kernel_rfl, by kernel_rfl, by kernel_rfl⟩⟩
  · exact ⟨by kernel_rfl, by kernel_rfl, fun h => nomatch h⟩
  · exact ⟨by kernel_rfl, by kernel_rfl, fun h => nomatch h⟩
  · exact ⟨by kernel_rfl, by kernel_rfl, fun h => nomatch h⟩
  · exact ⟨by kernel_rfl, by kernel_rfl, fun h => nomatch h⟩
  · exact ⟨by kernel_rfl, by kernel_rfl, fun h => nomatch h⟩
  · exact ⟨by kernel_rfl, by kernel_rfl, fun h => nomatch h⟩
  · exact ⟨by kernel_rfl, by kernel_rfl, fun h => nomatch h⟩
  · exact ⟨by kernel_rfl, by kernel_rfl, fun h => nomatch h⟩
  · exact ⟨by kernel_rfl, by kernel_rfl, fun h => nomatch h⟩
  · exact ⟨by kernel_rfl, by kernel_rfl, fun h => nomatch h⟩
  · exact ⟨by kernel_rfl, by kernel_rfl, fun _ => ⟨by kernel_rfl, by kernel_rfl, by kernel_rfl⟩⟩
  · exact ⟨by kernel_rfl, by kernel_rfl, fun h => nomatch h⟩
  · exact ⟨by kernel_rfl, by kernel_rfl, fun _ => ⟨by kernel_rfl, by kernel_rfl, by kernel_rfl⟩⟩
  · exact ⟨by kernel_rfl, by kernel_rfl, fun h => nomatch h⟩
  · exact ⟨by kernel_rfl, by kernel_rfl, fun h => nomatch h⟩
  · exact ⟨by kernel_rfl, by kernel_rfl, fun h => nomatch h⟩
  · exact ⟨by kernel_rfl, by kernel_rfl, fun h => nomatch h⟩
  · exact ⟨by kernel_rfl, by kernel_rfl, fun _ => ⟨by kernel_rfl, by kernel_rfl, by kernel_rfl⟩⟩
  · exact ⟨by kernel_rfl, by kernel_rfl, fun _ => ⟨by kernel_rfl, by kernel_rfl, by kernel_rfl⟩⟩
  · exact ⟨by kernel_rfl, by kernel_rfl, fun _ => ⟨by kernel_rfl, by kernel_rfl, by kernel_rfl⟩⟩
  · exact ⟨by kernel_rfl, by kernel_rfl, fun h => nomatch h⟩
  · exact ⟨by kernel_rfl, by kernel_rfl, fun h => nomatch h⟩
  · exact ⟨by kernel_rfl, by kernel_rfl, fun h => nomatch h⟩
  · exact ⟨by kernel_rfl, by kernel_rfl, fun h => nomatch h⟩
  · exact ⟨by kernel_rfl, by kernel_rfl, fun h => nomatch h⟩
  · exact ⟨by kernel_rfl, by kernel_rfl, fun h => nomatch h⟩
def tab0 : List (Bool × (Bool × (Bool × (Bool × (Bool × (Bool × (Bool × Bool))))))) := [(false, (false, (false, (false, (false, (false, (false, false))))))),
 (true, (true, (false, (false, (true, (false, (false, false))))))),
 (false, (true, (true, (false, (true, (false, (false, false))))))),
 (true, (true, (false, (true, (false, (false, (false, false))))))),
 (false, (false, (false, (false, (false, (true, (false, false))))))),
 (true, (true, (true, (true, (true, (false, (true, false))))))),
 (false, (true, (false, (false, (true, (false, (true, false))))))),
 (true, (true, (false, (true, (false, (true, (false, false))))))),
 (false, (false, (false, (false, (false, (false, (false, false))))))),
 (false, (false, (false, (false, (false, (false, (false, false)))))))]
def tab1 : List (Bool × (Bool × (Bool × (Bool × (Bool × (Bool × (Bool × Bool))))))) := [(false, (false, (false, (false, (false, (false, (false, false))))))),
 (false, (true, (true, (false, (true, (false, (false, false))))))),
 (false, (false, (false, (false, (false, (true, (false, false))))))),
 (false, (false, (false, (false, (false, (false, (false, true))))))),
 (false, (false, (false, (false, (false, (false, (false, false))))))),
 (false, (false, (false, (false, (false, (false, (false, false))))))),
 (false, (false, (false, (false, (false, (true, (false, false)))))))]
noncomputable def inls : List (Nat × Go.Func) := [(31, Tryd.f31), (41, Tryd.f41), (42, Tryd.f42), (43, Tryd.f43), (44, Tryd.f44), (53, Tryd.f53), (56, Tryd.f56), (57, Tryd.f57), (58, Tryd.f58), (59, Tryd.f59), (60, Tryd.f60), (78, Tryd.f78), (79, Tryd.f79), (83, Tryd.f83), (84, Tryd.f84), (86, Tryd.f86), (87, Tryd.f87), (89, Tryd.f89), (91, Tryd.f91), (94, Tryd.f94), (102, Tryd.f102), (103, Tryd.f103)]
theorem inlsOk : ∀ f fn, Go.V.look inls f = some fn → Tryd.prog.funcs[f]? = some fn ∧ (fn.name == "runtime.NumGoroutine") = false := inlOk_of fun e he => by
  simp only [inls, List.mem_cons, List.not_mem_nil, or_false] at he
  rcases he with rfl | rfl | rfl | rfl | rfl | rfl | rfl | rfl | rfl | rfl | rfl | rfl | rfl | rfl | rfl | rfl | rfl | rfl | rfl | rfl | rfl | rfl
  · exact ⟨Tryd.func31, by kernel_rfl⟩
  · exact ⟨Tryd.func41, by kernel_rfl⟩
  · exact ⟨Tryd.func42, by kernel_rfl⟩
  · exact ⟨Tryd.func43, by kernel_rfl⟩
  · exact ⟨Tryd.func44, by kernel_rfl⟩
  · exact ⟨Tryd.func53, by kernel_rfl⟩
  · exact ⟨Tryd.func56, by kernel_rfl⟩
  · exact ⟨Tryd.func57, by kernel_rfl⟩
  · exact ⟨Tryd.func58, by kernel_rfl⟩
  · exact ⟨Tryd.func59, by kernel_rfl⟩
  · exact ⟨Tryd.func60, by kernel_rfl⟩
  · exact ⟨Tryd.func78, by kernel_rfl⟩
  · exact ⟨Tryd.func79, by kernel_rfl⟩
  · exact ⟨Tryd.func83, by kernel_rfl⟩
  · exact ⟨Tryd.func84, by kernel_rfl⟩
  · exact ⟨Tryd.func86, by kernel_rfl⟩
  · exact ⟨Tryd.func87, by kernel_rfl⟩
  · exact ⟨Tryd.func89, by kernel_rfl⟩
  · exact ⟨Tryd.func91, by kernel_rfl⟩
  · exact ⟨Tryd.func94, by kernel_rfl⟩
  · exact ⟨Tryd.func102, by kernel_rfl⟩
  · exact ⟨Tryd.func103, by kernel_rfl⟩
noncomputable def cx : Ctx := ⟨Tryd.prog, tys, tysOk, [(0, .ga (.pair .bool (.pair .bool (.pair .bool (.pair .bool (.pair .bool (.pair .bool (.pair .bool .bool))))))) tab0)], 0, inls, inlsOk, by kernel_rfl⟩

/-! reredos/reredoskeep.picked -/
def sg18 : Sig := ⟨[⟨false, .bo, (.int .i64)⟩, ⟨false, .bo, (.int .i64)⟩], [⟨false, .own, (.int .i64)⟩]⟩
noncomputable def r18 (a : (Int × Int)) : Option Int :=
 Option.bind (
 bif decide (a.1 < (0 : Int)) then
 some (Go.IntKind.wrap .i64 (0 - (Go.IntKind.wrap .i64 (a.1 + (1 : Int)))))
 else
 some a.1) fun (d1 : Int) =>
 bif decide (a.2 = 0) then
 none
 else
 some (Int.tmod d1 a.2)
def an18 : Ann := .two (.leaf) (.two (.join [1] [] [⟨.normal, [], [.tmp 0 (.int .i64)]⟩] (.two (.leaf) (.two (.leaf) (.leaf)))) (.two (.leaf) (.leaf)))
theorem s18 : SoundF cx.P cx.G 18 sg18 r18 := by
  have e : denF cx [] an18 Tryd.f18.ntmps (Tryd.f18.body.getD .skip) Tryd.f18.results.toList sg18 = r18 := by kernel_rfl
  rw [← e]
  exact sound_of_den (c := cx) (Known.nil) Tryd.func18 (by kernel_rfl) (Nat.le_of_ble_eq_true (by kernel_rfl)) rfl

/-! reredos/reredoskeep.two -/
def sg13 : Sig := ⟨[⟨false, .bo, (.int .i64)⟩], [⟨true, .ro, (.pair (.int .i64) (.pair (.sl (.pair (.int .i64) (.int .i64))) (.int .i64)))⟩]⟩
noncomputable def r13 (a : Int) : Option (Int × (List ((Int × Int)) × Int)) :=
 Option.bind (r18 (a, (3 : Int))) fun (y1 : Int) =>
 some ((Go.IntKind.wrap .i64 ((1 : Int) + y1)), ([((0 : Int), (0 : Int)), ((1 : Int), (0 : Int))], (3 : Int)))
def an13 : Ann := .two (.leaf) (.two (.leaf) (.leaf))
theorem s13 : SoundF cx.P cx.G 13 sg13 r13 := by
  have e : denF cx [(18, ⟨sg18, r18⟩)] an13 Tryd.f13.ntmps (Tryd.f13.body.getD .skip) Tryd.f13.results.toList sg13 = r13 := by kernel_rfl
  rw [← e]
  exact sound_of_den (c := cx) (Known.cons (.ofF s18 (by kernel_rfl)) Tryd.func18 (by kernel_rfl) (by kernel_rfl) (Known.nil)) Tryd.func13 (by kernel_rfl) (Nat.le_of_ble_eq_true (by kernel_rfl)) rfl

/-! reredos/store.items -/
noncomputable def r49_L0 (a : List ((Int × (Int × Int)))) (d1 : Int) : Option (Int ⊕ (Unit ⊕ Bool)) :=
 bif decide (d1 < (↑a.length : Int)) then
 Option.bind (idxI a d1) fun (b2 : (Int × (Int × Int))) =>
 Option.bind (
 Option.bind (
 bif !(decide (b2.1 < (0 : Int))) then
 some (decide ((8 : Int) ≤ b2.1))
 else
 some true) fun (g11 : Bool) =>
 Option.bind (
 bif !(g11) then
 some (decide (b2.2.1 < (0 : Int)))
 else
 some true) fun (g12 : Bool) =>
 Option.bind (
 bif !(g12) then
 some (decide ((1073741824 : Int) < b2.2.1))
 else
 some true) fun (g13 : Bool) =>
 Option.bind (
 bif !(g13) then
 some (decide (b2.2.2 < (1 : Int)))
 else
 some true) fun (g14 : Bool) =>
 bif !(g14) then
 some (decide ((1048576 : Int) < b2.2.2))
 else
 some true) fun (d15 : Bool) =>
 bif d15 then
 some (Sum.inr (Sum.inr false))
 else
 Option.bind (
 bif decide ((0 : Int) < d1) then
 Option.bind (idxI a (Go.IntKind.wrap .i64 (d1 - (1 : Int)))) fun (b21 : (Int × (Int × Int))) =>
 some (decide (b2.1 ≤ b21.1))
 else
 some false) fun (d22 : Bool) =>
 bif d22 then
 some (Sum.inr (Sum.inr false))
 else
 some (Sum.inl (Go.IntKind.wrap .i64 (d1 + (1 : Int))))
 else
 some (Sum.inr (Sum.inl ()))
def sg49 : Sig := ⟨[⟨false, .bo, (.sl E_38)⟩], [⟨false, .own, .bool⟩]⟩
noncomputable def r49 (a : List ((Int × (Int × Int)))) : Option Bool :=
 Option.bind (loopR (r49_L0 a) (0 : Int)) fun (q23 : (Unit ⊕ Bool)) =>
 Sum.elim (fun (_ : Unit) =>
 some true)
 (fun (v25 : Bool) =>
 some v25) q23
def an49 : Ann := .two (.leaf) (.two (.two (.leaf) (.one (.loop [0, 5, 6] [] [] [.tmp 7 (.int .i64)] [⟨.exit 0, [], []⟩, ⟨.ret, [], [.tmp 2 (.bool)]⟩] (.two (.leaf) (.two (.two (.leaf) (.leaf)) (.two (.one (.two (.leaf) (.two (.two (.join [0, 3, 4, 5, 6, 7] [4] [⟨.normal, [], [.tmp 39 (.bool)]⟩] (.segs [(8, ([0, 3, 4, 5, 6, 7], ([4], [.tmp 19 (.bool)]))), (5, ([0, 3, 4, 5, 6, 7], ([4], [.tmp 24 (.bool)]))), (5, ([0, 3, 4, 5, 6, 7], ([4], [.tmp 29 (.bool)]))), (5, ([0, 3, 4, 5, 6, 7], ([4], [.tmp 34 (.bool)])))])) (.two (.two (.leaf) (.leaf)) (.leaf))) (.two (.join [0, 5, 6, 7] [] [⟨.normal, [], [.tmp 52 (.bool)]⟩] (.draw 11)) (.two (.two (.leaf) (.leaf)) (.leaf)))))) (.leaf))))))) (.two (.leaf) (.leaf)))
theorem s49 : SoundF cx.P cx.G 49 sg49 r49 := by
  have e : denF cx [] an49 Tryd.f49.ntmps (Tryd.f49.body.getD .skip) Tryd.f49.results.toList sg49 = r49 := by kernel_rfl
  rw [← e]
  exact sound_of_den (c := cx) (Known.nil) Tryd.func49 (by kernel_rfl) (Nat.le_of_ble_eq_true (by kernel_rfl)) rfl

/-! slices.Index[[]reredos/api.Txn,reredos/api.Txn] -/
noncomputable def r85_L0 (a : (List ((Int × Int)) × (Int × Int))) (d1 : Int) : Option (Int ⊕ (Unit ⊕ Int)) :=
 bif decide (d1 < (↑a.1.length : Int)) then
 Option.bind (idxI a.1 d1) fun (b3 : (Int × Int)) =>
 bif (decide (a.2.1 = b3.1) && (decide (a.2.2 = b3.2) && true)) then
 some (Sum.inr (Sum.inr d1))
 else
 some (Sum.inl (Go.IntKind.wrap .i64 (d1 + (1 : Int))))
 else
 some (Sum.inr (Sum.inl ()))
def sg85 : Sig := ⟨[⟨false, .bo, (.sl (.pair (.int .i64) (.int .i64)))⟩, ⟨true, .bo, (.pair (.int .i64) (.int .i64))⟩], [⟨false, .own, (.int .i64)⟩]⟩
noncomputable def r85 (a : (List ((Int × Int)) × (Int × Int))) : Option Int :=
 Option.bind (loopR (r85_L0 a) (0 : Int)) fun (q4 : (Unit ⊕ Int)) =>
 Sum.elim (fun (_ : Unit) =>
 some (-1 : Int))
 (fun (v6 : Int) =>
 some v6) q4
def an85 : Ann := .two (.leaf) (.two (.two (.leaf) (.one (.loop [0, 3, 7] [3] [] [.tmp 8 (.int .i64)] [⟨.exit 0, [], []⟩, ⟨.ret, [], [.tmp 4 (.int .i64)]⟩] (.two (.leaf) (.two (.two (.leaf) (.leaf)) (.two (.one (.two (.leaf) (.two (.draw 5) (.two (.two (.leaf) (.leaf)) (.leaf))))) (.leaf))))))) (.two (.leaf) (.leaf)))
theorem s85 : SoundF cx.P cx.G 85 sg85 r85 := by
  have e : denF cx [] an85 Tryd.f85.ntmps (Tryd.f85.body.getD .skip) Tryd.f85.results.toList sg85 = r85 := by kernel_rfl
  rw [← e]
  exact sound_of_den (c := cx) (Known.nil) Tryd.func85 (by kernel_rfl) (Nat.le_of_ble_eq_true (by kernel_rfl)) rfl

/-! slices.Contains[[]reredos/api.Txn,reredos/api.Txn] -/
def sg45 : Sig := ⟨[⟨false, .bo, (.sl (.pair (.int .i64) (.int .i64)))⟩, ⟨true, .bo, (.pair (.int .i64) (.int .i64))⟩], [⟨false, .own, .bool⟩]⟩
noncomputable def r45 (a : (List ((Int × Int)) × (Int × Int))) : Option Bool :=
 Option.bind (r85 (a.1, a.2)) fun (y1 : Int) =>
 some (decide ((0 : Int) ≤ y1))
def an45 : Ann := .two (.leaf) (.two (.leaf) (.leaf))
theorem s45 : SoundF cx.P cx.G 45 sg45 r45 := by
  have e : denF cx [(85, ⟨sg85, r85⟩)] an45 Tryd.f45.ntmps (Tryd.f45.body.getD .skip) Tryd.f45.results.toList sg45 = r45 := by kernel_rfl
  rw [← e]
  exact sound_of_den (c := cx) (Known.cons (.ofF s85 (by kernel_rfl)) Tryd.func85 (by kernel_rfl) (by kernel_rfl) (Known.nil)) Tryd.func45 (by kernel_rfl) (Nat.le_of_ble_eq_true (by kernel_rfl)) rfl

/-! reredos/store.txn -/
def sg73 : Sig := ⟨[⟨true, .bo, (.pair (.int .i64) (.int .i64))⟩], [⟨false, .own, .bool⟩]⟩
noncomputable def r73 (a : (Int × Int)) : Option Bool :=
 Option.bind (
 bif decide ((0 : Int) ≤ a.1) then
 some (decide (a.1 < (4 : Int)))
 else
 some false) fun (g1 : Bool) =>
 Option.bind (
 bif g1 then
 some (decide ((1 : Int) ≤ a.2))
 else
 some false) fun (g2 : Bool) =>
 bif g2 then
 some (decide (a.2 ≤ (1048576 : Int)))
 else
 some false
def an73 : Ann := .two (.leaf) (.two (.segs [(8, ([1], ([1], [.tmp 10 (.bool)]))), (5, ([1], ([1], [.tmp 15 (.bool)])))]) (.leaf))
theorem s73 : SoundF cx.P cx.G 73 sg73 r73 := by
  have e : denF cx [] an73 Tryd.f73.ntmps (Tryd.f73.body.getD .skip) Tryd.f73.results.toList sg73 = r73 := by kernel_rfl
  rw [← e]
  exact sound_of_den (c := cx) (Known.nil) Tryd.func73 (by kernel_rfl) (Nat.le_of_ble_eq_true (by kernel_rfl)) rfl

/-! reredos/store.doubts -/
noncomputable def r50_L0 (a : T_22) (b2 : ((Int × Int) × Int)) (d26 : Int) : Option (Int ⊕ (Unit ⊕ Int)) :=
 bif decide (d26 < (↑a.2.1.length : Int)) then
 Option.bind (idxI a.2.1 d26) fun (b27 : T_25) =>
 bif (decide (b27.1.1 = b2.1.1) && (decide (b27.1.2 = b2.1.2) && true)) then
 some (Sum.inr (Sum.inr d26))
 else
 some (Sum.inl (Go.IntKind.wrap .i64 (d26 + (1 : Int))))
 else
 some (Sum.inr (Sum.inl ()))
noncomputable def r50_L1 (d1 : Int) (a : T_22) (b2 : ((Int × Int) × Int)) (d32 : Int) : Option (Int ⊕ (Unit ⊕ Bool)) :=
 bif decide (d32 < (↑((List.take (Int.toNat d1) a.2.2.1).length) : Int)) then
 Option.bind (idxI (List.take (Int.toNat d1) a.2.2.1) d32) fun (b33 : ((Int × Int) × Int)) =>
 bif (decide (b33.1.1 = b2.1.1) && (decide (b33.1.2 = b2.1.2) && true)) then
 some (Sum.inr (Sum.inr false))
 else
 some (Sum.inl (Go.IntKind.wrap .i64 (d32 + (1 : Int))))
 else
 some (Sum.inr (Sum.inl ()))
noncomputable def r50_L2 (a : T_22) (d1 : Int) : Option (Int ⊕ (Unit ⊕ Bool)) :=
 bif decide (d1 < (↑a.2.2.1.length : Int)) then
 Option.bind (idxI a.2.2.1 d1) fun (b2 : ((Int × Int) × Int)) =>
 Option.bind (
 Option.bind (
 Option.bind (r73 b2.1) fun (y11 : Bool) =>
 bif !(!(y11)) then
 some (decide (b2.2 < (0 : Int)))
 else
 some true) fun (g12 : Bool) =>
 Option.bind (
 bif !(g12) then
 some (decide ((1048576 : Int) < b2.2))
 else
 some true) fun (g13 : Bool) =>
 bif !(g13) then
 Option.bind (r45 (a.2.2.2, b2.1)) fun (y14 : Bool) =>
 some y14
 else
 some true) fun (d15 : Bool) =>
 bif d15 then
 some (Sum.inr (Sum.inr false))
 else
 Option.bind (
 Option.bind (loopR (r50_L0 a b2) (0 : Int)) fun (q28 : (Unit ⊕ Int)) =>
 Sum.elim (fun (_ : Unit) =>
 some (-1 : Int))
 (fun (v30 : Int) =>
 some v30) q28) fun (d31 : Int) =>
 bif !(decide ((0 : Int) ≤ d31)) then
 some (Sum.inr (Sum.inr false))
 else
 bif okB none (some d1) none a.2.2.1.length then
 Option.bind (loopR (r50_L1 d1 a b2) (0 : Int)) fun (q34 : (Unit ⊕ Bool)) =>
 Sum.elim (fun (_ : Unit) =>
 some (Sum.inl (Go.IntKind.wrap .i64 (d1 + (1 : Int)))))
 (fun (v36 : Bool) =>
 some (Sum.inr (Sum.inr v36))) q34
 else
 none
 else
 some (Sum.inr (Sum.inl ()))
noncomputable def r50_L3 (a : T_22) (d40 : Int) : Option (Int ⊕ (Unit ⊕ Bool)) :=
 bif decide (d40 < (↑a.2.2.2.length : Int)) then
 Option.bind (idxI a.2.2.2 d40) fun (b41 : (Int × Int)) =>
 Option.bind (
 Option.bind (r73 b41) fun (y52 : Bool) =>
 bif !(!(y52)) then
 bif okB none (some d40) none a.2.2.2.length then
 Option.bind (r45 (List.take (Int.toNat d40) a.2.2.2, b41)) fun (y53 : Bool) =>
 some y53
 else
 none
 else
 some true) fun (d54 : Bool) =>
 bif d54 then
 some (Sum.inr (Sum.inr false))
 else
 some (Sum.inl (Go.IntKind.wrap .i64 (d40 + (1 : Int))))
 else
 some (Sum.inr (Sum.inl ()))
def sg50 : Sig := ⟨[⟨true, .bo, E_31⟩], [⟨false, .own, .bool⟩]⟩
noncomputable def r50 (a : T_22) : Option Bool :=
 Option.bind (loopR (r50_L2 a) (0 : Int)) fun (q37 : (Unit ⊕ Bool)) =>
 Sum.elim (fun (_ : Unit) =>
 Option.bind (loopR (r50_L3 a) (0 : Int)) fun (q55 : (Unit ⊕ Bool)) =>
 Sum.elim (fun (_ : Unit) =>
 some true)
 (fun (v57 : Bool) =>
 some v57) q55)
 (fun (v39 : Bool) =>
 some v39) q37
def an50 : Ann := .two (.leaf) (.two (.two (.leaf) (.one (.loop [1, 10, 11] [1] [] [.tmp 12 (.int .i64)] [⟨.exit 0, [], []⟩, ⟨.ret, [], [.tmp 2 (.bool)]⟩] (.two (.leaf) (.two (.two (.leaf) (.leaf)) (.two (.one (.two (.leaf) (.two (.two (.join [1, 3, 4, 10, 11, 12] [1, 4] [⟨.normal, [], [.tmp 37 (.bool)]⟩] (.segs [(9, ([1, 3, 4, 10, 11, 12], ([1, 4], [.tmp 25 (.bool)]))), (5, ([1, 3, 4, 10, 11, 12], ([1, 4], [.tmp 30 (.bool)])))])) (.two (.two (.leaf) (.leaf)) (.leaf))) (.two (.two (.inl 3 79 (.two (.leaf) (.two (.inl 2 88 (.join [1, 3, 4, 10, 11, 12] [1, 4] [⟨.ret, [], [.tmp 92 (.int .i64)]⟩] (.two (.leaf) (.two (.two (.leaf) (.one (.loop [1, 3, 4, 10, 11, 12, 88, 89, 95] [1, 4] [] [.tmp 96 (.int .i64)] [⟨.exit 0, [], []⟩, ⟨.ret, [], [.tmp 92 (.int .i64)]⟩] (.two (.leaf) (.two (.two (.leaf) (.leaf)) (.two (.one (.two (.leaf) (.two (.inl 5 107 (.two (.leaf) (.two (.leaf) (.leaf))) (.leaf)) (.two (.two (.leaf) (.leaf)) (.leaf))))) (.leaf))))))) (.two (.leaf) (.leaf))))) (.leaf)) (.leaf))) (.leaf)) (.two (.two (.leaf) (.leaf)) (.leaf))) (.two (.leaf) (.one (.loop [1, 4, 10, 11, 12, 46, 47] [1, 4] [] [.tmp 48 (.int .i64)] [⟨.exit 2, [], []⟩, ⟨.ret, [], [.tmp 2 (.bool)]⟩] (.two (.leaf) (.two (.two (.leaf) (.leaf)) (.two (.one (.two (.leaf) (.two (.leaf) (.two (.two (.leaf) (.leaf)) (.leaf))))) (.leaf))))))))))) (.leaf))))))) (.two (.two (.leaf) (.one (.loop [1, 60, 61] [1] [] [.tmp 62 (.int .i64)] [⟨.exit 4, [], []⟩, ⟨.ret, [], [.tmp 2 (.bool)]⟩] (.two (.leaf) (.two (.two (.leaf) (.leaf)) (.two (.one (.two (.leaf) (.two (.join [1, 60, 61, 62] [1] [⟨.normal, [], [.tmp 77 (.bool)]⟩] (.draw 9)) (.two (.two (.leaf) (.leaf)) (.leaf))))) (.leaf))))))) (.two (.leaf) (.leaf))))
theorem s50 : SoundF cx.P cx.G 50 sg50 r50 := by
  have e : denF cx [(45, ⟨sg45, r45⟩), (73, ⟨sg73, r73⟩)] an50 Tryd.f50.ntmps (Tryd.f50.body.getD .skip) Tryd.f50.results.toList sg50 = r50 := by kernel_rfl
  rw [← e]
  exact sound_of_den (c := cx) (Known.cons (.ofF s45 (by kernel_rfl)) Tryd.func45 (by kernel_rfl) (by kernel_rfl) (Known.cons (.ofF s73 (by kernel_rfl)) Tryd.func73 (by kernel_rfl) (by kernel_rfl) (Known.nil))) Tryd.func50 (by kernel_rfl) (Nat.le_of_ble_eq_true (by kernel_rfl)) rfl

/-! reredos/store.doubted -/
noncomputable def r90_L0 (a : T_19) (d11 : Int) : Option (Int ⊕ (Unit ⊕ Int)) :=
 bif decide (d11 < (↑a.1.2.2.1.length : Int)) then
 Option.bind (idxI a.1.2.2.1 d11) fun (b12 : ((Int × Int) × Int)) =>
 bif (decide (b12.1.1 = a.2.1) && (decide (b12.1.2 = a.2.2) && true)) then
 some (Sum.inr (Sum.inr d11))
 else
 some (Sum.inl (Go.IntKind.wrap .i64 (d11 + (1 : Int))))
 else
 some (Sum.inr (Sum.inl ()))
def sg90 : Sig := ⟨[⟨true, .bo, E_31⟩, ⟨true, .bo, (.pair (.int .i64) (.int .i64))⟩], [⟨false, .own, .bool⟩]⟩
noncomputable def r90 (a : T_19) : Option Bool :=
 Option.bind (
 Option.bind (loopR (r90_L0 a) (0 : Int)) fun (q13 : (Unit ⊕ Int)) =>
 Sum.elim (fun (_ : Unit) =>
 some (-1 : Int))
 (fun (v15 : Int) =>
 some v15) q13) fun (d16 : Int) =>
 some (decide ((0 : Int) ≤ d16))
def an90 : Ann := .two (.leaf) (.two (.inl 3 9 (.two (.leaf) (.two (.inl 2 18 (.join [] [] [⟨.ret, [], [.tmp 22 (.int .i64)]⟩] (.two (.leaf) (.two (.two (.leaf) (.one (.loop [18, 19, 25] [3] [] [.tmp 26 (.int .i64)] [⟨.exit 0, [], []⟩, ⟨.ret, [], [.tmp 22 (.int .i64)]⟩] (.two (.leaf) (.two (.two (.leaf) (.leaf)) (.two (.one (.two (.leaf) (.two (.inl 5 37 (.two (.leaf) (.two (.leaf) (.leaf))) (.leaf)) (.two (.two (.leaf) (.leaf)) (.leaf))))) (.leaf))))))) (.two (.leaf) (.leaf))))) (.leaf)) (.leaf))) (.leaf)) (.leaf))
theorem s90 : SoundF cx.P cx.G 90 sg90 r90 := by
  have e : denF cx [] an90 Tryd.f90.ntmps (Tryd.f90.body.getD .skip) Tryd.f90.results.toList sg90 = r90 := by kernel_rfl
  rw [← e]
  exact sound_of_den (c := cx) (Known.nil) Tryd.func90 (by kernel_rfl) (Nat.le_of_ble_eq_true (by kernel_rfl)) rfl

/-! reredos/store.locks -/
noncomputable def r51_L0 (d1 : Int) (a : T_22) (b2 : T_25) (d25 : Int) : Option (Int ⊕ (Unit ⊕ Bool)) :=
 bif decide (d25 < (↑((List.take (Int.toNat d1) a.2.1).length) : Int)) then
 Option.bind (idxI (List.take (Int.toNat d1) a.2.1) d25) fun (b26 : T_25) =>
 Option.bind (
 bif decide (b26.2.1 = b2.2.1) then
 bif !((decide (b26.1.1 = b2.1.1) && (decide (b26.1.2 = b2.1.2) && true))) then
 bif !(b26.2.2.1) then
 some b2.2.2.1
 else
 some true
 else
 some true
 else
 some false) fun (d27 : Bool) =>
 bif d27 then
 some (Sum.inr (Sum.inr false))
 else
 some (Sum.inl (Go.IntKind.wrap .i64 (d25 + (1 : Int))))
 else
 some (Sum.inr (Sum.inl ()))
noncomputable def r51_L1 (a : T_22) (d1 : Int) : Option (Int ⊕ (Unit ⊕ Bool)) :=
 bif decide (d1 < (↑a.2.1.length : Int)) then
 Option.bind (idxI a.2.1 d1) fun (b2 : T_25) =>
 Option.bind (
 Option.bind (
 Option.bind (r90 (a, b2.1)) fun (y17 : Bool) =>
 bif !(!(y17)) then
 some (decide (b2.2.1 < (0 : Int)))
 else
 some true) fun (g18 : Bool) =>
 Option.bind (
 bif !(g18) then
 some (decide ((8 : Int) ≤ b2.2.1))
 else
 some true) fun (g19 : Bool) =>
 Option.bind (
 bif !(g19) then
 some (decide (b2.2.2.2.1 < (0 : Int)))
 else
 some true) fun (g20 : Bool) =>
 Option.bind (
 bif !(g20) then
 some (decide ((1073741824 : Int) < b2.2.2.2.1))
 else
 some true) fun (g21 : Bool) =>
 Option.bind (
 bif !(g21) then
 some (decide (b2.2.2.2.2 < (0 : Int)))
 else
 some true) fun (g22 : Bool) =>
 Option.bind (
 bif !(g22) then
 some (decide ((1048576 : Int) < b2.2.2.2.2))
 else
 some true) fun (g23 : Bool) =>
 bif !(g23) then
 bif !(b2.2.2.1) then
 some (!(decide ((Go.IntKind.wrap .i64 (b2.2.2.2.1 + b2.2.2.2.2)) = (0 : Int))))
 else
 some false
 else
 some true) fun (d24 : Bool) =>
 bif d24 then
 some (Sum.inr (Sum.inr false))
 else
 bif okB none (some d1) none a.2.1.length then
 Option.bind (loopR (r51_L0 d1 a b2) (0 : Int)) fun (q28 : (Unit ⊕ Bool)) =>
 Sum.elim (fun (_ : Unit) =>
 some (Sum.inl (Go.IntKind.wrap .i64 (d1 + (1 : Int)))))
 (fun (v30 : Bool) =>
 some (Sum.inr (Sum.inr v30))) q28
 else
 none
 else
 some (Sum.inr (Sum.inl ()))
def sg51 : Sig := ⟨[⟨true, .bo, E_31⟩], [⟨false, .own, .bool⟩]⟩
noncomputable def r51 (a : T_22) : Option Bool :=
 Option.bind (loopR (r51_L1 a) (0 : Int)) fun (q31 : (Unit ⊕ Bool)) =>
 Sum.elim (fun (_ : Unit) =>
 some (decide ((↑a.2.1.length : Int) ≤ (24 : Int))))
 (fun (v33 : Bool) =>
 some v33) q31
def an51 : Ann := .two (.leaf) (.two (.two (.leaf) (.one (.loop [1, 8, 9] [1] [] [.tmp 10 (.int .i64)] [⟨.exit 0, [], []⟩, ⟨.ret, [], [.tmp 2 (.bool)]⟩] (.two (.leaf) (.two (.two (.leaf) (.leaf)) (.two (.one (.two (.leaf) (.two (.two (.join [1, 3, 4, 8, 9, 10] [1, 4] [⟨.normal, [], [.tmp 62 (.bool)]⟩] (.segs [(10, ([1, 3, 4, 8, 9, 10], ([1, 4], [.tmp 24 (.bool)]))), (5, ([1, 3, 4, 8, 9, 10], ([1, 4], [.tmp 29 (.bool)]))), (5, ([1, 3, 4, 8, 9, 10], ([1, 4], [.tmp 34 (.bool)]))), (5, ([1, 3, 4, 8, 9, 10], ([1, 4], [.tmp 39 (.bool)]))), (5, ([1, 3, 4, 8, 9, 10], ([1, 4], [.tmp 44 (.bool)]))), (5, ([1, 3, 4, 8, 9, 10], ([1, 4], [.tmp 49 (.bool)])))])) (.two (.two (.leaf) (.leaf)) (.leaf))) (.two (.leaf) (.one (.loop [1, 4, 8, 9, 10, 66, 67] [1, 4] [] [.tmp 68 (.int .i64)] [⟨.exit 2, [], []⟩, ⟨.ret, [], [.tmp 2 (.bool)]⟩] (.two (.leaf) (.two (.two (.leaf) (.leaf)) (.two (.one (.two (.leaf) (.two (.join [1, 4, 8, 9, 10, 66, 67, 68] [1, 4] [⟨.normal, [], [.tmp 91 (.bool)]⟩] (.leaf)) (.two (.two (.leaf) (.leaf)) (.leaf))))) (.leaf)))))))))) (.leaf))))))) (.two (.leaf) (.leaf)))
theorem s51 : SoundF cx.P cx.G 51 sg51 r51 := by
  have e : denF cx [(90, ⟨sg90, r90⟩)] an51 Tryd.f51.ntmps (Tryd.f51.body.getD .skip) Tryd.f51.results.toList sg51 = r51 := by kernel_rfl
  rw [← e]
  exact sound_of_den (c := cx) (Known.cons (.ofF s90 (by kernel_rfl)) Tryd.func90 (by kernel_rfl) (by kernel_rfl) (Known.nil)) Tryd.func51 (by kernel_rfl) (Nat.le_of_ble_eq_true (by kernel_rfl)) rfl

/-! reredos/store.Check -/
def sg24 : Sig := ⟨[⟨true, .bo, E_31⟩], [⟨false, .own, (.int .i64)⟩]⟩
noncomputable def r24 (a : T_22) : Option Int :=
 Option.bind (
 Option.bind (
 Option.bind (r49 a.1) fun (y9 : Bool) =>
 bif !(!(y9)) then
 Option.bind (r50 a) fun (y10 : Bool) =>
 some !(y10)
 else
 some true) fun (g11 : Bool) =>
 bif !(g11) then
 Option.bind (r51 a) fun (y12 : Bool) =>
 some !(y12)
 else
 some true) fun (d13 : Bool) =>
 bif d13 then
 some (9 : Int)
 else
 some (0 : Int)
def an24 : Ann := .two (.leaf) (.two (.two (.join [] [] [⟨.normal, [], [.tmp 16 (.bool)]⟩] (.segs [(9, ([1], ([1], [.tmp 11 (.bool)])))])) (.two (.two (.leaf) (.leaf)) (.leaf))) (.two (.leaf) (.leaf)))
theorem s24 : SoundF cx.P cx.G 24 sg24 r24 := by
  have e : denF cx [(49, ⟨sg49, r49⟩), (50, ⟨sg50, r50⟩), (51, ⟨sg51, r51⟩)] an24 Tryd.f24.ntmps (Tryd.f24.body.getD .skip) Tryd.f24.results.toList sg24 = r24 := by kernel_rfl
  rw [← e]
  exact sound_of_den (c := cx) (Known.cons (.ofF s49 (by kernel_rfl)) Tryd.func49 (by kernel_rfl) (by kernel_rfl) (Known.cons (.ofF s50 (by kernel_rfl)) Tryd.func50 (by kernel_rfl) (by kernel_rfl) (Known.cons (.ofF s51 (by kernel_rfl)) Tryd.func51 (by kernel_rfl) (by kernel_rfl) (Known.nil)))) Tryd.func24 (by kernel_rfl) (Nat.le_of_ble_eq_true (by kernel_rfl)) rfl

/-! reredos/reredoskeep.Txn -/
def sg14 : Sig := ⟨[⟨true, .bo, (.pair (.int .i64) (.pair (.sl (.pair (.int .i64) (.int .i64))) (.int .i64)))⟩, ⟨false, .bo, (.int .i64)⟩, ⟨false, .bo, (.int .i64)⟩], [⟨true, .own, (.pair (.int .i64) (.int .i64))⟩]⟩
noncomputable def r14 (a : ((Int × (List ((Int × Int)) × Int)) × (Int × Int))) : Option (Int × Int) :=
 Option.bind (r18 (a.2.1, a.1.1)) fun (y1 : Int) =>
 Option.bind (r18 (a.2.2, (6 : Int))) fun (y2 : Int) =>
 some (y1, (Go.IntKind.wrap .i64 ((1 : Int) + y2)))
def an14 : Ann := .two (.leaf) (.two (.leaf) (.leaf))
theorem s14 : SoundF cx.P cx.G 14 sg14 r14 := by
  have e : denF cx [(18, ⟨sg18, r18⟩)] an14 Tryd.f14.ntmps (Tryd.f14.body.getD .skip) Tryd.f14.results.toList sg14 = r14 := by kernel_rfl
  rw [← e]
  exact sound_of_den (c := cx) (Known.cons (.ofF s18 (by kernel_rfl)) Tryd.func18 (by kernel_rfl) (by kernel_rfl) (Known.nil)) Tryd.func14 (by kernel_rfl) (Nat.le_of_ble_eq_true (by kernel_rfl)) rfl

/-! reredos/reredoskeep.Message -/
def sg25 : Sig := ⟨[⟨true, .bo, (.pair (.int .i64) (.pair (.sl (.pair (.int .i64) (.int .i64))) (.int .i64)))⟩, ⟨true, .bo, E_35⟩], [⟨true, .own, E_32⟩]⟩
noncomputable def r25 (a : ((Int × (List ((Int × Int)) × Int)) × T_26)) : Option T_24 :=
 Option.bind (r18 (a.2.1, (9 : Int))) fun (y5 : Int) =>
 Option.bind (r18 (a.2.2.1, a.1.1)) fun (y6 : Int) =>
 Option.bind (r18 ((Go.IntKind.wrap .i64 (Int.tdiv a.2.2.1 (7 : Int))), a.1.1)) fun (y7 : Int) =>
 Option.bind (r14 (a.1, a.2.2.2.1, a.2.2.2.2.1)) fun (y8 : (Int × Int)) =>
 Option.bind (r18 (a.2.2.2.2.2.2, (4 : Int))) fun (y9 : Int) =>
 bif inB y9 ([(0 : Int), (0 : Int), (11 : Int), (8 : Int)].length) then
 Option.bind (idxN [(0 : Int), (0 : Int), (11 : Int), (8 : Int)] (Int.toNat y9)) fun (x10 : Int) =>
 Option.bind (r18 (a.2.2.2.2.2.1, (↑a.1.2.1.length : Int))) fun (y11 : Int) =>
 Option.bind (r18 ((Go.IntKind.wrap .i64 (Int.tdiv a.2.2.2.2.2.1 (5 : Int))), (8 : Int))) fun (y12 : Int) =>
 Option.bind (
 bif decide ((Go.IntKind.wrap .i64 ((1 : Int) + y5)) = (1 : Int)) then
 Option.bind (r18 (a.2.2.2.2.2.2, (9 : Int))) fun (y35 : Int) =>
 some ((), ((Go.IntKind.wrap .i64 ((1 : Int) + y5)), (y6, (y7, (y8.1, (y8.2, (y11, (y12, ((0 : Int), ((0 : Int), (y35, (false, (0 : Int)))))))))))))
 else
 bif decide ((Go.IntKind.wrap .i64 ((1 : Int) + y5)) = (2 : Int)) then
 Option.bind (r18 (a.2.2.2.2.2.2, (1073741824 : Int))) fun (y36 : Int) =>
 Option.bind (r18 ((Go.IntKind.wrap .i64 (Int.tdiv a.2.2.2.2.2.2 (3 : Int))), (9 : Int))) fun (y37 : Int) =>
 some ((), ((Go.IntKind.wrap .i64 ((1 : Int) + y5)), (y6, (y7, (y8.1, (y8.2, ((0 : Int), (y12, (y36, ((0 : Int), (y37, (false, (0 : Int)))))))))))))
 else
 bif decide ((Go.IntKind.wrap .i64 ((1 : Int) + y5)) = (3 : Int)) then
 Option.bind (r18 (a.2.2.2.2.2.2, (4 : Int))) fun (y38 : Int) =>
 some ((), ((Go.IntKind.wrap .i64 ((1 : Int) + y5)), (y6, (y7, (y8.1, (y8.2, (y11, (y12, ((0 : Int), (y38, ((0 : Int), (false, (0 : Int)))))))))))))
 else
 bif decide ((Go.IntKind.wrap .i64 ((1 : Int) + y5)) = (4 : Int)) then
 Option.bind (r18 (a.2.2.2.2.2.2, (2 : Int))) fun (y39 : Int) =>
 some ((), ((Go.IntKind.wrap .i64 ((1 : Int) + y5)), (y6, (y7, (y8.1, (y8.2, ((0 : Int), ((0 : Int), ((0 : Int), ((0 : Int), ((0 : Int), (decide (y39 = (1 : Int)), (0 : Int)))))))))))))
 else
 bif decide ((Go.IntKind.wrap .i64 ((1 : Int) + y5)) = (5 : Int)) then
 Option.bind (r18 ((Go.IntKind.wrap .i64 (Int.tdiv a.2.2.2.2.2.2 (4 : Int))), (9 : Int))) fun (y40 : Int) =>
 bif decide (x10 = (0 : Int)) then
 Option.bind (r18 (a.2.2.2.2.2.2, (99 : Int))) fun (y41 : Int) =>
 Option.bind (r18 (a.2.2.2.2.2.2, (5 : Int))) fun (y42 : Int) =>
 some ((), ((Go.IntKind.wrap .i64 ((1 : Int) + y5)), (y6, (y7, (y8.1, (y8.2, (y11, (y12, (y41, (y42, (y40, (false, x10))))))))))))
 else
 some ((), ((Go.IntKind.wrap .i64 ((1 : Int) + y5)), (y6, (y7, (y8.1, (y8.2, (y11, (y12, ((0 : Int), ((0 : Int), (y40, (false, x10))))))))))))
 else
 bif decide ((Go.IntKind.wrap .i64 ((1 : Int) + y5)) = (6 : Int)) then
 Option.bind (r18 ((Go.IntKind.wrap .i64 (Int.tdiv a.2.2.2.2.2.2 (4 : Int))), (9 : Int))) fun (y43 : Int) =>
 some ((), ((Go.IntKind.wrap .i64 ((1 : Int) + y5)), (y6, (y7, (y8.1, (y8.2, ((0 : Int), (y12, ((0 : Int), ((0 : Int), (y43, (false, x10))))))))))))
 else
 bif decide ((Go.IntKind.wrap .i64 ((1 : Int) + y5)) = (7 : Int)) then
 Option.bind (r18 (a.2.2.2.2.2.2, (4 : Int))) fun (y44 : Int) =>
 Option.bind (r18 (a.2.2.2.2.2.2, (2 : Int))) fun (y45 : Int) =>
 some ((), ((Go.IntKind.wrap .i64 ((1 : Int) + y5)), (y6, (y7, (y8.1, (y8.2, (y11, (y12, ((0 : Int), (y44, ((0 : Int), (decide (y45 = (1 : Int)), (0 : Int)))))))))))))
 else
 some ((), ((Go.IntKind.wrap .i64 ((1 : Int) + y5)), (y6, (y7, (y8.1, (y8.2, ((0 : Int), ((0 : Int), ((0 : Int), ((0 : Int), ((0 : Int), (false, (0 : Int)))))))))))))) fun (d46 : T_23) =>
 some (d46.2.1, (d46.2.2.1, (d46.2.2.2.1, ((d46.2.2.2.2.1, d46.2.2.2.2.2.1), d46.2.2.2.2.2.2))))
 else
 none
def an25 : Ann := .two (.leaf) (.two (.draw 23) (.two (.leaf) (.two (.leaf) (.two (.leaf) (.two (.join [4] [4] [⟨.normal, [], [.tmp 5 (.pt 5 [(0, 0)] 0 0 12), .box 5 [.int .i64, .int .i64, .int .i64, .int .i64, .int .i64, .int .i64, .int .i64, .int .i64, .int .i64, .int .i64, .bool, .int .i64]]⟩] (.two (.leaf) (.one (.two (.leaf) (.two (.two (.leaf) (.two (.leaf) (.leaf))) (.two (.leaf) (.two (.two (.leaf) (.two (.leaf) (.leaf))) (.two (.leaf) (.two (.two (.leaf) (.two (.leaf) (.leaf))) (.two (.leaf) (.two (.leaf) (.two (.leaf) (.two (.two (.leaf) (.two (.leaf) (.two (.leaf) (.two (.leaf) (.two (.leaf) (.two (.two (.leaf) (.leaf)) (.leaf))))))) (.two (.leaf) (.two (.two (.leaf) (.two (.leaf) (.leaf))) (.two (.leaf) (.two (.two (.leaf) (.two (.leaf) (.two (.leaf) (.leaf)))) (.leaf)))))))))))))))))) (.two (.leaf) (.leaf)))))))
theorem s25 : SoundF cx.P cx.G 25 sg25 r25 := by
  have e : denF cx [(14, ⟨sg14, r14⟩), (18, ⟨sg18, r18⟩)] an25 Tryd.f25.ntmps (Tryd.f25.body.getD .skip) Tryd.f25.results.toList sg25 = r25 := by kernel_rfl
  rw [← e]
  exact sound_of_den (c := cx) (Known.cons (.ofF s14 (by kernel_rfl)) Tryd.func14 (by kernel_rfl) (by kernel_rfl) (Known.cons (.ofF s18 (by kernel_rfl)) Tryd.func18 (by kernel_rfl) (by kernel_rfl) (Known.nil))) Tryd.func25 (by kernel_rfl) (Nat.le_of_ble_eq_true (by kernel_rfl)) rfl

/-! reredos/store.call -/
def sg37 : Sig := ⟨[⟨true, .bo, E_31⟩, ⟨true, .bo, (.pair (.int .i64) (.int .i64))⟩, ⟨false, .bo, (.int .i64)⟩], [⟨false, .own, (.int .i64)⟩]⟩
noncomputable def r37 (a : T_16) : Option Int :=
 Option.bind (r24 a.1) fun (y1 : Int) =>
 bif !(decide (y1 = (0 : Int))) then
 some y1
 else
 Option.bind (
 Option.bind (
 Option.bind (r73 a.2.1) fun (y6 : Bool) =>
 bif !(!(y6)) then
 some (decide (a.2.2 < (0 : Int)))
 else
 some true) fun (g7 : Bool) =>
 bif !(g7) then
 some (decide ((8 : Int) ≤ a.2.2))
 else
 some true) fun (d8 : Bool) =>
 bif d8 then
 some (2 : Int)
 else
 some (0 : Int)
def an37 : Ann := .two (.leaf) (.two (.two (.leaf) (.two (.leaf) (.two (.two (.leaf) (.leaf)) (.leaf)))) (.two (.two (.join [] [] [⟨.normal, [], [.tmp 23 (.bool)]⟩] (.segs [(7, ([2], ([], [.tmp 19 (.bool)])))])) (.two (.two (.leaf) (.leaf)) (.leaf))) (.two (.leaf) (.leaf))))
theorem s37 : SoundF cx.P cx.G 37 sg37 r37 := by
  have e : denF cx [(24, ⟨sg24, r24⟩), (73, ⟨sg73, r73⟩)] an37 Tryd.f37.ntmps (Tryd.f37.body.getD .skip) Tryd.f37.results.toList sg37 = r37 := by kernel_rfl
  rw [← e]
  exact sound_of_den (c := cx) (Known.cons (.ofF s24 (by kernel_rfl)) Tryd.func24 (by kernel_rfl) (by kernel_rfl) (Known.cons (.ofF s73 (by kernel_rfl)) Tryd.func73 (by kernel_rfl) (by kernel_rfl) (Known.nil))) Tryd.func37 (by kernel_rfl) (Nat.le_of_ble_eq_true (by kernel_rfl)) rfl

/-! slices.Clone[[]reredos/api.Item,reredos/api.Item] -/
def sg74 : Sig := ⟨[⟨false, .bo, (.sl E_38)⟩], [⟨false, .own, (.sl E_38)⟩]⟩
noncomputable def r74 (a : List ((Int × (Int × Int)))) : Option (List ((Int × (Int × Int)))) :=
 nilR a fun (n1 : Bool) =>
 bif n1 then
 some []
 else
 bif roomOk false 0 a.length 24 then
 some a
 else
 none
def an74 : Ann := .two (.leaf) (.two (.two (.leaf) (.two (.two (.leaf) (.leaf)) (.leaf))) (.two (.leaf) (.leaf)))
theorem s74 : SoundF cx.P cx.G 74 sg74 r74 := by
  have e : denF cx [] an74 Tryd.f74.ntmps (Tryd.f74.body.getD .skip) Tryd.f74.results.toList sg74 = r74 := by kernel_rfl
  rw [← e]
  exact sound_of_den (c := cx) (Known.nil) Tryd.func74 (by kernel_rfl) (Nat.le_of_ble_eq_true (by kernel_rfl)) rfl

/-! slices.Clone[[]reredos/api.Lock,reredos/api.Lock] -/
def sg75 : Sig := ⟨[⟨false, .bo, (.sl E_36)⟩], [⟨false, .own, (.sl E_36)⟩]⟩
noncomputable def r75 (a : List (T_25)) : Option (List (T_25)) :=
 nilR a fun (n1 : Bool) =>
 bif n1 then
 some []
 else
 bif roomOk false 0 a.length 48 then
 some a
 else
 none
def an75 : Ann := .two (.leaf) (.two (.two (.leaf) (.two (.two (.leaf) (.leaf)) (.leaf))) (.two (.leaf) (.leaf)))
theorem s75 : SoundF cx.P cx.G 75 sg75 r75 := by
  have e : denF cx [] an75 Tryd.f75.ntmps (Tryd.f75.body.getD .skip) Tryd.f75.results.toList sg75 = r75 := by kernel_rfl
  rw [← e]
  exact sound_of_den (c := cx) (Known.nil) Tryd.func75 (by kernel_rfl) (Nat.le_of_ble_eq_true (by kernel_rfl)) rfl

/-! slices.Clone[[]reredos/api.Doubt,reredos/api.Doubt] -/
def sg76 : Sig := ⟨[⟨false, .bo, (.sl E_39)⟩], [⟨false, .own, (.sl E_39)⟩]⟩
noncomputable def r76 (a : List (((Int × Int) × Int))) : Option (List (((Int × Int) × Int))) :=
 nilR a fun (n1 : Bool) =>
 bif n1 then
 some []
 else
 bif roomOk false 0 a.length 24 then
 some a
 else
 none
def an76 : Ann := .two (.leaf) (.two (.two (.leaf) (.two (.two (.leaf) (.leaf)) (.leaf))) (.two (.leaf) (.leaf)))
theorem s76 : SoundF cx.P cx.G 76 sg76 r76 := by
  have e : denF cx [] an76 Tryd.f76.ntmps (Tryd.f76.body.getD .skip) Tryd.f76.results.toList sg76 = r76 := by kernel_rfl
  rw [← e]
  exact sound_of_den (c := cx) (Known.nil) Tryd.func76 (by kernel_rfl) (Nat.le_of_ble_eq_true (by kernel_rfl)) rfl

/-! slices.Clone[[]reredos/api.Txn,reredos/api.Txn] -/
def sg77 : Sig := ⟨[⟨false, .bo, (.sl (.pair (.int .i64) (.int .i64)))⟩], [⟨false, .own, (.sl (.pair (.int .i64) (.int .i64)))⟩]⟩
noncomputable def r77 (a : List ((Int × Int))) : Option (List ((Int × Int))) :=
 nilR a fun (n1 : Bool) =>
 bif n1 then
 some []
 else
 bif roomOk false 0 a.length 16 then
 some a
 else
 none
def an77 : Ann := .two (.leaf) (.two (.two (.leaf) (.two (.two (.leaf) (.leaf)) (.leaf))) (.two (.leaf) (.leaf)))
theorem s77 : SoundF cx.P cx.G 77 sg77 r77 := by
  have e : denF cx [] an77 Tryd.f77.ntmps (Tryd.f77.body.getD .skip) Tryd.f77.results.toList sg77 = r77 := by kernel_rfl
  rw [← e]
  exact sound_of_den (c := cx) (Known.nil) Tryd.func77 (by kernel_rfl) (Nat.le_of_ble_eq_true (by kernel_rfl)) rfl

/-! reredos/store.own -/
def sg38 : Sig := ⟨[⟨true, .bo, E_31⟩], [⟨true, .own, E_31⟩]⟩
noncomputable def r38 (a : T_22) : Option T_22 :=
 Option.bind (r74 a.1) fun (y5 : List ((Int × (Int × Int)))) =>
 Option.bind (r75 a.2.1) fun (y6 : List (T_25)) =>
 Option.bind (r76 a.2.2.1) fun (y7 : List (((Int × Int) × Int))) =>
 Option.bind (r77 a.2.2.2) fun (y8 : List ((Int × Int))) =>
 some (y5, (y6, (y7, y8)))
def an38 : Ann := .two (.leaf) (.two (.draw 11) (.leaf))
theorem s38 : SoundF cx.P cx.G 38 sg38 r38 := by
  have e : denF cx [(74, ⟨sg74, r74⟩), (75, ⟨sg75, r75⟩), (76, ⟨sg76, r76⟩), (77, ⟨sg77, r77⟩)] an38 Tryd.f38.ntmps (Tryd.f38.body.getD .skip) Tryd.f38.results.toList sg38 = r38 := by kernel_rfl
  rw [← e]
  exact sound_of_den (c := cx) (Known.cons (.ofF s74 (by kernel_rfl)) Tryd.func74 (by kernel_rfl) (by kernel_rfl) (Known.cons (.ofF s75 (by kernel_rfl)) Tryd.func75 (by kernel_rfl) (by kernel_rfl) (Known.cons (.ofF s76 (by kernel_rfl)) Tryd.func76 (by kernel_rfl) (by kernel_rfl) (Known.cons (.ofF s77 (by kernel_rfl)) Tryd.func77 (by kernel_rfl) (by kernel_rfl) (Known.nil))))) Tryd.func38 (by kernel_rfl) (Nat.le_of_ble_eq_true (by kernel_rfl)) rfl

/-! cmp.isNaN[int] -/
def sg100 : Sig := ⟨[⟨false, .bo, (.int .i64)⟩], [⟨false, .own, .bool⟩]⟩
noncomputable def r100 (a : Int) : Option Bool :=
 some (!(decide (a = a)))
def an100 : Ann := .two (.leaf) (.two (.leaf) (.leaf))
theorem s100 : SoundF cx.P cx.G 100 sg100 r100 := by
  have e : denF cx [] an100 Tryd.f100.ntmps (Tryd.f100.body.getD .skip) Tryd.f100.results.toList sg100 = r100 := by kernel_rfl
  rw [← e]
  exact sound_of_den (c := cx) (Known.nil) Tryd.func100 (by kernel_rfl) (Nat.le_of_ble_eq_true (by kernel_rfl)) rfl

/-! cmp.Compare[int] -/
def sg80 : Sig := ⟨[⟨false, .bo, (.int .i64)⟩, ⟨false, .bo, (.int .i64)⟩], [⟨false, .own, (.int .i64)⟩]⟩
noncomputable def r80 (a : (Int × Int)) : Option Int :=
 Option.bind (r100 a.1) fun (y1 : Bool) =>
 Option.bind (r100 a.2) fun (y2 : Bool) =>
 bif y1 then
 bif y2 then
 some (0 : Int)
 else
 some (-1 : Int)
 else
 bif y2 then
 some (1 : Int)
 else
 bif decide (a.1 < a.2) then
 some (-1 : Int)
 else
 bif decide (a.2 < a.1) then
 some (1 : Int)
 else
 some (0 : Int)
def an80 : Ann := .two (.leaf) (.two (.leaf) (.two (.leaf) (.two (.two (.leaf) (.two (.two (.two (.leaf) (.two (.two (.leaf) (.leaf)) (.leaf))) (.two (.leaf) (.leaf))) (.leaf))) (.two (.two (.leaf) (.two (.two (.leaf) (.leaf)) (.leaf))) (.two (.two (.leaf) (.two (.two (.leaf) (.leaf)) (.leaf))) (.two (.two (.leaf) (.two (.two (.leaf) (.leaf)) (.leaf))) (.two (.leaf) (.leaf))))))))
theorem s80 : SoundF cx.P cx.G 80 sg80 r80 := by
  have e : denF cx [(100, ⟨sg100, r100⟩)] an80 Tryd.f80.ntmps (Tryd.f80.body.getD .skip) Tryd.f80.results.toList sg80 = r80 := by kernel_rfl
  rw [← e]
  exact sound_of_den (c := cx) (Known.cons (.ofF s100 (by kernel_rfl)) Tryd.func100 (by kernel_rfl) (by kernel_rfl) (Known.nil)) Tryd.func80 (by kernel_rfl) (Nat.le_of_ble_eq_true (by kernel_rfl)) rfl

/-! reredos/store.at$1 -/
def sg79 : Sig := ⟨[⟨true, .bo, E_38⟩, ⟨false, .bo, (.int .i64)⟩], [⟨false, .own, (.int .i64)⟩]⟩
noncomputable def r79 (a : ((Int × (Int × Int)) × Int)) : Option Int :=
 Option.bind (r80 (a.1.1, a.2)) fun (y1 : Int) =>
 some y1
def an79 : Ann := .two (.leaf) (.two (.leaf) (.leaf))
theorem s79 : SoundF cx.P cx.G 79 sg79 r79 := by
  have e : denF cx [(80, ⟨sg80, r80⟩)] an79 Tryd.f79.ntmps (Tryd.f79.body.getD .skip) Tryd.f79.results.toList sg79 = r79 := by kernel_rfl
  rw [← e]
  exact sound_of_den (c := cx) (Known.cons (.ofF s80 (by kernel_rfl)) Tryd.func80 (by kernel_rfl) (by kernel_rfl) (Known.nil)) Tryd.func79 (by kernel_rfl) (Nat.le_of_ble_eq_true (by kernel_rfl)) rfl

/-! reredos/store.at -/
noncomputable def r39_L0 (a : (List ((Int × (Int × Int))) × Int)) (d13 : (Int × Int)) : Option ((Int × Int) ⊕ Int) :=
 bif decide (d13.1 < d13.2) then
 Option.bind (idxI a.1 (Go.IntKind.wrap .i64 (Int.fdiv (Go.IntKind.wrap .u64 (Go.IntKind.wrap .i64 (d13.1 + d13.2))) (2 ^ 1)))) fun (b14 : (Int × (Int × Int))) =>
 Option.bind (r80 (b14.1, a.2)) fun (y15 : Int) =>
 bif decide (y15 < (0 : Int)) then
 some (Sum.inl ((Go.IntKind.wrap .i64 ((Go.IntKind.wrap .i64 (Int.fdiv (Go.IntKind.wrap .u64 (Go.IntKind.wrap .i64 (d13.1 + d13.2))) (2 ^ 1))) + (1 : Int))), d13.2))
 else
 some (Sum.inl (d13.1, (Go.IntKind.wrap .i64 (Int.fdiv (Go.IntKind.wrap .u64 (Go.IntKind.wrap .i64 (d13.1 + d13.2))) (2 ^ 1)))))
 else
 some (Sum.inr d13.1)
def sg39 : Sig := ⟨[⟨false, .bo, (.sl E_38)⟩, ⟨false, .bo, (.int .i64)⟩], [⟨false, .own, (.int .i64)⟩, ⟨false, .own, .bool⟩]⟩
noncomputable def r39 (a : (List ((Int × (Int × Int))) × Int)) : Option (Int × Bool) :=
 Option.bind (
 Option.bind (loopR (r39_L0 a) ((0 : Int), (↑a.1.length : Int))) fun (q16 : Int) =>
 bif decide (q16 < (↑a.1.length : Int)) then
 Option.bind (idxI a.1 q16) fun (b17 : (Int × (Int × Int))) =>
 Option.bind (r80 (b17.1, a.2)) fun (y18 : Int) =>
 some (q16, decide (y18 = (0 : Int)))
 else
 some (q16, false)) fun (d19 : (Int × Bool)) =>
 some d19
def an39 : Ann := .two (.leaf) (.two (.inl 2 11 (.join [] [] [⟨.ret, [], [.tmp 17 (.int .i64), .tmp 18 (.bool)]⟩] (.two (.leaf) (.two (.leaf) (.two (.leaf) (.two (.one (.loop [11, 12, 13, 19] [] [] [.tmp 20 (.int .i64), .tmp 21 (.int .i64)] [⟨.exit 0, [], [.tmp 20 (.int .i64)]⟩] (.two (.two (.leaf) (.two (.leaf) (.leaf))) (.one (.two (.leaf) (.two (.inl 6 60 (.two (.leaf) (.two (.leaf) (.leaf))) (.leaf)) (.two (.leaf) (.leaf)))))))) (.two (.inl 11 69 (.two (.leaf) (.two (.leaf) (.leaf))) (.leaf)) (.leaf))))))) (.leaf)) (.leaf))
theorem s39 : SoundF cx.P cx.G 39 sg39 r39 := by
  have e : denF cx [(80, ⟨sg80, r80⟩)] an39 Tryd.f39.ntmps (Tryd.f39.body.getD .skip) Tryd.f39.results.toList sg39 = r39 := by kernel_rfl
  rw [← e]
  exact sound_of_den (c := cx) (Known.cons (.ofF s80 (by kernel_rfl)) Tryd.func80 (by kernel_rfl) (by kernel_rfl) (Known.nil)) Tryd.func39 (by kernel_rfl) (Nat.le_of_ble_eq_true (by kernel_rfl)) rfl

/-! slices.Insert[[]reredos/api.Item,reredos/api.Item] -/
set_option maxRecDepth 20000 in
theorem ins40_none {w : World} {ad bd : Option Addr} {n cap j cv : Nat} {ei ti : TyInfo} {e : TypeId} (hi : TyOk1 Tryd.prog 35 ti) (hd : ti.d = .sl e) (hei : TyOk1 Tryd.prog e ei) (hjn : j ≤ n) (hnc : n ≤ cap) :
    Calls Tryd.prog 40 #[.slice ad n cap, iv j, .slice bd 0 cv] w fun e w' => e = .returned (.slice ad n cap) ∧ w' = w := by
  have s1 := fun w => raw_slice (P := Tryd.prog) hi hd hei (ad := ad) (n := n) (cap := cap) (l := j) (h := n) (lo := some (iv j)) (hh := none) (.inr rfl) (.inl ⟨rfl, rfl⟩) hjn hnc w
  simp only [iv] at s1 ⊢
  go_enter Tryd.func40, Tryd.f40
  go_wp
  go_ret
  exact ⟨rfl, rfl⟩

set_option maxRecDepth 20000 in
theorem ins40_end {w w1 : World} {ad bd : Option Addr} {n cap m cv : Nat} {v : Value} {ei ti : TyInfo} {e : TypeId} (hi : TyOk1 Tryd.prog 35 ti) (hd : ti.d = .sl e) (hei : TyOk1 Tryd.prog e ei) (hnc : n ≤ cap) (hm : 0 < m)
    (hap : (Builtin.append_ #[35, 35] 35 #[.slice ad n cap, .slice bd m cv]).run Tryd.prog w = .ok v w1) :
    Calls Tryd.prog 40 #[.slice ad n cap, iv n, .slice bd m cv] w fun e w' => e = .returned v ∧ w' = w1 := by
  obtain ⟨v12, s1⟩ : ∃ v12, ∀ w, (Instr.sliceAt 35 (.slice ad n cap) (some (iv n)) none none).run Tryd.prog w = .ok v12 w := ⟨_, fun w => raw_slice (P := Tryd.prog) hi hd hei (ad := ad) (n := n) (cap := cap) (l := n) (h := n) (lo := some (iv n)) (hh := none) (.inr rfl) (.inl ⟨rfl, rfl⟩) (Nat.le_refl _) hnc w⟩
  simp only [iv] at s1 ⊢
  have hm0 : ¬ (m : Int) = 0 := by omega
  go_enter Tryd.func40, Tryd.f40
  go_wp2_with (at_builtin; refine wpList_val rfl (v := v) (w' := w1) (by simp [execOp, resolve, invoke, builtin, Act.eval, hap]) ?_)
  go_ret
  exact ⟨rfl, rfl⟩

set_option maxRecDepth 20000 in
theorem ins40_shift {w w2 w3 : World} {a66 av : Option Addr} {a76 : Option Addr} {b off n cap j m cv l66 c66 l76 c76 : Nat} {ei ti : TyInfo} {e : TypeId} (hi : TyOk1 Tryd.prog 35 ti) (hd : ti.d = .sl e) (hei : TyOk1 Tryd.prog e ei) (hjn : j < n) (hnc : n ≤ cap) (hm : 0 < m) (hroom : n + m ≤ cap) (hbig : n + m ≤ 281474976710656)
    (h60 : (Instr.sliceAt 35 (.slice (some ⟨b, off, none⟩) n cap) none (some (iv (n + m))) none).run Tryd.prog w = .ok (.slice (some ⟨b, off, none⟩) (n + m) cap) w)
    (h66 : ∀ w, (Instr.sliceAt 35 (.slice (some ⟨b, off, none⟩) (n + m) cap) (some (iv (j + m))) none none).run Tryd.prog w = .ok (.slice a66 l66 c66) w)
    (h76 : ∀ w, (Instr.sliceAt 35 (.slice (some ⟨b, off, none⟩) (n + m) cap) (some (iv j)) none none).run Tryd.prog w = .ok (.slice a76 l76 c76) w)
    (hov : (callFunc 81 #[.slice av m cv, .slice a66 l66 c66]).run Tryd.prog w = .ok (.value (.bool false)) w)
    (hc1 : ∀ ty, (Builtin.copy_ #[35, 35] ty #[.slice a66 l66 c66, .slice a76 l76 c76]).run Tryd.prog { w with drawn := w.drawn + 1 } = .ok (goInt ((n - j : Nat) : Int)) w2)
    (hc2 : ∀ ty, (Builtin.copy_ #[35, 35] ty #[.slice a76 l76 c76, .slice av m cv]).run Tryd.prog w2 = .ok (goInt m) w3) :
    Calls Tryd.prog 40 #[.slice (some ⟨b, off, none⟩) n cap, iv j, .slice av m cv] w fun e w' => e = .returned (.slice (some ⟨b, off, none⟩) (n + m) cap) ∧ w' = w3 := by
  obtain ⟨v12, s1⟩ : ∃ v12, ∀ w, (Instr.sliceAt 35 (.slice (some ⟨b, off, none⟩) n cap) (some (iv j)) none none).run Tryd.prog w = .ok v12 w := ⟨_, fun w => raw_slice (P := Tryd.prog) hi hd hei (ad := some ⟨b, off, none⟩) (n := n) (cap := cap) (l := j) (h := n) (lo := some (iv j)) (hh := none) (.inr rfl) (.inl ⟨rfl, rfl⟩) (by omega) hnc w⟩
  have e1 : ((n + m : Nat) : Int) = (n : Int) + m := by omega
  have e2 : ((j + m : Nat) : Int) = (j : Int) + m := by omega
  simp only [iv, e1, e2] at s1 h60 h66 h76 ⊢
  have hm0 : ¬ (m : Int) = 0 := by omega
  have hjn0 : ¬ (j : Int) = n := by omega
  have hw1 : IntKind.i64.wrap ((n : Int) + m) = (n : Int) + m := by rw [← e1]; exact wrap_nat hbig
  have hw2 : IntKind.i64.wrap ((j : Int) + m) = (j : Int) + m := by rw [← e2]; exact wrap_nat (by omega)
  have hle : ¬ ((cap : Int) < (n : Int) + m) := by omega
  go_enter Tryd.func40, Tryd.f40
  go_wp2_with (simp only [hov])
  refine wp_drawn_pure (m := 8) (ks := [69, 70, 71, 72, 73, 74, 75, 76]) (vs := [.slice (some ⟨b, off, none⟩) (n + m) cap, .int .i64 j, .int .i64 m, .int .i64 ((j : Int) + m), .slice a66 l66 c66, .slice (some ⟨b, off, none⟩) (n + m) cap, .int .i64 j, .slice a76 l76 c76]) (by kernel_rfl) (by kernel_rfl) rfl rfl (by decide) (by simp) ?_ ?_
  · intro k ks v hk hv
    match k with
    | 0 => cases hk; cases hv; exact ⟨_, rfl, rfl, rfl, fun a' ho hd w' => by have e := ho 0 (by decide); simp at e; simp [execOp, Act.eval, e]⟩
    | 1 => cases hk; cases hv; exact ⟨_, rfl, rfl, rfl, fun a' ho hd w' => by have e := ho 1 (by decide); simp at e; simp [execOp, Act.eval, e]⟩
    | 2 => cases hk; cases hv; exact ⟨_, rfl, rfl, rfl, fun a' ho hd w' => by have e := ho 7 (by decide); simp at e; simp [execOp, Act.eval, e]⟩
    | 3 =>
      cases hk; cases hv
      exact ⟨_, rfl, rfl, rfl, fun a' ho hd w' => by
        have e0 := hd 1 70 _ ((mem_iff _ _).1 (by kernel_rfl)) rfl rfl
        have e1 := hd 2 71 _ ((mem_iff _ _).1 (by kernel_rfl)) rfl rfl
        simp [execOp, Act.eval, e0, e1, add_guard, add_run, hw2]⟩
    | 4 =>
      cases hk; cases hv
      exact ⟨_, rfl, rfl, rfl, fun a' ho hd w' => by
        have e0 := hd 0 69 _ ((mem_iff _ _).1 (by kernel_rfl)) rfl rfl
        have e1 := hd 3 72 _ ((mem_iff _ _).1 (by kernel_rfl)) rfl rfl
        simp [execOp, Act.eval, e0, e1, h66]⟩
    | 5 => cases hk; cases hv; exact ⟨_, rfl, rfl, rfl, fun a' ho hd w' => by have e := ho 0 (by decide); simp at e; simp [execOp, Act.eval, e]⟩
    | 6 => cases hk; cases hv; exact ⟨_, rfl, rfl, rfl, fun a' ho hd w' => by have e := ho 1 (by decide); simp at e; simp [execOp, Act.eval, e]⟩
    | 7 =>
      cases hk; cases hv
      exact ⟨_, rfl, rfl, rfl, fun a' ho hd w' => by
        have e0 := hd 5 74 _ ((mem_iff _ _).1 (by kernel_rfl)) rfl rfl
        have e1 := hd 6 75 _ ((mem_iff _ _).1 (by kernel_rfl)) rfl rfl
        simp [execOp, Act.eval, e0, e1, h76]⟩
    | k + 8 => simp at hk
  · simp only [Act.putAll, Act.put, List.drop_succ_cons, List.drop_zero]
    have hc1' := fun ty => (show (Builtin.copy_ #[35, 35] ty #[.slice a66 l66 c66, .slice a76 l76 c76]).run Tryd.prog w.drew = .ok (goInt ((n - j : Nat) : Int)) w2 from hc1 ty)
    refine wpList_val rfl (v := goInt ((n - j : Nat) : Int)) (w' := w2) (by simp [execOp, resolve, invoke, builtin, Act.eval, hc1']) ?_
    go_wp
    go_ret
    exact ⟨rfl, rfl⟩

set_option maxRecDepth 20000 in
theorem ins40_grow {w w1 w2 w3 : World} {av a34 a43 a50 a53 : Option Addr} {b off n cap j m cv l43 c43 l50 c50 l53 c53 l34 c34 newCap W : Nat} {ei ti : TyInfo} {e : TypeId} (_hi : TyOk1 Tryd.prog 35 ti) (_hd : ti.d = .sl e) (_hei : TyOk1 Tryd.prog e ei) (hjn : j < n) (_hnc : n ≤ cap) (hm : 0 < m) (hroom : cap < n + m) (hbig : n + m ≤ 281474976710656)
    (h34 : ∀ w, (Instr.sliceAt 35 (.slice (some ⟨b, off, none⟩) n cap) none (some (iv j)) none).run Tryd.prog w = .ok (.slice a34 l34 c34) w)
    (hap : (Builtin.append_ #[35, 3] 35 #[.slice a34 l34 c34, iv (n + m - j)]).run Tryd.prog w = .ok (.slice (some ⟨W, 0, none⟩) (n + m) newCap) w1)
    (h43 : ∀ w1, (Instr.sliceAt 35 (.slice (some ⟨W, 0, none⟩) (n + m) newCap) (some (iv j)) none none).run Tryd.prog w1 = .ok (.slice a43 l43 c43) w1)
    (h50 : ∀ w1, (Instr.sliceAt 35 (.slice (some ⟨W, 0, none⟩) (n + m) newCap) (some (iv (j + m))) none none).run Tryd.prog w1 = .ok (.slice a50 l50 c50) w1)
    (h53 : ∀ w1, (Instr.sliceAt 35 (.slice (some ⟨b, off, none⟩) n cap) (some (iv j)) none none).run Tryd.prog w1 = .ok (.slice a53 l53 c53) w1)
    (hc1 : ∀ ty, (Builtin.copy_ #[35, 35] ty #[.slice a43 l43 c43, .slice av m cv]).run Tryd.prog w1 = .ok (goInt m) w2)
    (hc2 : ∀ ty, (Builtin.copy_ #[35, 35] ty #[.slice a50 l50 c50, .slice a53 l53 c53]).run Tryd.prog { w2 with drawn := w2.drawn + 1 } = .ok (goInt ((n - j : Nat) : Int)) w3) :
    Calls Tryd.prog 40 #[.slice (some ⟨b, off, none⟩) n cap, iv j, .slice av m cv] w fun e w' => e = .returned (.slice (some ⟨W, 0, none⟩) (n + m) newCap) ∧ w' = w3 := by
  have e1 : ((n + m : Nat) : Int) = (n : Int) + m := by omega
  have e2 : ((j + m : Nat) : Int) = (j : Int) + m := by omega
  have e3 : ((n + m - j : Nat) : Int) = (n : Int) + m - j := by omega
  simp only [iv, e2, e3] at h34 hap h43 h50 h53 ⊢
  have hm0 : ¬ (m : Int) = 0 := by omega
  have hjn0 : ¬ (j : Int) = n := by omega
  have hw1 : IntKind.i64.wrap ((n : Int) + m) = (n : Int) + m := by rw [← e1]; exact wrap_nat hbig
  have hw2 : IntKind.i64.wrap ((j : Int) + m) = (j : Int) + m := by rw [← e2]; exact wrap_nat (by omega)
  have hw3 : IntKind.i64.wrap ((n : Int) + m - j) = (n : Int) + m - j := by rw [← e3]; exact wrap_nat (by omega)
  have hlt : ((cap : Int) < (n : Int) + m) := by omega
  go_enter Tryd.func40, Tryd.f40
  go_wp2_with (at_builtin; refine wpList_val rfl (v := .slice (some ⟨W, 0, none⟩) (n + m) newCap) (w' := w1) (by simp [execOp, resolve, invoke, builtin, Act.eval, hap]) ?_)
  refine wp_drawn_pure (m := 8) (ks := [46, 47, 48, 49, 50, 51, 52, 53]) (vs := [.slice (some ⟨W, 0, none⟩) (n + m) newCap, .int .i64 j, .int .i64 m, .int .i64 ((j : Int) + m), .slice a50 l50 c50, .slice (some ⟨b, off, none⟩) n cap, .int .i64 j, .slice a53 l53 c53]) (by kernel_rfl) (by kernel_rfl) rfl rfl (by decide) (by simp) ?_ ?_
  · intro k ks v hk hv
    match k with
    | 0 => cases hk; cases hv; exact ⟨_, rfl, rfl, rfl, fun a' ho hd w' => by have e := ho 9 (by decide); simp at e; simp [execOp, Act.eval, e]⟩
    | 1 => cases hk; cases hv; exact ⟨_, rfl, rfl, rfl, fun a' ho hd w' => by have e := ho 1 (by decide); simp at e; simp [execOp, Act.eval, e]⟩
    | 2 => cases hk; cases hv; exact ⟨_, rfl, rfl, rfl, fun a' ho hd w' => by have e := ho 7 (by decide); simp at e; simp [execOp, Act.eval, e]⟩
    | 3 =>
      cases hk; cases hv
      exact ⟨_, rfl, rfl, rfl, fun a' ho hd w' => by
        have e0 := hd 1 47 _ ((mem_iff _ _).1 (by kernel_rfl)) rfl rfl
        have e1 := hd 2 48 _ ((mem_iff _ _).1 (by kernel_rfl)) rfl rfl
        simp [execOp, Act.eval, e0, e1, add_guard, add_run, hw2]⟩
    | 4 =>
      cases hk; cases hv
      exact ⟨_, rfl, rfl, rfl, fun a' ho hd w' => by
        have e0 := hd 0 46 _ ((mem_iff _ _).1 (by kernel_rfl)) rfl rfl
        have e1 := hd 3 49 _ ((mem_iff _ _).1 (by kernel_rfl)) rfl rfl
        simp [execOp, Act.eval, e0, e1, h50]⟩
    | 5 => cases hk; cases hv; exact ⟨_, rfl, rfl, rfl, fun a' ho hd w' => by have e := ho 0 (by decide); simp at e; simp [execOp, Act.eval, e]⟩
    | 6 => cases hk; cases hv; exact ⟨_, rfl, rfl, rfl, fun a' ho hd w' => by have e := ho 1 (by decide); simp at e; simp [execOp, Act.eval, e]⟩
    | 7 =>
      cases hk; cases hv
      exact ⟨_, rfl, rfl, rfl, fun a' ho hd w' => by
        have e0 := hd 5 51 _ ((mem_iff _ _).1 (by kernel_rfl)) rfl rfl
        have e1 := hd 6 52 _ ((mem_iff _ _).1 (by kernel_rfl)) rfl rfl
        simp [execOp, Act.eval, e0, e1, h53]⟩
    | k + 8 => simp at hk
  · simp only [Act.putAll, Act.put, List.drop_succ_cons, List.drop_zero]
    have hc2' := fun ty => (show (Builtin.copy_ #[35, 35] ty #[.slice a50 l50 c50, .slice a53 l53 c53]).run Tryd.prog w2.drew = .ok (goInt ((n - j : Nat) : Int)) w3 from hc2 ty)
    refine wpList_val rfl (v := goInt ((n - j : Nat) : Int)) (w' := w3) (by simp [execOp, resolve, invoke, builtin, Act.eval, hc2']) ?_
    go_wp
    go_ret
    exact ⟨rfl, rfl⟩

set_option maxRecDepth 20000 in
theorem ins40 : InsOk Tryd.prog 40 35 3 81 4 where
  none := fun w ad bd n cap j cv h1 h2 => ins40_none (tysOk 35 ⟨.sl 108, 1, 24, [.slice none 0 0], false, [some E_38], [none], (.sl E_38)⟩ (by kernel_rfl)) rfl (tysOk 108 ⟨.st [(0, 3), (1, 3), (2, 3)], 3, 24, [.int .i64 0, .int .i64 0, .int .i64 0], true, [none, none, none], [none, none, none], E_38⟩ (by kernel_rfl)) h1 h2
  stop := fun w w1 ad bd n cap m cv v h1 h2 h3 => ins40_end (tysOk 35 ⟨.sl 108, 1, 24, [.slice none 0 0], false, [some E_38], [none], (.sl E_38)⟩ (by kernel_rfl)) rfl (tysOk 108 ⟨.st [(0, 3), (1, 3), (2, 3)], 3, 24, [.int .i64 0, .int .i64 0, .int .i64 0], true, [none, none, none], [none, none, none], E_38⟩ (by kernel_rfl)) h1 h2 h3
  shift := fun w w2 w3 a66 av a76 b off n cap j m cv l66 c66 l76 c76 h1 h2 h3 h4 h5 h6 h7 h8 h9 h10 h11 => ins40_shift (tysOk 35 ⟨.sl 108, 1, 24, [.slice none 0 0], false, [some E_38], [none], (.sl E_38)⟩ (by kernel_rfl)) rfl (tysOk 108 ⟨.st [(0, 3), (1, 3), (2, 3)], 3, 24, [.int .i64 0, .int .i64 0, .int .i64 0], true, [none, none, none], [none, none, none], E_38⟩ (by kernel_rfl)) h1 h2 h3 h4 h5 h6 h7 h8 h9 h10 h11
  grow := fun w w1 w2 w3 av a34 a43 a50 a53 b off n cap j m cv l43 c43 l50 c50 l53 c53 l34 c34 newCap W h1 h2 h3 h4 h5 h6 h7 h8 h9 h10 h11 h12 => ins40_grow (tysOk 35 ⟨.sl 108, 1, 24, [.slice none 0 0], false, [some E_38], [none], (.sl E_38)⟩ (by kernel_rfl)) rfl (tysOk 108 ⟨.st [(0, 3), (1, 3), (2, 3)], 3, 24, [.int .i64 0, .int .i64 0, .int .i64 0], true, [none, none, none], [none, none, none], E_38⟩ (by kernel_rfl)) h1 h2 h3 h4 h5 h6 h7 h8 h9 h10 h11 h12
  over := fun args w => run_callFunc_extern Tryd.func81 (by kernel_rfl) (by kernel_rfl) (by kernel_rfl) (e := Extern.SlicesOverlaps.overlaps #[35, 35] #[4]) (by kernel_rfl) args w
def sg40 : Sig := insS E_38
noncomputable def r40 (a : List (Int × (Int × Int)) × (Int × List (Int × (Int × Int)))) : Option (List (Int × (Int × Int))) := insR 24 a
set_option maxRecDepth 20000 in
theorem s40 : SoundD cx.P 40 sg40 r40 := by
  have h : SoundD cx.P 40 (insS E_38) (insR 24) := ins_sound (c := cx) (e := E_38) (ei := ⟨.st [(0, 3), (1, 3), (2, 3)], 3, 24, [.int .i64 0, .int .i64 0, .int .i64 0], true, [none, none, none], [none, none, none], E_38⟩) ins40 (tysOk 35 ⟨.sl 108, 1, 24, [.slice none 0 0], false, [some E_38], [none], (.sl E_38)⟩ (by kernel_rfl)) (by kernel_rfl) (tysOk 108 ⟨.st [(0, 3), (1, 3), (2, 3)], 3, 24, [.int .i64 0, .int .i64 0, .int .i64 0], true, [none, none, none], [none, none, none], E_38⟩ (by kernel_rfl)) (xt := 3) (kk := .i64) (by kernel_rfl) (by kernel_rfl) (by kernel_rfl) (by decide) (by decide) (by kernel_rfl)
  exact h

/-! reredos/store.End -/
noncomputable def r19_L0 (a : T_15) (d44 : T_18) : Option (T_18 ⊕ T_20) :=
 bif decide (d44.2.1 < (↑a.1.2.1.length : Int)) then
 Option.bind (
 Option.bind (idxI a.1.2.1 d44.2.1) fun (b71 : T_25) =>
 Option.bind (
 Option.bind (
 bif !(!((decide (b71.1.1 = a.2.1.1) && (decide (b71.1.2 = a.2.1.2) && true)))) then
 some !(b71.2.2.1)
 else
 some true) fun (g74 : Bool) =>
 bif !(g74) then
 some !(a.2.2)
 else
 some true) fun (d75 : Bool) =>
 bif d75 then
 some ((), d44.2.2)
 else
 Option.bind (r39 (d44.2.2.1, b71.2.1)) fun (y76 : (Int × Bool)) =>
 Option.bind (
 bif !(y76.2) then
 Option.bind (r40 (d44.2.2.1, y76.1, [(b71.2.1, ((0 : Int), (0 : Int)))])) fun (y79 : List ((Int × (Int × Int)))) =>
 some ((), (y79, d44.2.2.2))
 else
 some ((), d44.2.2)) fun (d80 : T_20) =>
 bif inB y76.1 d80.2.1.length then
 Option.bind (idxN d80.2.1 (Int.toNat y76.1)) fun (x81 : (Int × (Int × Int))) =>
 bif inB y76.1 ((List.set d80.2.1 (Int.toNat y76.1) (x81.1, (b71.2.2.2.1, x81.2.2))).length) then
 Option.bind (idxN (List.set d80.2.1 (Int.toNat y76.1) (x81.1, (b71.2.2.2.1, x81.2.2))) (Int.toNat y76.1)) fun (x82 : (Int × (Int × Int))) =>
 bif inB y76.1 ((List.set d80.2.1 (Int.toNat y76.1) (x81.1, (b71.2.2.2.1, x81.2.2))).length) then
 Option.bind (idxN (List.set d80.2.1 (Int.toNat y76.1) (x81.1, (b71.2.2.2.1, x81.2.2))) (Int.toNat y76.1)) fun (x83 : (Int × (Int × Int))) =>
 some ((), (List.set (List.set d80.2.1 (Int.toNat y76.1) (x81.1, (b71.2.2.2.1, x81.2.2))) (Int.toNat y76.1) (x83.1, (x83.2.1, (Go.IntKind.wrap .i64 (x82.2.2 + (1 : Int))))), d80.2.2))
 else
 none
 else
 none
 else
 none) fun (d84 : T_20) =>
 some (Sum.inl ((), ((Go.IntKind.wrap .i64 (d44.2.1 + (1 : Int))), d84.2)))
 else
 some (Sum.inr ((), d44.2.2))
noncomputable def r19_L1 (q85 : T_20) (a : T_15) (d162 : Int) : Option (Int ⊕ (Unit ⊕ Int)) :=
 bif decide (d162 < (↑q85.2.2.1.length : Int)) then
 bif inB d162 q85.2.2.1.length then
 Option.bind (idxN q85.2.2.1 (Int.toNat d162)) fun (x163 : T_25) =>
 bif (decide (x163.1.1 = a.2.1.1) && (decide (x163.1.2 = a.2.1.2) && true)) then
 some (Sum.inr (Sum.inr d162))
 else
 some (Sum.inl (Go.IntKind.wrap .i64 (d162 + (1 : Int))))
 else
 none
 else
 some (Sum.inr (Sum.inl ()))
noncomputable def r19_L2 (a : T_15) (d176 : T_12) : Option (T_12 ⊕ T_14) :=
 bif decide (d176.2.2.2.1 < (↑d176.2.2.2.2.2.1.length : Int)) then
 Option.bind (
 bif inB d176.2.2.2.1 d176.2.2.2.2.2.1.length then
 Option.bind (idxN d176.2.2.2.2.2.1 (Int.toNat d176.2.2.2.1)) fun (x181 : T_25) =>
 bif !((decide (x181.1.1 = a.2.1.1) && (decide (x181.1.2 = a.2.1.2) && true))) then
 bif inB d176.2.2.1 d176.2.2.2.2.2.1.length then
 Option.bind (idxN d176.2.2.2.2.2.1 (Int.toNat d176.2.2.1)) fun (_ : T_25) =>
 some ((), ((), ((Go.IntKind.wrap .i64 (d176.2.2.1 + (1 : Int))), (d176.2.2.2.2.1, (List.set d176.2.2.2.2.2.1 (Int.toNat d176.2.2.1) x181, d176.2.2.2.2.2.2)))))
 else
 none
 else
 some ((), ((), (d176.2.2.1, d176.2.2.2.2)))
 else
 none) fun (d183 : T_14) =>
 some (Sum.inl ((), ((), (d183.2.2.1, ((Go.IntKind.wrap .i64 (d176.2.2.2.1 + (1 : Int))), d183.2.2.2)))))
 else
 some (Sum.inr ((), ((), (d176.2.2.1, d176.2.2.2.2))))
noncomputable def r19_L3 (d185 : (Unit × (Unit × ((List ((Int × (Int × Int))) × (Unit × (List (((Int × Int) × Int)) × List ((Int × Int))))) × List (T_25))))) (a : T_15) (d262 : Int) : Option (Int ⊕ (Unit ⊕ Int)) :=
 bif decide (d262 < (↑d185.2.2.1.2.2.1.length : Int)) then
 bif inB d262 d185.2.2.1.2.2.1.length then
 Option.bind (idxN d185.2.2.1.2.2.1 (Int.toNat d262)) fun (x263 : ((Int × Int) × Int)) =>
 bif (decide (x263.1.1 = a.2.1.1) && (decide (x263.1.2 = a.2.1.2) && true)) then
 some (Sum.inr (Sum.inr d262))
 else
 some (Sum.inl (Go.IntKind.wrap .i64 (d262 + (1 : Int))))
 else
 none
 else
 some (Sum.inr (Sum.inl ()))
noncomputable def r19_L4 (a : T_15) (d276 : T_12) : Option (T_12 ⊕ T_14) :=
 bif decide (d276.2.2.2.1 < (↑d276.2.2.2.2.2.2.1.length : Int)) then
 Option.bind (
 bif inB d276.2.2.2.1 d276.2.2.2.2.2.2.1.length then
 Option.bind (idxN d276.2.2.2.2.2.2.1 (Int.toNat d276.2.2.2.1)) fun (x281 : ((Int × Int) × Int)) =>
 bif !((decide (x281.1.1 = a.2.1.1) && (decide (x281.1.2 = a.2.1.2) && true))) then
 bif inB d276.2.2.1 d276.2.2.2.2.2.2.1.length then
 Option.bind (idxN d276.2.2.2.2.2.2.1 (Int.toNat d276.2.2.1)) fun (_ : ((Int × Int) × Int)) =>
 some ((), ((), ((Go.IntKind.wrap .i64 (d276.2.2.1 + (1 : Int))), (d276.2.2.2.2.1, (d276.2.2.2.2.2.1, (List.set d276.2.2.2.2.2.2.1 (Int.toNat d276.2.2.1) x281, d276.2.2.2.2.2.2.2))))))
 else
 none
 else
 some ((), ((), (d276.2.2.1, d276.2.2.2.2)))
 else
 none) fun (d283 : T_14) =>
 some (Sum.inl ((), ((), (d283.2.2.1, ((Go.IntKind.wrap .i64 (d276.2.2.2.1 + (1 : Int))), d283.2.2.2)))))
 else
 some (Sum.inr ((), ((), (d276.2.2.1, d276.2.2.2.2))))
def sg19 : Sig := ⟨[⟨true, .bo, E_31⟩, ⟨true, .bo, (.pair (.int .i64) (.int .i64))⟩, ⟨false, .bo, .bool⟩], [⟨true, .own, E_31⟩, ⟨false, .own, (.int .i64)⟩]⟩
noncomputable def r19 (a : T_15) : Option T_21 :=
 Option.bind (r37 (a.1, a.2.1, (0 : Int))) fun (y1 : Int) =>
 bif !(decide (y1 = (0 : Int))) then
 some (([], ([], ([], []))), y1)
 else
 Option.bind (r38 a.1) fun (y2 : T_22) =>
 Option.bind (loopR (r19_L0 a) ((), ((0 : Int), y2))) fun (q85 : T_20) =>
 Option.bind (
 Option.bind (
 Option.bind (loopR (r19_L1 q85 a) (0 : Int)) fun (q164 : (Unit ⊕ Int)) =>
 Sum.elim (fun (_ : Unit) =>
 some (-1 : Int))
 (fun (v166 : Int) =>
 some v166) q164) fun (d167 : Int) =>
 bif decide (d167 = (-1 : Int)) then
 some ((), ((), ((q85.2.1, ((), q85.2.2.2)), q85.2.2.1)))
 else
 Option.bind (loopR (r19_L2 a) ((), ((), (d167, ((Go.IntKind.wrap .i64 (d167 + (1 : Int))), q85.2))))) fun (q184 : T_14) =>
 bif okB (some q184.2.2.1) none none q184.2.2.2.2.1.length then
 bif okB none (some q184.2.2.1) none ((app (List.take (Int.toNat q184.2.2.1) q184.2.2.2.2.1) (app (List.replicate (q184.2.2.2.2.1.length - (Int.toNat q184.2.2.1)) (((0 : Int), (0 : Int)), ((0 : Int), (false, ((0 : Int), (0 : Int)))))) (List.drop ((Int.toNat q184.2.2.1) + (q184.2.2.2.2.1.length - (Int.toNat q184.2.2.1))) q184.2.2.2.2.1))).length) then
 some ((), ((), ((q184.2.2.2.1, ((), q184.2.2.2.2.2)), midL (app (List.take (Int.toNat q184.2.2.1) q184.2.2.2.2.1) (app (List.replicate (q184.2.2.2.2.1.length - (Int.toNat q184.2.2.1)) (((0 : Int), (0 : Int)), ((0 : Int), (false, ((0 : Int), (0 : Int)))))) (List.drop ((Int.toNat q184.2.2.1) + (q184.2.2.2.2.1.length - (Int.toNat q184.2.2.1))) q184.2.2.2.2.1))) 0 (Int.toNat q184.2.2.1))))
 else
 none
 else
 none) fun (d185 : (Unit × (Unit × ((List ((Int × (Int × Int))) × (Unit × (List (((Int × Int) × Int)) × List ((Int × Int))))) × List (T_25))))) =>
 Option.bind (
 Option.bind (
 Option.bind (loopR (r19_L3 d185 a) (0 : Int)) fun (q264 : (Unit ⊕ Int)) =>
 Sum.elim (fun (_ : Unit) =>
 some (-1 : Int))
 (fun (v266 : Int) =>
 some v266) q264) fun (d267 : Int) =>
 bif decide (d267 = (-1 : Int)) then
 some ((), ((), ((d185.2.2.1.1, (d185.2.2.2, ((), d185.2.2.1.2.2.2))), d185.2.2.1.2.2.1)))
 else
 Option.bind (loopR (r19_L4 a) ((), ((), (d267, ((Go.IntKind.wrap .i64 (d267 + (1 : Int))), (d185.2.2.1.1, (d185.2.2.2, d185.2.2.1.2.2))))))) fun (q284 : T_14) =>
 bif okB (some q284.2.2.1) none none q284.2.2.2.2.2.1.length then
 bif okB none (some q284.2.2.1) none ((app (List.take (Int.toNat q284.2.2.1) q284.2.2.2.2.2.1) (app (List.replicate (q284.2.2.2.2.2.1.length - (Int.toNat q284.2.2.1)) (((0 : Int), (0 : Int)), (0 : Int))) (List.drop ((Int.toNat q284.2.2.1) + (q284.2.2.2.2.2.1.length - (Int.toNat q284.2.2.1))) q284.2.2.2.2.2.1))).length) then
 some ((), ((), ((q284.2.2.2.1, (q284.2.2.2.2.1, ((), q284.2.2.2.2.2.2))), midL (app (List.take (Int.toNat q284.2.2.1) q284.2.2.2.2.2.1) (app (List.replicate (q284.2.2.2.2.2.1.length - (Int.toNat q284.2.2.1)) (((0 : Int), (0 : Int)), (0 : Int))) (List.drop ((Int.toNat q284.2.2.1) + (q284.2.2.2.2.2.1.length - (Int.toNat q284.2.2.1))) q284.2.2.2.2.2.1))) 0 (Int.toNat q284.2.2.1))))
 else
 none
 else
 none) fun (d285 : (Unit × (Unit × ((List ((Int × (Int × Int))) × (List (T_25) × (Unit × List ((Int × Int))))) × List (((Int × Int) × Int)))))) =>
 Option.bind (
 Option.bind (r45 (d285.2.2.1.2.2.2, a.2.1)) fun (y288 : Bool) =>
 bif !(y288) then
 bif roomOk false d285.2.2.1.2.2.2.length 1 16 then
 some ((), (d285.2.2.1.1, (d285.2.2.1.2.1, (d285.2.2.2, app d285.2.2.1.2.2.2 [a.2.1]))))
 else
 none
 else
 some ((), (d285.2.2.1.1, (d285.2.2.1.2.1, (d285.2.2.2, d285.2.2.1.2.2.2))))) fun (d289 : T_20) =>
 some (d289.2, (0 : Int))
def an19 : Ann := .two (.leaf) (.two (.two (.leaf) (.two (.leaf) (.two (.two (.leaf) (.leaf)) (.leaf)))) (.two (.leaf) (.two (.two (.leaf) (.one (.loop [2, 4, 6, 24, 25] [4, 6] [] [.tmp 9 (.pt 9 [(0, 0)] 0 0 4), .tmp 26 (.int .i64), .box 9 [.sl .own E_38, .sl .own E_36, .sl .own E_39, .sl .own (.pair (.int .i64) (.int .i64))]] [⟨.exit 0, [], [.tmp 9 (.pt 9 [(0, 0)] 0 0 4), .box 9 [.sl .own E_38, .sl .own E_36, .sl .own E_39, .sl .own (.pair (.int .i64) (.int .i64))]]⟩] (.two (.leaf) (.two (.two (.leaf) (.leaf)) (.two (.join [2, 4, 6, 24, 25, 26] [4, 6] [⟨.normal, [], [.tmp 9 (.pt 9 [(0, 0)] 0 0 4), .box 9 [.sl .own E_38, .sl .own E_36, .sl .own E_39, .sl .own (.pair (.int .i64) (.int .i64))]]⟩] (.one (.two (.leaf) (.two (.two (.join [2, 4, 6, 9, 11, 24, 25, 26] [4, 6, 9, 11] [⟨.normal, [], [.tmp 42 (.bool)]⟩] (.segs [(9, ([2, 4, 6, 9, 11, 24, 25, 26], ([4, 6, 9, 11], [.tmp 38 (.bool)])))])) (.two (.leaf) (.leaf))) (.two (.leaf) (.two (.join [2, 4, 6, 11, 12, 24, 25, 26] [4, 6, 11] [⟨.normal, [], [.tmp 9 (.pt 9 [(0, 0)] 0 0 4), .box 9 [.sl .own E_38, .sl .own E_36, .sl .own E_39, .sl .own (.pair (.int .i64) (.int .i64))]]⟩] (.two (.leaf) (.two (.leaf) (.leaf)))) (.two (.leaf) (.leaf)))))))) (.leaf))))))) (.two (.inl 3 101 (.join [4, 6] [4, 6] [⟨.ret, [(105, E_36)], [.tmp 9 (.pt 9 [(0, 0)] 0 0 4), .tmp 105 (.own 105 [(0, 0)] E_36), .box 9 [.sl .own E_38, .dead, .sl .own E_39, .sl .own (.pair (.int .i64) (.int .i64))], .row 105 [.sl .own E_36]]⟩] (.two (.leaf) (.two (.inl 2 143 (.join [4, 6, 9, 101, 102] [4, 6, 9] [⟨.ret, [], [.tmp 147 (.int .i64)]⟩] (.two (.leaf) (.two (.two (.leaf) (.one (.loop [4, 6, 9, 101, 102, 143, 144, 150] [4, 6, 9] [] [.tmp 151 (.int .i64)] [⟨.exit 0, [], []⟩, ⟨.ret, [], [.tmp 147 (.int .i64)]⟩] (.two (.leaf) (.two (.two (.leaf) (.leaf)) (.two (.one (.two (.leaf) (.two (.inl 5 162 (.two (.leaf) (.two (.leaf) (.leaf))) (.leaf)) (.two (.two (.leaf) (.leaf)) (.leaf))))) (.leaf))))))) (.two (.leaf) (.leaf))))) (.leaf)) (.two (.two (.leaf) (.two (.two (.leaf) (.leaf)) (.leaf))) (.two (.two (.leaf) (.one (.loop [4, 6, 102] [4, 6] [] [.tmp 9 (.pt 9 [(0, 0)] 0 0 4), .tmp 101 (.own 9 [(0, 0), (0, 1)] E_36), .tmp 106 (.int .i64), .tmp 107 (.int .i64), .box 9 [.sl .own E_38, .sl .own E_36, .sl .own E_39, .sl .own (.pair (.int .i64) (.int .i64))]] [⟨.exit 0, [], [.tmp 9 (.pt 9 [(0, 0)] 0 0 4), .tmp 101 (.own 9 [(0, 0), (0, 1)] E_36), .tmp 106 (.int .i64), .box 9 [.sl .own E_38, .sl .own E_36, .sl .own E_39, .sl .own (.pair (.int .i64) (.int .i64))]]⟩] (.two (.two (.leaf) (.two (.leaf) (.leaf))) (.two (.join [4, 6, 102, 107] [4, 6] [⟨.normal, [], [.tmp 9 (.pt 9 [(0, 0)] 0 0 4), .tmp 101 (.own 9 [(0, 0), (0, 1)] E_36), .tmp 106 (.int .i64), .box 9 [.sl .own E_38, .sl .own E_36, .sl .own E_39, .sl .own (.pair (.int .i64) (.int .i64))]]⟩] (.one (.two (.leaf) (.two (.inl 2 170 (.two (.leaf) (.two (.leaf) (.leaf))) (.leaf)) (.two (.two (.leaf) (.leaf)) (.leaf)))))) (.leaf)))))) (.two (.leaf) (.two (.leaf) (.leaf)))))))) (.leaf)) (.two (.inl 3 178 (.join [4, 6] [4, 6] [⟨.ret, [(182, E_39)], [.tmp 9 (.pt 9 [(0, 0)] 0 0 4), .tmp 182 (.own 182 [(0, 0)] E_39), .box 9 [.sl .own E_38, .sl .own E_36, .dead, .sl .own (.pair (.int .i64) (.int .i64))], .row 182 [.sl .own E_39]]⟩] (.two (.leaf) (.two (.inl 2 220 (.join [4, 6, 9, 178, 179] [4, 6, 9] [⟨.ret, [], [.tmp 224 (.int .i64)]⟩] (.two (.leaf) (.two (.two (.leaf) (.one (.loop [4, 6, 9, 178, 179, 220, 221, 227] [4, 6, 9] [] [.tmp 228 (.int .i64)] [⟨.exit 0, [], []⟩, ⟨.ret, [], [.tmp 224 (.int .i64)]⟩] (.two (.leaf) (.two (.two (.leaf) (.leaf)) (.two (.one (.two (.leaf) (.two (.inl 5 239 (.two (.leaf) (.two (.leaf) (.leaf))) (.leaf)) (.two (.two (.leaf) (.leaf)) (.leaf))))) (.leaf))))))) (.two (.leaf) (.leaf))))) (.leaf)) (.two (.two (.leaf) (.two (.two (.leaf) (.leaf)) (.leaf))) (.two (.two (.leaf) (.one (.loop [4, 6, 179] [4, 6] [] [.tmp 9 (.pt 9 [(0, 0)] 0 0 4), .tmp 178 (.own 9 [(0, 0), (0, 2)] E_39), .tmp 183 (.int .i64), .tmp 184 (.int .i64), .box 9 [.sl .own E_38, .sl .own E_36, .sl .own E_39, .sl .own (.pair (.int .i64) (.int .i64))]] [⟨.exit 0, [], [.tmp 9 (.pt 9 [(0, 0)] 0 0 4), .tmp 178 (.own 9 [(0, 0), (0, 2)] E_39), .tmp 183 (.int .i64), .box 9 [.sl .own E_38, .sl .own E_36, .sl .own E_39, .sl .own (.pair (.int .i64) (.int .i64))]]⟩] (.two (.two (.leaf) (.two (.leaf) (.leaf))) (.two (.join [4, 6, 179, 184] [4, 6] [⟨.normal, [], [.tmp 9 (.pt 9 [(0, 0)] 0 0 4), .tmp 178 (.own 9 [(0, 0), (0, 2)] E_39), .tmp 183 (.int .i64), .box 9 [.sl .own E_38, .sl .own E_36, .sl .own E_39, .sl .own (.pair (.int .i64) (.int .i64))]]⟩] (.one (.two (.leaf) (.two (.inl 2 247 (.two (.leaf) (.two (.leaf) (.leaf))) (.leaf)) (.two (.two (.leaf) (.leaf)) (.leaf)))))) (.leaf)))))) (.two (.leaf) (.two (.leaf) (.leaf)))))))) (.leaf)) (.two (.join [6] [6] [⟨.normal, [], [.tmp 9 (.pt 9 [(0, 0)] 0 0 4), .box 9 [.sl .own E_38, .sl .own E_36, .sl .own E_39, .sl .own (.pair (.int .i64) (.int .i64))]]⟩] (.two (.leaf) (.two (.leaf) (.leaf)))) (.two (.leaf) (.leaf))))))))
theorem s19 : SoundF cx.P cx.G 19 sg19 r19 := by
  have e : denF cx [(37, ⟨sg37, r37⟩), (38, ⟨sg38, r38⟩), (39, ⟨sg39, r39⟩), (40, ⟨sg40, r40⟩), (45, ⟨sg45, r45⟩)] an19 Tryd.f19.ntmps (Tryd.f19.body.getD .skip) Tryd.f19.results.toList sg19 = r19 := by kernel_rfl
  rw [← e]
  exact sound_of_den (c := cx) (Known.cons (.ofF s37 (by kernel_rfl)) Tryd.func37 (by kernel_rfl) (by kernel_rfl) (Known.cons (.ofF s38 (by kernel_rfl)) Tryd.func38 (by kernel_rfl) (by kernel_rfl) (Known.cons (.ofF s39 (by kernel_rfl)) Tryd.func39 (by kernel_rfl) (by kernel_rfl) (Known.cons (.ofD s40 (by kernel_rfl)) Tryd.func40 (by kernel_rfl) (by kernel_rfl) (Known.cons (.ofF s45 (by kernel_rfl)) Tryd.func45 (by kernel_rfl) (by kernel_rfl) (Known.nil)))))) Tryd.func19 (by kernel_rfl) (Nat.le_of_ble_eq_true (by kernel_rfl)) rfl

/-! reredos/store.busy -/
noncomputable def r46_L0 (a : (T_22 × ((Int × Int) × (Int × Bool)))) (d19 : Int) : Option (Int ⊕ (Unit ⊕ Int)) :=
 bif decide (d19 < (↑a.1.2.1.length : Int)) then
 Option.bind (idxI a.1.2.1 d19) fun (b20 : T_25) =>
 Option.bind (
 Option.bind (
 bif decide (b20.2.1 = a.2.2.1) then
 some (!((decide (b20.1.1 = a.2.1.1) && (decide (b20.1.2 = a.2.1.2) && true))))
 else
 some false) fun (g23 : Bool) =>
 bif g23 then
 bif !(a.2.2.2) then
 some b20.2.2.1
 else
 some true
 else
 some false) fun (d24 : Bool) =>
 bif d24 then
 some (Sum.inr (Sum.inr d19))
 else
 some (Sum.inl (Go.IntKind.wrap .i64 (d19 + (1 : Int))))
 else
 some (Sum.inr (Sum.inl ()))
def sg46 : Sig := ⟨[⟨true, .bo, E_31⟩, ⟨true, .bo, (.pair (.int .i64) (.int .i64))⟩, ⟨false, .bo, (.int .i64)⟩, ⟨false, .bo, .bool⟩], [⟨false, .own, .bool⟩]⟩
noncomputable def r46 (a : (T_22 × ((Int × Int) × (Int × Bool)))) : Option Bool :=
 Option.bind (
 Option.bind (loopR (r46_L0 a) (0 : Int)) fun (q25 : (Unit ⊕ Int)) =>
 Sum.elim (fun (_ : Unit) =>
 some (-1 : Int))
 (fun (v27 : Int) =>
 some v27) q25) fun (d28 : Int) =>
 some (decide ((0 : Int) ≤ d28))
def an46 : Ann := .two (.leaf) (.two (.inl 3 13 (.two (.leaf) (.two (.inl 2 22 (.join [] [] [⟨.ret, [], [.tmp 26 (.int .i64)]⟩] (.two (.leaf) (.two (.two (.leaf) (.one (.loop [22, 23, 29] [5, 6, 7] [] [.tmp 30 (.int .i64)] [⟨.exit 0, [], []⟩, ⟨.ret, [], [.tmp 26 (.int .i64)]⟩] (.two (.leaf) (.two (.two (.leaf) (.leaf)) (.two (.one (.two (.leaf) (.two (.inl 5 41 (.join [22, 23, 27, 29, 30] [5, 6, 7] [⟨.ret, [], [.tmp 46 (.bool)]⟩] (.two (.leaf) (.two (.segs [(10, ([22, 23, 27, 29, 30, 44, 45], ([5, 6, 7, 45], [.tmp 56 (.bool)])))]) (.leaf)))) (.leaf)) (.two (.two (.leaf) (.leaf)) (.leaf))))) (.leaf))))))) (.two (.leaf) (.leaf))))) (.leaf)) (.leaf))) (.leaf)) (.leaf))
theorem s46 : SoundF cx.P cx.G 46 sg46 r46 := by
  have e : denF cx [] an46 Tryd.f46.ntmps (Tryd.f46.body.getD .skip) Tryd.f46.results.toList sg46 = r46 := by kernel_rfl
  rw [← e]
  exact sound_of_den (c := cx) (Known.nil) Tryd.func46 (by kernel_rfl) (Nat.le_of_ble_eq_true (by kernel_rfl)) rfl

/-! reredos/store.item -/
def sg47 : Sig := ⟨[⟨true, .bo, E_31⟩, ⟨false, .bo, (.int .i64)⟩], [⟨true, .own, E_38⟩]⟩
noncomputable def r47 (a : T_21) : Option (Int × (Int × Int)) :=
 Option.bind (r39 (a.1.1, a.2)) fun (y1 : (Int × Bool)) =>
 bif y1.2 then
 Option.bind (idxI a.1.1 y1.1) fun (b2 : (Int × (Int × Int))) =>
 some b2
 else
 some (a.2, ((0 : Int), (0 : Int)))
def an47 : Ann := .two (.leaf) (.two (.two (.leaf) (.two (.leaf) (.two (.two (.leaf) (.leaf)) (.leaf)))) (.two (.leaf) (.leaf)))
theorem s47 : SoundF cx.P cx.G 47 sg47 r47 := by
  have e : denF cx [(39, ⟨sg39, r39⟩)] an47 Tryd.f47.ntmps (Tryd.f47.body.getD .skip) Tryd.f47.results.toList sg47 = r47 := by kernel_rfl
  rw [← e]
  exact sound_of_den (c := cx) (Known.cons (.ofF s39 (by kernel_rfl)) Tryd.func39 (by kernel_rfl) (by kernel_rfl) (Known.nil)) Tryd.func47 (by kernel_rfl) (Nat.le_of_ble_eq_true (by kernel_rfl)) rfl

/-! reredos/store.lock -/
noncomputable def r66_L0 (a : T_16) (d13 : Int) : Option (Int ⊕ (Unit ⊕ Int)) :=
 bif decide (d13 < (↑a.1.2.1.length : Int)) then
 Option.bind (idxI a.1.2.1 d13) fun (b14 : T_25) =>
 Option.bind (
 bif (decide (b14.1.1 = a.2.1.1) && (decide (b14.1.2 = a.2.1.2) && true)) then
 some (decide (b14.2.1 = a.2.2))
 else
 some false) fun (d15 : Bool) =>
 bif d15 then
 some (Sum.inr (Sum.inr d13))
 else
 some (Sum.inl (Go.IntKind.wrap .i64 (d13 + (1 : Int))))
 else
 some (Sum.inr (Sum.inl ()))
def sg66 : Sig := ⟨[⟨true, .bo, E_31⟩, ⟨true, .bo, (.pair (.int .i64) (.int .i64))⟩, ⟨false, .bo, (.int .i64)⟩], [⟨false, .own, (.int .i64)⟩]⟩
noncomputable def r66 (a : T_16) : Option Int :=
 Option.bind (
 Option.bind (loopR (r66_L0 a) (0 : Int)) fun (q16 : (Unit ⊕ Int)) =>
 Sum.elim (fun (_ : Unit) =>
 some (-1 : Int))
 (fun (v18 : Int) =>
 some v18) q16) fun (d19 : Int) =>
 some d19
def an66 : Ann := .two (.leaf) (.two (.inl 3 11 (.join [] [] [⟨.ret, [], [.tmp 15 (.int .i64)]⟩] (.two (.leaf) (.two (.two (.leaf) (.one (.loop [11, 12, 18] [4, 5] [] [.tmp 19 (.int .i64)] [⟨.exit 0, [], []⟩, ⟨.ret, [], [.tmp 15 (.int .i64)]⟩] (.two (.leaf) (.two (.two (.leaf) (.leaf)) (.two (.one (.two (.leaf) (.two (.inl 5 30 (.join [11, 12, 16, 18, 19] [4, 5] [⟨.ret, [], [.tmp 34 (.bool)]⟩] (.two (.leaf) (.two (.leaf) (.leaf)))) (.leaf)) (.two (.two (.leaf) (.leaf)) (.leaf))))) (.leaf))))))) (.two (.leaf) (.leaf))))) (.leaf)) (.leaf))
theorem s66 : SoundF cx.P cx.G 66 sg66 r66 := by
  have e : denF cx [] an66 Tryd.f66.ntmps (Tryd.f66.body.getD .skip) Tryd.f66.results.toList sg66 = r66 := by kernel_rfl
  rw [← e]
  exact sound_of_den (c := cx) (Known.nil) Tryd.func66 (by kernel_rfl) (Nat.le_of_ble_eq_true (by kernel_rfl)) rfl

/-! reredos/store.hand -/
def sg67 : Sig := ⟨[⟨false, .own, (.ptr E_31)⟩, ⟨true, .bo, (.pair (.int .i64) (.int .i64))⟩], [⟨false, .own, (.ptr E_31)⟩]⟩
noncomputable def r67 (a : T_19) : Option T_22 :=
 Option.bind (r90 (a.1, a.2)) fun (y2 : Bool) =>
 bif !(y2) then
 Option.bind (
 
 bif roomOk false a.1.2.2.1.length 1 24 then
 some ((), (a.1.1, (a.1.2.1, (app a.1.2.2.1 [(a.2, (0 : Int))], a.1.2.2.2))))
 else
 none) fun (d3 : T_20) =>
 some d3.2
 else
 some a.1
noncomputable def r67q : T_19 → Option T_22 := fun a =>
 Option.bind (r90 (a.1, a.2)) fun (y2 : Bool) =>
 bif !(y2) then
 Option.bind (
 sameR (
 bif roomOk false a.1.2.2.1.length 1 24 then
 some ((), (a.1.1, (a.1.2.1, (app a.1.2.2.1 [(a.2, (0 : Int))], a.1.2.2.2))))
 else
 none)
 (
 sameR (
 bif roomOk false a.1.2.2.1.length 1 24 then
 some ((), (a.1.1, (a.1.2.1, (app a.1.2.2.1 [(a.2, (0 : Int))], a.1.2.2.2))))
 else
 none)
 (
 bif roomOk false a.1.2.2.1.length 1 24 then
 some ((), (a.1.1, (a.1.2.1, (app a.1.2.2.1 [(a.2, (0 : Int))], a.1.2.2.2))))
 else
 none))) fun (d3 : T_20) =>
 some d3.2
 else
 some a.1
theorem r67e : r67q = r67 := by unfold r67q r67; simp only [sameR_self]
def an67 : Ann := .two (.leaf) (.two (.draw 4) (.two (.join [] [] [⟨.normal, [], [.tmp 0 (.pt 0 [(0, 0)] 0 0 0), .box 0 [.sl .own E_38, .sl .own E_36, .sl .own E_39, .sl .own (.pair (.int .i64) (.int .i64))]]⟩] (.drawT [0, 1, 2, 3, 4, 5, 6, 7] [0])) (.leaf)))
theorem s67 : SoundM cx.P cx.G 67 sg67 r67 := by
  have e : denM cx [(90, ⟨sg90, r90⟩)] an67 Tryd.f67.ntmps (Tryd.f67.body.getD .skip) Tryd.f67.results.toList sg67 = r67q := by kernel_rfl
  rw [← r67e, ← e]
  exact sound_of_denM (c := cx) (Known.cons (.ofF s90 (by kernel_rfl)) Tryd.func90 (by kernel_rfl) (by kernel_rfl) (Known.nil)) Tryd.func67 (by kernel_rfl) (Nat.le_of_ble_eq_true (by kernel_rfl)) rfl

/-! reredos/store.Write -/
def sg30 : Sig := ⟨[⟨true, .bo, E_31⟩, ⟨true, .bo, (.pair (.int .i64) (.int .i64))⟩, ⟨false, .bo, (.int .i64)⟩, ⟨false, .bo, (.int .i64)⟩, ⟨false, .bo, (.int .i64)⟩], [⟨true, .own, E_31⟩, ⟨false, .own, (.int .i64)⟩]⟩
noncomputable def r30 (a : (T_22 × ((Int × Int) × (Int × (Int × Int))))) : Option T_21 :=
 Option.bind (r37 (a.1, a.2.1, a.2.2.1)) fun (y1 : Int) =>
 bif !(decide (y1 = (0 : Int))) then
 some (([], ([], ([], []))), y1)
 else
 Option.bind (
 Option.bind (
 bif !(decide (a.2.2.2.1 < (0 : Int))) then
 some (decide ((1073741824 : Int) < a.2.2.2.1))
 else
 some true) fun (g6 : Bool) =>
 Option.bind (
 bif !(g6) then
 some (decide (a.2.2.2.2 < (0 : Int)))
 else
 some true) fun (g7 : Bool) =>
 bif !(g7) then
 some (decide ((1048576 : Int) < a.2.2.2.2))
 else
 some true) fun (d8 : Bool) =>
 bif d8 then
 some (([], ([], ([], []))), (2 : Int))
 else
 Option.bind (r66 (a.1, a.2.1, a.2.2.1)) fun (y9 : Int) =>
 Option.bind (
 Option.bind (r45 (a.1.2.2.2, a.2.1)) fun (y14 : Bool) =>
 bif y14 then
 some y14
 else
 bif decide ((0 : Int) ≤ y9) then
 Option.bind (idxI a.1.2.1 y9) fun (b15 : T_25) =>
 some (decide (a.2.2.2.2 < b15.2.2.2.2))
 else
 some false) fun (d16 : Bool) =>
 bif d16 then
 some (([], ([], ([], []))), (13 : Int))
 else
 Option.bind (r46 (a.1, a.2.1, a.2.2.1, true)) fun (y17 : Bool) =>
 bif y17 then
 some (([], ([], ([], []))), (11 : Int))
 else
 Option.bind (
 Option.bind (
 bif decide (y9 < (0 : Int)) then
 some (decide ((↑a.1.2.1.length : Int) = (24 : Int)))
 else
 some false) fun (d22 : Bool) =>
 bif d22 then
 some d22
 else
 Option.bind (r47 (a.1, a.2.2.1)) fun (y23 : (Int × (Int × Int))) =>
 some (decide (y23.2.2 = (1048576 : Int)))) fun (d24 : Bool) =>
 bif d24 then
 some (([], ([], ([], []))), (8 : Int))
 else
 Option.bind (r38 a.1) fun (y25 : T_22) =>
 Option.bind (
 bif decide (y9 < (0 : Int)) then
 bif roomOk false y25.2.1.length 1 48 then
 some ((), (y25.1, (app y25.2.1 [(a.2.1, (a.2.2.1, (true, a.2.2.2)))], y25.2.2)))
 else
 none
 else
 bif inB y9 y25.2.1.length then
 Option.bind (idxN y25.2.1 (Int.toNat y9)) fun (_ : T_25) =>
 some ((), (y25.1, (List.set y25.2.1 (Int.toNat y9) (a.2.1, (a.2.2.1, (true, a.2.2.2))), y25.2.2)))
 else
 none) fun (d29 : T_20) =>
 Option.bind (r67 (d29.2, a.2.1)) fun (y30 : T_22) =>
 some (y30, (0 : Int))
def an30 : Ann := .two (.leaf) (.two (.two (.leaf) (.two (.leaf) (.two (.two (.leaf) (.leaf)) (.leaf)))) (.two (.two (.join [2, 3, 4, 5, 6, 10] [5, 6, 10] [⟨.normal, [], [.tmp 37 (.bool)]⟩] (.segs [(6, ([2, 3, 4, 5, 6, 10], ([5, 6, 10], [.tmp 29 (.bool)]))), (4, ([2, 3, 4, 5, 6, 10], ([5, 6, 10], [.tmp 33 (.bool)])))])) (.two (.two (.leaf) (.leaf)) (.leaf))) (.two (.leaf) (.two (.one (.two (.join [2, 3, 4, 5, 6, 10, 13] [5, 6, 10] [⟨.normal, [], [.tmp 43 (.bool)]⟩] (.two (.leaf) (.two (.leaf) (.leaf)))) (.two (.two (.leaf) (.leaf)) (.two (.leaf) (.two (.two (.leaf) (.leaf)) (.two (.join [2, 3, 4, 5, 6, 10, 13] [5, 6, 10] [⟨.normal, [], [.tmp 67 (.bool)]⟩] (.two (.join [2, 3, 4, 5, 6, 10, 13] [5, 6, 10] [⟨.normal, [], [.tmp 67 (.bool)]⟩] (.leaf)) (.two (.leaf) (.leaf)))) (.two (.two (.leaf) (.leaf)) (.leaf)))))))) (.two (.leaf) (.two (.leaf) (.two (.join [6, 10] [6, 10] [⟨.normal, [], [.tmp 14 (.pt 14 [(0, 0)] 0 0 4), .box 14 [.sl .own E_38, .sl .own E_36, .sl .own E_39, .sl .own (.pair (.int .i64) (.int .i64))]]⟩] (.two (.leaf) (.two (.leaf) (.leaf)))) (.two (.leaf) (.two (.leaf) (.leaf))))))))))
theorem s30 : SoundF cx.P cx.G 30 sg30 r30 := by
  have e : denF cx [(37, ⟨sg37, r37⟩), (38, ⟨sg38, r38⟩), (45, ⟨sg45, r45⟩), (46, ⟨sg46, r46⟩), (47, ⟨sg47, r47⟩), (66, ⟨sg66, r66⟩), (67, ⟨sg67, r67⟩)] an30 Tryd.f30.ntmps (Tryd.f30.body.getD .skip) Tryd.f30.results.toList sg30 = r30 := by kernel_rfl
  rw [← e]
  exact sound_of_den (c := cx) (Known.cons (.ofF s37 (by kernel_rfl)) Tryd.func37 (by kernel_rfl) (by kernel_rfl) (Known.cons (.ofF s38 (by kernel_rfl)) Tryd.func38 (by kernel_rfl) (by kernel_rfl) (Known.cons (.ofF s45 (by kernel_rfl)) Tryd.func45 (by kernel_rfl) (by kernel_rfl) (Known.cons (.ofF s46 (by kernel_rfl)) Tryd.func46 (by kernel_rfl) (by kernel_rfl) (Known.cons (.ofF s47 (by kernel_rfl)) Tryd.func47 (by kernel_rfl) (by kernel_rfl) (Known.cons (.ofF s66 (by kernel_rfl)) Tryd.func66 (by kernel_rfl) (by kernel_rfl) (Known.cons (.ofM s67 (by kernel_rfl)) Tryd.func67 (by kernel_rfl) (by kernel_rfl) (Known.nil)))))))) Tryd.func30 (by kernel_rfl) (Nat.le_of_ble_eq_true (by kernel_rfl)) rfl

/-! reredos/store.Read -/
def sg52 : Sig := ⟨[⟨true, .bo, E_31⟩, ⟨true, .bo, (.pair (.int .i64) (.int .i64))⟩, ⟨false, .bo, (.int .i64)⟩], [⟨true, .own, E_31⟩, ⟨false, .own, (.int .i64)⟩, ⟨false, .own, (.int .i64)⟩, ⟨false, .own, (.int .i64)⟩]⟩
noncomputable def r52 (a : T_16) : Option T_17 :=
 Option.bind (r37 (a.1, a.2.1, a.2.2)) fun (y1 : Int) =>
 bif !(decide (y1 = (0 : Int))) then
 some (([], ([], ([], []))), ((0 : Int), ((0 : Int), y1)))
 else
 Option.bind (r47 (a.1, a.2.2)) fun (y2 : (Int × (Int × Int))) =>
 Option.bind (r66 (a.1, a.2.1, a.2.2)) fun (y3 : Int) =>
 bif decide ((0 : Int) ≤ y3) then
 Option.bind (idxI a.1.2.1 y3) fun (b4 : T_25) =>
 bif b4.2.2.1 then
 Option.bind (
 Option.bind (r38 a.1) fun (y31 : T_22) =>
 Option.bind (idxI a.1.2.1 y3) fun (b32 : T_25) =>
 
 some ((), (b32.2.2.2.1, (y2.2.2, ((0 : Int), y31))))) fun (d51 : T_13) =>
 some (d51.2.2.2.2, (d51.2.1, (d51.2.2.1, d51.2.2.2.1)))
 else
 Option.bind (
 Option.bind (r38 a.1) fun (y56 : T_22) =>
 
 some ((), (y2.2.1, (y2.2.2, ((0 : Int), y56))))) fun (d57 : T_13) =>
 some (d57.2.2.2.2, (d57.2.1, (d57.2.2.1, d57.2.2.2.1)))
 else
 Option.bind (r45 (a.1.2.2.2, a.2.1)) fun (y58 : Bool) =>
 bif y58 then
 some (([], ([], ([], []))), ((0 : Int), ((0 : Int), (13 : Int))))
 else
 Option.bind (r46 (a.1, a.2.1, a.2.2, false)) fun (y59 : Bool) =>
 bif y59 then
 some (([], ([], ([], []))), ((0 : Int), ((0 : Int), (11 : Int))))
 else
 bif decide ((↑a.1.2.1.length : Int) = (24 : Int)) then
 some (([], ([], ([], []))), ((0 : Int), ((0 : Int), (8 : Int))))
 else
 Option.bind (r38 a.1) fun (y60 : T_22) =>
 bif roomOk false y60.2.1.length 1 48 then
 Option.bind (r67 ((y60.1, (app y60.2.1 [(a.2.1, (a.2.2, (false, ((0 : Int), (0 : Int)))))], y60.2.2)), a.2.1)) fun (y61 : T_22) =>
 Option.bind (
 
 some ((), (y2.2.1, (y2.2.2, ((0 : Int), y61))))) fun (d62 : T_13) =>
 some (d62.2.2.2.2, (d62.2.1, (d62.2.2.1, d62.2.2.2.1)))
 else
 none
noncomputable def r52q : T_16 → Option T_17 := fun a =>
 Option.bind (r37 (a.1, a.2.1, a.2.2)) fun (y1 : Int) =>
 bif !(decide (y1 = (0 : Int))) then
 some (([], ([], ([], []))), ((0 : Int), ((0 : Int), y1)))
 else
 Option.bind (r47 (a.1, a.2.2)) fun (y2 : (Int × (Int × Int))) =>
 Option.bind (r66 (a.1, a.2.1, a.2.2)) fun (y3 : Int) =>
 bif decide ((0 : Int) ≤ y3) then
 Option.bind (idxI a.1.2.1 y3) fun (b4 : T_25) =>
 bif b4.2.2.1 then
 Option.bind (
 Option.bind (r38 a.1) fun (y31 : T_22) =>
 Option.bind (idxI a.1.2.1 y3) fun (b32 : T_25) =>
 sameR (
 some ((), (b32.2.2.2.1, (y2.2.2, ((0 : Int), y31)))))
 (
 sameR (
 sameR (
 some ((), (b32.2.2.2.1, (y2.2.2, ((0 : Int), y31)))))
 (
 some ((), (b32.2.2.2.1, (y2.2.2, ((0 : Int), y31))))))
 (
 sameR (
 sameR (
 some ((), (b32.2.2.2.1, (y2.2.2, ((0 : Int), y31)))))
 (
 sameR (
 some ((), (b32.2.2.2.1, (y2.2.2, ((0 : Int), y31)))))
 (
 some ((), (b32.2.2.2.1, (y2.2.2, ((0 : Int), y31)))))))
 (
 sameR (
 some ((), (b32.2.2.2.1, (y2.2.2, ((0 : Int), y31)))))
 (
 sameR (
 sameR (
 some ((), (b32.2.2.2.1, (y2.2.2, ((0 : Int), y31)))))
 (
 some ((), (b32.2.2.2.1, (y2.2.2, ((0 : Int), y31))))))
 (
 sameR (
 sameR (
 some ((), (b32.2.2.2.1, (y2.2.2, ((0 : Int), y31)))))
 (
 sameR (
 some ((), (b32.2.2.2.1, (y2.2.2, ((0 : Int), y31)))))
 (
 some ((), (b32.2.2.2.1, (y2.2.2, ((0 : Int), y31)))))))
 (
 sameR (
 some ((), (b32.2.2.2.1, (y2.2.2, ((0 : Int), y31)))))
 (
 sameR (
 sameR (
 some ((), (b32.2.2.2.1, (y2.2.2, ((0 : Int), y31)))))
 (
 some ((), (b32.2.2.2.1, (y2.2.2, ((0 : Int), y31))))))
 (
 sameR (
 sameR (
 some ((), (b32.2.2.2.1, (y2.2.2, ((0 : Int), y31)))))
 (
 sameR (
 some ((), (b32.2.2.2.1, (y2.2.2, ((0 : Int), y31)))))
 (
 some ((), (b32.2.2.2.1, (y2.2.2, ((0 : Int), y31)))))))
 (
 sameR (
 Option.bind (idxI a.1.2.1 y3) fun (b33 : T_25) =>
 some ((), (b33.2.2.2.1, (y2.2.2, ((0 : Int), y31)))))
 (
 sameR (
 Option.bind (idxI a.1.2.1 y3) fun (b34 : T_25) =>
 sameR (
 some ((), (b34.2.2.2.1, (y2.2.2, ((0 : Int), y31)))))
 (
 some ((), (b34.2.2.2.1, (y2.2.2, ((0 : Int), y31))))))
 (
 sameR (
 Option.bind (idxI a.1.2.1 y3) fun (b35 : T_25) =>
 sameR (
 some ((), (b35.2.2.2.1, (y2.2.2, ((0 : Int), y31)))))
 (
 sameR (
 some ((), (b35.2.2.2.1, (y2.2.2, ((0 : Int), y31)))))
 (
 some ((), (b35.2.2.2.1, (y2.2.2, ((0 : Int), y31)))))))
 (
 sameR (
 Option.bind (idxI a.1.2.1 y3) fun (b36 : T_25) =>
 some ((), (b36.2.2.2.1, (y2.2.2, ((0 : Int), y31)))))
 (
 sameR (
 Option.bind (idxI a.1.2.1 y3) fun (b37 : T_25) =>
 sameR (
 some ((), (b37.2.2.2.1, (y2.2.2, ((0 : Int), y31)))))
 (
 some ((), (b37.2.2.2.1, (y2.2.2, ((0 : Int), y31))))))
 (
 sameR (
 Option.bind (idxI a.1.2.1 y3) fun (b38 : T_25) =>
 sameR (
 some ((), (b38.2.2.2.1, (y2.2.2, ((0 : Int), y31)))))
 (
 sameR (
 some ((), (b38.2.2.2.1, (y2.2.2, ((0 : Int), y31)))))
 (
 some ((), (b38.2.2.2.1, (y2.2.2, ((0 : Int), y31)))))))
 (
 sameR (
 Option.bind (idxI a.1.2.1 y3) fun (b39 : T_25) =>
 some ((), (b39.2.2.2.1, (y2.2.2, ((0 : Int), y31)))))
 (
 sameR (
 Option.bind (idxI a.1.2.1 y3) fun (b40 : T_25) =>
 sameR (
 some ((), (b40.2.2.2.1, (y2.2.2, ((0 : Int), y31)))))
 (
 some ((), (b40.2.2.2.1, (y2.2.2, ((0 : Int), y31))))))
 (
 sameR (
 Option.bind (idxI a.1.2.1 y3) fun (b41 : T_25) =>
 sameR (
 some ((), (b41.2.2.2.1, (y2.2.2, ((0 : Int), y31)))))
 (
 sameR (
 some ((), (b41.2.2.2.1, (y2.2.2, ((0 : Int), y31)))))
 (
 some ((), (b41.2.2.2.1, (y2.2.2, ((0 : Int), y31)))))))
 (
 sameR (
 Option.bind (idxI a.1.2.1 y3) fun (b42 : T_25) =>
 some ((), (b42.2.2.2.1, (y2.2.2, ((0 : Int), y31)))))
 (
 sameR (
 Option.bind (idxI a.1.2.1 y3) fun (b43 : T_25) =>
 sameR (
 some ((), (b43.2.2.2.1, (y2.2.2, ((0 : Int), y31)))))
 (
 some ((), (b43.2.2.2.1, (y2.2.2, ((0 : Int), y31))))))
 (
 sameR (
 Option.bind (idxI a.1.2.1 y3) fun (b44 : T_25) =>
 sameR (
 some ((), (b44.2.2.2.1, (y2.2.2, ((0 : Int), y31)))))
 (
 sameR (
 some ((), (b44.2.2.2.1, (y2.2.2, ((0 : Int), y31)))))
 (
 some ((), (b44.2.2.2.1, (y2.2.2, ((0 : Int), y31)))))))
 (
 sameR (
 Option.bind (idxI a.1.2.1 y3) fun (b45 : T_25) =>
 some ((), (b45.2.2.2.1, (y2.2.2, ((0 : Int), y31)))))
 (
 sameR (
 Option.bind (idxI a.1.2.1 y3) fun (b46 : T_25) =>
 sameR (
 some ((), (b46.2.2.2.1, (y2.2.2, ((0 : Int), y31)))))
 (
 some ((), (b46.2.2.2.1, (y2.2.2, ((0 : Int), y31))))))
 (
 sameR (
 Option.bind (idxI a.1.2.1 y3) fun (b47 : T_25) =>
 sameR (
 some ((), (b47.2.2.2.1, (y2.2.2, ((0 : Int), y31)))))
 (
 sameR (
 some ((), (b47.2.2.2.1, (y2.2.2, ((0 : Int), y31)))))
 (
 some ((), (b47.2.2.2.1, (y2.2.2, ((0 : Int), y31)))))))
 (
 sameR (
 Option.bind (idxI a.1.2.1 y3) fun (b48 : T_25) =>
 some ((), (b48.2.2.2.1, (y2.2.2, ((0 : Int), y31)))))
 (
 sameR (
 Option.bind (idxI a.1.2.1 y3) fun (b49 : T_25) =>
 sameR (
 some ((), (b49.2.2.2.1, (y2.2.2, ((0 : Int), y31)))))
 (
 some ((), (b49.2.2.2.1, (y2.2.2, ((0 : Int), y31))))))
 (
 Option.bind (idxI a.1.2.1 y3) fun (b50 : T_25) =>
 sameR (
 some ((), (b50.2.2.2.1, (y2.2.2, ((0 : Int), y31)))))
 (
 sameR (
 some ((), (b50.2.2.2.1, (y2.2.2, ((0 : Int), y31)))))
 (
 some ((), (b50.2.2.2.1, (y2.2.2, ((0 : Int), y31))))))))))))))))))))))))))))))))) fun (d51 : T_13) =>
 some (d51.2.2.2.2, (d51.2.1, (d51.2.2.1, d51.2.2.2.1)))
 else
 Option.bind (
 Option.bind (r38 a.1) fun (y56 : T_22) =>
 sameR (
 some ((), (y2.2.1, (y2.2.2, ((0 : Int), y56)))))
 (
 sameR (
 sameR (
 some ((), (y2.2.1, (y2.2.2, ((0 : Int), y56)))))
 (
 some ((), (y2.2.1, (y2.2.2, ((0 : Int), y56))))))
 (
 sameR (
 sameR (
 some ((), (y2.2.1, (y2.2.2, ((0 : Int), y56)))))
 (
 sameR (
 some ((), (y2.2.1, (y2.2.2, ((0 : Int), y56)))))
 (
 some ((), (y2.2.1, (y2.2.2, ((0 : Int), y56)))))))
 (
 sameR (
 some ((), (y2.2.1, (y2.2.2, ((0 : Int), y56)))))
 (
 sameR (
 sameR (
 some ((), (y2.2.1, (y2.2.2, ((0 : Int), y56)))))
 (
 some ((), (y2.2.1, (y2.2.2, ((0 : Int), y56))))))
 (
 sameR (
 sameR (
 some ((), (y2.2.1, (y2.2.2, ((0 : Int), y56)))))
 (
 sameR (
 some ((), (y2.2.1, (y2.2.2, ((0 : Int), y56)))))
 (
 some ((), (y2.2.1, (y2.2.2, ((0 : Int), y56)))))))
 (
 sameR (
 some ((), (y2.2.1, (y2.2.2, ((0 : Int), y56)))))
 (
 sameR (
 sameR (
 some ((), (y2.2.1, (y2.2.2, ((0 : Int), y56)))))
 (
 some ((), (y2.2.1, (y2.2.2, ((0 : Int), y56))))))
 (
 sameR (
 some ((), (y2.2.1, (y2.2.2, ((0 : Int), y56)))))
 (
 sameR (
 some ((), (y2.2.1, (y2.2.2, ((0 : Int), y56)))))
 (
 some ((), (y2.2.1, (y2.2.2, ((0 : Int), y56))))))))))))))) fun (d57 : T_13) =>
 some (d57.2.2.2.2, (d57.2.1, (d57.2.2.1, d57.2.2.2.1)))
 else
 Option.bind (r45 (a.1.2.2.2, a.2.1)) fun (y58 : Bool) =>
 bif y58 then
 some (([], ([], ([], []))), ((0 : Int), ((0 : Int), (13 : Int))))
 else
 Option.bind (r46 (a.1, a.2.1, a.2.2, false)) fun (y59 : Bool) =>
 bif y59 then
 some (([], ([], ([], []))), ((0 : Int), ((0 : Int), (11 : Int))))
 else
 bif decide ((↑a.1.2.1.length : Int) = (24 : Int)) then
 some (([], ([], ([], []))), ((0 : Int), ((0 : Int), (8 : Int))))
 else
 Option.bind (r38 a.1) fun (y60 : T_22) =>
 bif roomOk false y60.2.1.length 1 48 then
 Option.bind (r67 ((y60.1, (app y60.2.1 [(a.2.1, (a.2.2, (false, ((0 : Int), (0 : Int)))))], y60.2.2)), a.2.1)) fun (y61 : T_22) =>
 Option.bind (
 sameR (
 some ((), (y2.2.1, (y2.2.2, ((0 : Int), y61)))))
 (
 sameR (
 sameR (
 some ((), (y2.2.1, (y2.2.2, ((0 : Int), y61)))))
 (
 some ((), (y2.2.1, (y2.2.2, ((0 : Int), y61))))))
 (
 sameR (
 sameR (
 some ((), (y2.2.1, (y2.2.2, ((0 : Int), y61)))))
 (
 sameR (
 some ((), (y2.2.1, (y2.2.2, ((0 : Int), y61)))))
 (
 some ((), (y2.2.1, (y2.2.2, ((0 : Int), y61)))))))
 (
 sameR (
 some ((), (y2.2.1, (y2.2.2, ((0 : Int), y61)))))
 (
 sameR (
 sameR (
 some ((), (y2.2.1, (y2.2.2, ((0 : Int), y61)))))
 (
 some ((), (y2.2.1, (y2.2.2, ((0 : Int), y61))))))
 (
 sameR (
 sameR (
 some ((), (y2.2.1, (y2.2.2, ((0 : Int), y61)))))
 (
 sameR (
 some ((), (y2.2.1, (y2.2.2, ((0 : Int), y61)))))
 (
 some ((), (y2.2.1, (y2.2.2, ((0 : Int), y61)))))))
 (
 sameR (
 some ((), (y2.2.1, (y2.2.2, ((0 : Int), y61)))))
 (
 sameR (
 sameR (
 some ((), (y2.2.1, (y2.2.2, ((0 : Int), y61)))))
 (
 some ((), (y2.2.1, (y2.2.2, ((0 : Int), y61))))))
 (
 sameR (
 some ((), (y2.2.1, (y2.2.2, ((0 : Int), y61)))))
 (
 sameR (
 some ((), (y2.2.1, (y2.2.2, ((0 : Int), y61)))))
 (
 some ((), (y2.2.1, (y2.2.2, ((0 : Int), y61))))))))))))))) fun (d62 : T_13) =>
 some (d62.2.2.2.2, (d62.2.1, (d62.2.2.1, d62.2.2.2.1)))
 else
 none
theorem r52e : r52q = r52 := by unfold r52q r52; simp only [sameR_self, sameR_dup, sameR_bind]
def an52 : Ann := .two (.leaf) (.two (.two (.leaf) (.two (.leaf) (.two (.two (.leaf) (.leaf)) (.leaf)))) (.two (.leaf) (.two (.two (.leaf) (.two (.leaf) (.two (.two (.two (.leaf) (.two (.two (.join [] [] [⟨.normal, [], [.tmp 6 (.pt 6 [(0, 0)] 0 0 4), .tmp 7 (.int .i64), .tmp 8 (.int .i64), .tmp 9 (.int .i64), .box 6 [.sl .own E_38, .sl .own E_36, .sl .own E_39, .sl .own (.pair (.int .i64) (.int .i64))]]⟩] (.stages [0, 1, 2, 3, 4, 5, 6, 7, 8, 9])) (.leaf)) (.leaf))) (.two (.join [] [] [⟨.normal, [], [.tmp 6 (.pt 6 [(0, 0)] 0 0 4), .tmp 7 (.int .i64), .tmp 8 (.int .i64), .tmp 9 (.int .i64), .box 6 [.sl .own E_38, .sl .own E_36, .sl .own E_39, .sl .own (.pair (.int .i64) (.int .i64))]]⟩] (.stages [0, 1, 2, 3, 4, 5])) (.leaf))) (.leaf)))) (.two (.one (.two (.leaf) (.two (.two (.leaf) (.leaf)) (.two (.leaf) (.two (.two (.leaf) (.leaf)) (.two (.leaf) (.two (.two (.leaf) (.leaf)) (.leaf)))))))) (.two (.leaf) (.two (.leaf) (.two (.leaf) (.two (.join [] [] [⟨.normal, [], [.tmp 6 (.pt 6 [(0, 0)] 0 0 4), .tmp 7 (.int .i64), .tmp 8 (.int .i64), .tmp 9 (.int .i64), .box 6 [.sl .own E_38, .sl .own E_36, .sl .own E_39, .sl .own (.pair (.int .i64) (.int .i64))]]⟩] (.stages [0, 1, 2, 3, 4])) (.leaf)))))))))
theorem s52 : SoundF cx.P cx.G 52 sg52 r52 := by
  have e : denF cx [(37, ⟨sg37, r37⟩), (38, ⟨sg38, r38⟩), (45, ⟨sg45, r45⟩), (46, ⟨sg46, r46⟩), (47, ⟨sg47, r47⟩), (66, ⟨sg66, r66⟩), (67, ⟨sg67, r67⟩)] an52 Tryd.f52.ntmps (Tryd.f52.body.getD .skip) Tryd.f52.results.toList sg52 = r52q := by kernel_rfl
  rw [← r52e, ← e]
  exact sound_of_den (c := cx) (Known.cons (.ofF s37 (by kernel_rfl)) Tryd.func37 (by kernel_rfl) (by kernel_rfl) (Known.cons (.ofF s38 (by kernel_rfl)) Tryd.func38 (by kernel_rfl) (by kernel_rfl) (Known.cons (.ofF s45 (by kernel_rfl)) Tryd.func45 (by kernel_rfl) (by kernel_rfl) (Known.cons (.ofF s46 (by kernel_rfl)) Tryd.func46 (by kernel_rfl) (by kernel_rfl) (Known.cons (.ofF s47 (by kernel_rfl)) Tryd.func47 (by kernel_rfl) (by kernel_rfl) (Known.cons (.ofF s66 (by kernel_rfl)) Tryd.func66 (by kernel_rfl) (by kernel_rfl) (Known.cons (.ofM s67 (by kernel_rfl)) Tryd.func67 (by kernel_rfl) (by kernel_rfl) (Known.nil)))))))) Tryd.func52 (by kernel_rfl) (Nat.le_of_ble_eq_true (by kernel_rfl)) rfl

/-! reredos/reredoskeep.Store -/
noncomputable def r26_L0 (a : (List (T_26) × Int)) (d127 : T_18) : Option (T_18 ⊕ T_20) :=
 Option.bind (
 bif decide (d127.2.1 < (↑a.1.length : Int)) then
 some (decide (d127.2.1 < a.2))
 else
 some false) fun (d128 : Bool) =>
 bif d128 then
 Option.bind (
 Option.bind (idxI a.1 d127.2.1) fun (b215 : T_26) =>
 Option.bind (r18 (b215.2.1, (2 : Int))) fun (y216 : Int) =>
 Option.bind (idxI a.1 d127.2.1) fun (b217 : T_26) =>
 Option.bind (r18 (b217.2.2.1, (2 : Int))) fun (y218 : Int) =>
 Option.bind (idxI a.1 d127.2.1) fun (b219 : T_26) =>
 Option.bind (r18 (b219.2.2.2.1, (5 : Int))) fun (y220 : Int) =>
 Option.bind (idxI a.1 d127.2.1) fun (b221 : T_26) =>
 Option.bind (r18 (b221.1, (5 : Int))) fun (y222 : Int) =>
 Option.bind (
 bif decide (y222 = (0 : Int)) then
 some (decide (y222 = (0 : Int)))
 else
 some (decide (y222 = (1 : Int)))) fun (d223 : Bool) =>
 bif d223 then
 Option.bind (r52 (d127.2.2, (y216, (Go.IntKind.wrap .i64 ((1 : Int) + y218))), y220)) fun (y224 : T_17) =>
 bif decide (y224.2.2.2 = (0 : Int)) then
 some ((), y224.1)
 else
 some ((), d127.2.2)
 else
 Option.bind (
 bif decide (y222 = (2 : Int)) then
 some (decide (y222 = (2 : Int)))
 else
 some (decide (y222 = (3 : Int)))) fun (d225 : Bool) =>
 bif d225 then
 Option.bind (
 Option.bind (idxI a.1 d127.2.1) fun (b236 : T_26) =>
 Option.bind (r18 (b236.2.2.2.2.1, (100 : Int))) fun (y237 : Int) =>
 Option.bind (idxI a.1 d127.2.1) fun (b238 : T_26) =>
 Option.bind (r18 (b238.2.2.2.2.2, (5 : Int))) fun (y239 : Int) =>
 Option.bind (r30 (d127.2.2, (y216, (Go.IntKind.wrap .i64 ((1 : Int) + y218))), y220, y237, y239)) fun (y240 : T_21) =>
 
 some ((), (y240.2, y240.1))) fun (d241 : T_18) =>
 bif decide (d241.2.1 = (0 : Int)) then
 some ((), d241.2.2)
 else
 some ((), d127.2.2)
 else
 Option.bind (
 Option.bind (idxI a.1 d127.2.1) fun (b248 : T_26) =>
 Option.bind (r18 (b248.2.2.2.2.1, (2 : Int))) fun (y249 : Int) =>
 Option.bind (r19 (d127.2.2, (y216, (Go.IntKind.wrap .i64 ((1 : Int) + y218))), decide (y249 = (1 : Int)))) fun (y250 : T_21) =>
 
 some ((), (y250.2, y250.1))) fun (d251 : T_18) =>
 bif decide (d251.2.1 = (0 : Int)) then
 some ((), d251.2.2)
 else
 some ((), d127.2.2)) fun (d252 : T_20) =>
 some (Sum.inl ((), ((Go.IntKind.wrap .i64 (d127.2.1 + (1 : Int))), d252.2)))
 else
 some (Sum.inr ((), d127.2.2))
noncomputable def r26_L0q (a : (List (T_26) × Int)) : T_18 → Option (T_18 ⊕ T_20) := fun d127 =>
 Option.bind (
 bif decide (d127.2.1 < (↑a.1.length : Int)) then
 some (decide (d127.2.1 < a.2))
 else
 some false) fun (d128 : Bool) =>
 bif d128 then
 Option.bind (
 Option.bind (idxI a.1 d127.2.1) fun (b215 : T_26) =>
 Option.bind (r18 (b215.2.1, (2 : Int))) fun (y216 : Int) =>
 Option.bind (idxI a.1 d127.2.1) fun (b217 : T_26) =>
 Option.bind (r18 (b217.2.2.1, (2 : Int))) fun (y218 : Int) =>
 Option.bind (idxI a.1 d127.2.1) fun (b219 : T_26) =>
 Option.bind (r18 (b219.2.2.2.1, (5 : Int))) fun (y220 : Int) =>
 Option.bind (idxI a.1 d127.2.1) fun (b221 : T_26) =>
 Option.bind (r18 (b221.1, (5 : Int))) fun (y222 : Int) =>
 Option.bind (
 bif decide (y222 = (0 : Int)) then
 some (decide (y222 = (0 : Int)))
 else
 some (decide (y222 = (1 : Int)))) fun (d223 : Bool) =>
 bif d223 then
 Option.bind (r52 (d127.2.2, (y216, (Go.IntKind.wrap .i64 ((1 : Int) + y218))), y220)) fun (y224 : T_17) =>
 bif decide (y224.2.2.2 = (0 : Int)) then
 some ((), y224.1)
 else
 some ((), d127.2.2)
 else
 Option.bind (
 bif decide (y222 = (2 : Int)) then
 some (decide (y222 = (2 : Int)))
 else
 some (decide (y222 = (3 : Int)))) fun (d225 : Bool) =>
 bif d225 then
 Option.bind (
 Option.bind (idxI a.1 d127.2.1) fun (b236 : T_26) =>
 Option.bind (r18 (b236.2.2.2.2.1, (100 : Int))) fun (y237 : Int) =>
 Option.bind (idxI a.1 d127.2.1) fun (b238 : T_26) =>
 Option.bind (r18 (b238.2.2.2.2.2, (5 : Int))) fun (y239 : Int) =>
 Option.bind (r30 (d127.2.2, (y216, (Go.IntKind.wrap .i64 ((1 : Int) + y218))), y220, y237, y239)) fun (y240 : T_21) =>
 sameR (
 some ((), (y240.2, y240.1)))
 (
 sameR (
 some ((), (y240.2, y240.1)))
 (
 some ((), (y240.2, y240.1))))) fun (d241 : T_18) =>
 bif decide (d241.2.1 = (0 : Int)) then
 some ((), d241.2.2)
 else
 some ((), d127.2.2)
 else
 Option.bind (
 Option.bind (idxI a.1 d127.2.1) fun (b248 : T_26) =>
 Option.bind (r18 (b248.2.2.2.2.1, (2 : Int))) fun (y249 : Int) =>
 Option.bind (r19 (d127.2.2, (y216, (Go.IntKind.wrap .i64 ((1 : Int) + y218))), decide (y249 = (1 : Int)))) fun (y250 : T_21) =>
 sameR (
 some ((), (y250.2, y250.1)))
 (
 sameR (
 some ((), (y250.2, y250.1)))
 (
 some ((), (y250.2, y250.1))))) fun (d251 : T_18) =>
 bif decide (d251.2.1 = (0 : Int)) then
 some ((), d251.2.2)
 else
 some ((), d127.2.2)) fun (d252 : T_20) =>
 some (Sum.inl ((), ((Go.IntKind.wrap .i64 (d127.2.1 + (1 : Int))), d252.2)))
 else
 some (Sum.inr ((), d127.2.2))
theorem r26_L0e (a : (List (T_26) × Int)) : r26_L0q a = r26_L0 a := by unfold r26_L0q r26_L0; simp only [sameR_self]
def sg26 : Sig := ⟨[⟨false, .bo, E_34⟩, ⟨false, .bo, (.int .i64)⟩], [⟨true, .own, E_31⟩]⟩
noncomputable def r26 (a : (List (T_26) × Int)) : Option T_22 :=
 Option.bind (loopR (r26_L0 a) ((), ((0 : Int), ([], ([], ([], [])))))) fun (q253 : T_20) =>
 some q253.2
noncomputable def r26q : (List (T_26) × Int) → Option T_22 := fun a =>
 Option.bind (loopR (r26_L0q a) ((), ((0 : Int), ([], ([], ([], [])))))) fun (q253 : T_20) =>
 some q253.2
theorem r26e : r26q = r26 := by unfold r26q r26; simp only [r26_L0e]
def an26 : Ann := .two (.leaf) (.two (.leaf) (.two (.two (.leaf) (.one (.loop [0, 1, 4] [4] [] [.tmp 5 (.pt 5 [(0, 0)] 0 0 4), .tmp 6 (.int .i64), .box 5 [.sl .own E_38, .sl .own E_36, .sl .own E_39, .sl .own (.pair (.int .i64) (.int .i64))]] [⟨.exit 0, [], [.tmp 5 (.pt 5 [(0, 0)] 0 0 4), .box 5 [.sl .own E_38, .sl .own E_36, .sl .own E_39, .sl .own (.pair (.int .i64) (.int .i64))]]⟩] (.two (.two (.join [0, 1, 4, 5, 6] [4, 5] [⟨.normal, [], [.tmp 25 (.bool)]⟩] (.leaf)) (.two (.leaf) (.leaf))) (.two (.join [0, 1, 4, 6] [4] [⟨.normal, [], [.tmp 5 (.pt 5 [(0, 0)] 0 0 4), .box 5 [.sl .own E_38, .sl .own E_36, .sl .own E_39, .sl .own (.pair (.int .i64) (.int .i64))]]⟩] (.one (.two (.draw 15) (.two (.leaf) (.two (.leaf) (.one (.two (.join [0, 1, 4, 5, 6, 7, 8, 53] [4, 5, 7] [⟨.normal, [], [.tmp 70 (.bool)]⟩] (.two (.leaf) (.two (.leaf) (.leaf)))) (.two (.two (.leaf) (.two (.leaf) (.two (.leaf) (.leaf)))) (.two (.join [0, 1, 4, 5, 6, 7, 8] [4, 5, 7] [⟨.normal, [], [.tmp 85 (.bool)]⟩] (.two (.leaf) (.two (.leaf) (.leaf)))) (.two (.two (.join [0, 1, 4, 5, 6] [4, 5] [⟨.normal, [], [.tmp 13 (.pt 13 [(0, 0)] 0 0 4), .tmp 14 (.int .i64), .box 13 [.sl .own E_38, .sl .own E_36, .sl .own E_39, .sl .own (.pair (.int .i64) (.int .i64))]]⟩] (.drawT [0, 1, 2, 3, 4, 5, 6, 7, 8, 9, 10, 11, 12, 13, 14, 15, 16, 17, 18, 19] [18])) (.two (.leaf) (.two (.leaf) (.leaf)))) (.two (.join [0, 1, 4, 5, 6] [4, 5] [⟨.normal, [], [.tmp 15 (.pt 15 [(0, 0)] 0 0 4), .tmp 16 (.int .i64), .box 15 [.sl .own E_38, .sl .own E_36, .sl .own E_39, .sl .own (.pair (.int .i64) (.int .i64))]]⟩] (.drawT [0, 1, 2, 3, 4, 5, 6, 7, 8, 9, 10, 11, 12, 13] [12])) (.two (.leaf) (.two (.leaf) (.leaf)))))))))))))) (.leaf)))))) (.two (.leaf) (.leaf))))
theorem s26 : SoundF cx.P cx.G 26 sg26 r26 := by
  have e : denF cx [(18, ⟨sg18, r18⟩), (19, ⟨sg19, r19⟩), (30, ⟨sg30, r30⟩), (52, ⟨sg52, r52⟩)] an26 Tryd.f26.ntmps (Tryd.f26.body.getD .skip) Tryd.f26.results.toList sg26 = r26q := by kernel_rfl
  rw [← r26e, ← e]
  exact sound_of_den (c := cx) (Known.cons (.ofF s18 (by kernel_rfl)) Tryd.func18 (by kernel_rfl) (by kernel_rfl) (Known.cons (.ofF s19 (by kernel_rfl)) Tryd.func19 (by kernel_rfl) (by kernel_rfl) (Known.cons (.ofF s30 (by kernel_rfl)) Tryd.func30 (by kernel_rfl) (by kernel_rfl) (Known.cons (.ofF s52 (by kernel_rfl)) Tryd.func52 (by kernel_rfl) (by kernel_rfl) (Known.nil))))) Tryd.func26 (by kernel_rfl) (Nat.le_of_ble_eq_true (by kernel_rfl)) rfl

/-! reredos/label.one -/
def sg68 : Sig := ⟨[⟨true, .bo, (.pair (.int .i64) (.int .i64))⟩], [⟨false, .own, .bool⟩]⟩
noncomputable def r68 (a : (Int × Int)) : Option Bool :=
 Option.bind (
 bif decide ((0 : Int) ≤ a.1) then
 some (decide (a.1 ≤ (9 : Int)))
 else
 some false) fun (g1 : Bool) =>
 Option.bind (
 bif g1 then
 some (decide ((0 : Int) ≤ a.2))
 else
 some false) fun (g2 : Bool) =>
 bif g2 then
 some (decide (a.2 ≤ (15 : Int)))
 else
 some false
def an68 : Ann := .two (.leaf) (.two (.segs [(8, ([1], ([1], [.tmp 10 (.bool)]))), (5, ([1], ([1], [.tmp 15 (.bool)])))]) (.leaf))
theorem s68 : SoundF cx.P cx.G 68 sg68 r68 := by
  have e : denF cx [] an68 Tryd.f68.ntmps (Tryd.f68.body.getD .skip) Tryd.f68.results.toList sg68 = r68 := by kernel_rfl
  rw [← e]
  exact sound_of_den (c := cx) (Known.nil) Tryd.func68 (by kernel_rfl) (Nat.le_of_ble_eq_true (by kernel_rfl)) rfl

/-! reredos/label.Check -/
noncomputable def r34_L0 (d3 : Int) (a : (Int × (List ((Int × Int)) × Int))) (b4 : (Int × Int)) (d6 : Int) : Option (Int ⊕ (Unit ⊕ Int)) :=
 bif decide (d6 < (↑((List.take (Int.toNat d3) a.2.1).length) : Int)) then
 Option.bind (idxI (List.take (Int.toNat d3) a.2.1) d6) fun (b7 : (Int × Int)) =>
 bif (decide (b7.1 = b4.1) && (decide (b7.2 = b4.2) && true)) then
 some (Sum.inr (Sum.inr (7 : Int)))
 else
 some (Sum.inl (Go.IntKind.wrap .i64 (d6 + (1 : Int))))
 else
 some (Sum.inr (Sum.inl ()))
noncomputable def r34_L1 (a : (Int × (List ((Int × Int)) × Int))) (d3 : Int) : Option (Int ⊕ (Unit ⊕ Int)) :=
 bif decide (d3 < (↑a.2.1.length : Int)) then
 Option.bind (idxI a.2.1 d3) fun (b4 : (Int × Int)) =>
 Option.bind (r68 b4) fun (y5 : Bool) =>
 bif !(y5) then
 some (Sum.inr (Sum.inr (2 : Int)))
 else
 bif okB none (some d3) none a.2.1.length then
 Option.bind (loopR (r34_L0 d3 a b4) (0 : Int)) fun (q8 : (Unit ⊕ Int)) =>
 Sum.elim (fun (_ : Unit) =>
 some (Sum.inl (Go.IntKind.wrap .i64 (d3 + (1 : Int)))))
 (fun (v10 : Int) =>
 some (Sum.inr (Sum.inr v10))) q8
 else
 none
 else
 some (Sum.inr (Sum.inl ()))
def sg34 : Sig := ⟨[⟨true, .bo, (.pair (.int .i64) (.pair (.sl (.pair (.int .i64) (.int .i64))) (.int .i64)))⟩], [⟨false, .own, (.int .i64)⟩]⟩
noncomputable def r34 (a : (Int × (List ((Int × Int)) × Int))) : Option Int :=
 Option.bind (
 bif !(decide (a.1 < (1 : Int))) then
 some (decide ((4 : Int) < a.1))
 else
 some true) fun (d1 : Bool) =>
 bif d1 then
 some (2 : Int)
 else
 Option.bind (
 bif !(decide ((↑a.2.1.length : Int) < (1 : Int))) then
 some (decide ((6 : Int) < (↑a.2.1.length : Int)))
 else
 some true) fun (d2 : Bool) =>
 bif d2 then
 some (1 : Int)
 else
 Option.bind (loopR (r34_L1 a) (0 : Int)) fun (q11 : (Unit ⊕ Int)) =>
 Sum.elim (fun (_ : Unit) =>
 Option.bind (
 bif !(decide (a.2.2 < (1 : Int))) then
 some (decide ((1048576 : Int) < a.2.2))
 else
 some true) fun (d14 : Bool) =>
 bif d14 then
 some (2 : Int)
 else
 some (0 : Int))
 (fun (v13 : Int) =>
 some v13) q11
def an34 : Ann := .two (.leaf) (.two (.two (.join [1] [1] [⟨.normal, [], [.tmp 14 (.bool)]⟩] (.leaf)) (.two (.two (.leaf) (.leaf)) (.leaf))) (.two (.two (.join [1] [1] [⟨.normal, [], [.tmp 24 (.bool)]⟩] (.leaf)) (.two (.two (.leaf) (.leaf)) (.leaf))) (.two (.two (.leaf) (.one (.loop [1, 26, 27] [1] [] [.tmp 28 (.int .i64)] [⟨.exit 0, [], []⟩, ⟨.ret, [], [.tmp 2 (.int .i64)]⟩] (.two (.leaf) (.two (.two (.leaf) (.leaf)) (.two (.one (.two (.leaf) (.two (.two (.leaf) (.two (.two (.leaf) (.leaf)) (.leaf))) (.two (.leaf) (.one (.loop [1, 4, 26, 27, 28, 39, 40] [1, 4] [] [.tmp 41 (.int .i64)] [⟨.exit 2, [], []⟩, ⟨.ret, [], [.tmp 2 (.int .i64)]⟩] (.two (.leaf) (.two (.two (.leaf) (.leaf)) (.two (.one (.two (.leaf) (.two (.leaf) (.two (.two (.leaf) (.leaf)) (.leaf))))) (.leaf)))))))))) (.leaf))))))) (.two (.two (.join [] [] [⟨.normal, [], [.tmp 57 (.bool)]⟩] (.leaf)) (.two (.two (.leaf) (.leaf)) (.leaf))) (.two (.leaf) (.leaf))))))
theorem s34 : SoundF cx.P cx.G 34 sg34 r34 := by
  have e : denF cx [(68, ⟨sg68, r68⟩)] an34 Tryd.f34.ntmps (Tryd.f34.body.getD .skip) Tryd.f34.results.toList sg34 = r34 := by kernel_rfl
  rw [← e]
  exact sound_of_den (c := cx) (Known.cons (.ofF s68 (by kernel_rfl)) Tryd.func68 (by kernel_rfl) (by kernel_rfl) (Known.nil)) Tryd.func34 (by kernel_rfl) (Nat.le_of_ble_eq_true (by kernel_rfl)) rfl

/-! reredos/wire.txn -/
def sg61 : Sig := ⟨[⟨true, .bo, (.pair (.int .i64) (.pair (.sl (.pair (.int .i64) (.int .i64))) (.int .i64)))⟩, ⟨true, .bo, (.pair (.int .i64) (.int .i64))⟩], [⟨false, .own, .bool⟩]⟩
noncomputable def r61 (a : ((Int × (List ((Int × Int)) × Int)) × (Int × Int))) : Option Bool :=
 Option.bind (
 bif decide ((0 : Int) ≤ a.2.1) then
 some (decide (a.2.1 < a.1.1))
 else
 some false) fun (g1 : Bool) =>
 Option.bind (
 bif g1 then
 some (decide ((1 : Int) ≤ a.2.2))
 else
 some false) fun (g2 : Bool) =>
 bif g2 then
 some (decide (a.2.2 ≤ (1048576 : Int)))
 else
 some false
def an61 : Ann := .two (.leaf) (.two (.segs [(10, ([3], ([3], [.tmp 14 (.bool)]))), (5, ([3], ([3], [.tmp 19 (.bool)])))]) (.leaf))
theorem s61 : SoundF cx.P cx.G 61 sg61 r61 := by
  have e : denF cx [] an61 Tryd.f61.ntmps (Tryd.f61.body.getD .skip) Tryd.f61.results.toList sg61 = r61 := by kernel_rfl
  rw [← e]
  exact sound_of_den (c := cx) (Known.nil) Tryd.func61 (by kernel_rfl) (Nat.le_of_ble_eq_true (by kernel_rfl)) rfl

/-! reredos/wire.key -/
def sg62 : Sig := ⟨[⟨false, .bo, (.int .i64)⟩], [⟨false, .own, .bool⟩]⟩
noncomputable def r62 (a : Int) : Option Bool :=
 bif decide ((0 : Int) ≤ a) then
 some (decide (a < (8 : Int)))
 else
 some false
def an62 : Ann := .two (.leaf) (.two (.leaf) (.leaf))
theorem s62 : SoundF cx.P cx.G 62 sg62 r62 := by
  have e : denF cx [] an62 Tryd.f62.ntmps (Tryd.f62.body.getD .skip) Tryd.f62.results.toList sg62 = r62 := by kernel_rfl
  rw [← e]
  exact sound_of_den (c := cx) (Known.nil) Tryd.func62 (by kernel_rfl) (Nat.le_of_ble_eq_true (by kernel_rfl)) rfl

/-! reredos/wire.value -/
def sg63 : Sig := ⟨[⟨false, .bo, (.int .i64)⟩], [⟨false, .own, .bool⟩]⟩
noncomputable def r63 (a : Int) : Option Bool :=
 bif decide ((0 : Int) ≤ a) then
 some (decide (a ≤ (1073741824 : Int)))
 else
 some false
def an63 : Ann := .two (.leaf) (.two (.leaf) (.leaf))
theorem s63 : SoundF cx.P cx.G 63 sg63 r63 := by
  have e : denF cx [] an63 Tryd.f63.ntmps (Tryd.f63.body.getD .skip) Tryd.f63.results.toList sg63 = r63 := by kernel_rfl
  rw [← e]
  exact sound_of_den (c := cx) (Known.nil) Tryd.func63 (by kernel_rfl) (Nat.le_of_ble_eq_true (by kernel_rfl)) rfl

/-! reredos/wire.ask -/
def sg64 : Sig := ⟨[⟨false, .bo, (.int .i64)⟩], [⟨false, .own, .bool⟩]⟩
noncomputable def r64 (a : Int) : Option Bool :=
 bif decide ((0 : Int) ≤ a) then
 some (decide (a ≤ (1048576 : Int)))
 else
 some false
def an64 : Ann := .two (.leaf) (.two (.leaf) (.leaf))
theorem s64 : SoundF cx.P cx.G 64 sg64 r64 := by
  have e : denF cx [] an64 Tryd.f64.ntmps (Tryd.f64.body.getD .skip) Tryd.f64.results.toList sg64 = r64 := by kernel_rfl
  rw [← e]
  exact sound_of_den (c := cx) (Known.nil) Tryd.func64 (by kernel_rfl) (Nat.le_of_ble_eq_true (by kernel_rfl)) rfl

/-! reredos/wire.code -/
def sg65 : Sig := ⟨[⟨false, .bo, (.int .i64)⟩], [⟨false, .own, .bool⟩]⟩
noncomputable def r65 (a : Int) : Option Bool :=
 Option.bind (
 bif !(decide (a = (0 : Int))) then
 some (decide (a = (11 : Int)))
 else
 some true) fun (g1 : Bool) =>
 bif !(g1) then
 some (decide (a = (8 : Int)))
 else
 some true
def an65 : Ann := .two (.leaf) (.two (.segs [(6, ([0], ([], [.tmp 8 (.bool)])))]) (.leaf))
theorem s65 : SoundF cx.P cx.G 65 sg65 r65 := by
  have e : denF cx [] an65 Tryd.f65.ntmps (Tryd.f65.body.getD .skip) Tryd.f65.results.toList sg65 = r65 := by kernel_rfl
  rw [← e]
  exact sound_of_den (c := cx) (Known.nil) Tryd.func65 (by kernel_rfl) (Nat.le_of_ble_eq_true (by kernel_rfl)) rfl

/-! reredos/wire.CheckMessage -/
def sg28 : Sig := ⟨[⟨true, .bo, (.pair (.int .i64) (.pair (.sl (.pair (.int .i64) (.int .i64))) (.int .i64)))⟩, ⟨true, .bo, E_32⟩], [⟨false, .own, (.int .i64)⟩]⟩
noncomputable def r28 (a : ((Int × (List ((Int × Int)) × Int)) × T_24)) : Option Int :=
 Option.bind (r34 a.1) fun (y1 : Int) =>
 bif !(decide (y1 = (0 : Int))) then
 some y1
 else
 Option.bind (
 bif !(decide (a.2.1 < (1 : Int))) then
 some (decide ((9 : Int) < a.2.1))
 else
 some true) fun (d2 : Bool) =>
 bif d2 then
 some (3 : Int)
 else
 Option.bind (
 Option.bind (
 bif !(decide (a.2.2.1 < (0 : Int))) then
 some (decide (a.1.1 ≤ a.2.2.1))
 else
 some true) fun (g35 : Bool) =>
 Option.bind (
 bif !(g35) then
 some (decide (a.2.2.2.1 < (0 : Int)))
 else
 some true) fun (g36 : Bool) =>
 Option.bind (
 bif !(g36) then
 some (decide (a.1.1 ≤ a.2.2.2.1))
 else
 some true) fun (g37 : Bool) =>
 Option.bind (
 bif !(g37) then
 Option.bind (r61 (a.1, a.2.2.2.2.1)) fun (y38 : Bool) =>
 some !(y38)
 else
 some true) fun (g39 : Bool) =>
 Option.bind (
 bif !(g39) then
 some (decide (a.2.2.2.2.2.1 < (0 : Int)))
 else
 some true) fun (g40 : Bool) =>
 Option.bind (
 bif !(g40) then
 some (decide ((↑a.1.2.1.length : Int) ≤ a.2.2.2.2.2.1))
 else
 some true) fun (g41 : Bool) =>
 Option.bind (
 bif !(g41) then
 Option.bind (r62 a.2.2.2.2.2.2.1) fun (y42 : Bool) =>
 some !(y42)
 else
 some true) fun (g43 : Bool) =>
 Option.bind (
 bif !(g43) then
 Option.bind (r63 a.2.2.2.2.2.2.2.1) fun (y44 : Bool) =>
 some !(y44)
 else
 some true) fun (g45 : Bool) =>
 Option.bind (
 bif !(g45) then
 some (decide (a.2.2.2.2.2.2.2.2.1 < (0 : Int)))
 else
 some true) fun (g46 : Bool) =>
 Option.bind (
 bif !(g46) then
 some (decide ((1048576 : Int) < a.2.2.2.2.2.2.2.2.1))
 else
 some true) fun (g47 : Bool) =>
 Option.bind (
 bif !(g47) then
 Option.bind (r64 a.2.2.2.2.2.2.2.2.2.1) fun (y48 : Bool) =>
 some !(y48)
 else
 some true) fun (g49 : Bool) =>
 bif !(g49) then
 Option.bind (r65 a.2.2.2.2.2.2.2.2.2.2.2) fun (y50 : Bool) =>
 some !(y50)
 else
 some true) fun (d51 : Bool) =>
 bif d51 then
 some (2 : Int)
 else
 Option.bind (idxI tab0 a.2.1) fun (b52 : (Bool × (Bool × (Bool × (Bool × (Bool × (Bool × (Bool × Bool)))))))) =>
 Option.bind (
 Option.bind (
 bif !(b52.1) then
 some (!(decide (a.2.2.2.2.2.1 = (0 : Int))))
 else
 some false) fun (g67 : Bool) =>
 Option.bind (
 bif !(g67) then
 bif !(b52.2.1) then
 some (!(decide (a.2.2.2.2.2.2.1 = (0 : Int))))
 else
 some false
 else
 some true) fun (g68 : Bool) =>
 Option.bind (
 bif !(g68) then
 bif !(b52.2.2.1) then
 some (!(decide (a.2.2.2.2.2.2.2.1 = (0 : Int))))
 else
 some false
 else
 some true) fun (g69 : Bool) =>
 Option.bind (
 bif !(g69) then
 bif !(b52.2.2.2.1) then
 some (!(decide (a.2.2.2.2.2.2.2.2.1 = (0 : Int))))
 else
 some false
 else
 some true) fun (g70 : Bool) =>
 Option.bind (
 bif !(g70) then
 bif !(b52.2.2.2.2.1) then
 some (!(decide (a.2.2.2.2.2.2.2.2.2.1 = (0 : Int))))
 else
 some false
 else
 some true) fun (g71 : Bool) =>
 Option.bind (
 bif !(g71) then
 bif !(b52.2.2.2.2.2.1) then
 some a.2.2.2.2.2.2.2.2.2.2.1
 else
 some false
 else
 some true) fun (g72 : Bool) =>
 Option.bind (
 bif !(g72) then
 bif !(b52.2.2.2.2.2.2.1) then
 some (!(decide (a.2.2.2.2.2.2.2.2.2.2.2 = (0 : Int))))
 else
 some false
 else
 some true) fun (g73 : Bool) =>
 bif !(g73) then
 bif !(decide (a.2.2.2.2.2.2.2.2.2.2.2 = (0 : Int))) then
 some (!(decide ((Go.IntKind.wrap .i64 (a.2.2.2.2.2.2.2.1 + a.2.2.2.2.2.2.2.2.1)) = (0 : Int))))
 else
 some false
 else
 some true) fun (d74 : Bool) =>
 bif d74 then
 some (4 : Int)
 else
 some (0 : Int)
def an28 : Ann := .two (.leaf) (.two (.two (.leaf) (.two (.leaf) (.two (.two (.leaf) (.leaf)) (.leaf)))) (.two (.two (.join [2, 3] [2, 3] [⟨.normal, [], [.tmp 19 (.bool)]⟩] (.leaf)) (.two (.two (.leaf) (.leaf)) (.leaf))) (.two (.two (.join [3] [3] [⟨.normal, [], [.tmp 95 (.bool)]⟩] (.segs [(10, ([2, 3], ([2, 3], [.tmp 29 (.bool)]))), (5, ([2, 3], ([2, 3], [.tmp 34 (.bool)]))), (7, ([2, 3], ([2, 3], [.tmp 41 (.bool)]))), (7, ([2, 3], ([2, 3], [.tmp 48 (.bool)]))), (5, ([2, 3], ([2, 3], [.tmp 53 (.bool)]))), (8, ([3], ([3], [.tmp 61 (.bool)]))), (6, ([3], ([3], [.tmp 67 (.bool)]))), (6, ([3], ([3], [.tmp 73 (.bool)]))), (5, ([3], ([3], [.tmp 78 (.bool)]))), (5, ([3], ([3], [.tmp 83 (.bool)]))), (6, ([3], ([3], [.tmp 89 (.bool)])))])) (.two (.two (.leaf) (.leaf)) (.leaf))) (.two (.leaf) (.two (.two (.join [] [] [⟨.normal, [], [.tmp 179 (.bool)]⟩] (.segs [(8, ([3, 6], ([3, 6], [.tmp 107 (.bool)]))), (10, ([3, 6], ([3, 6], [.tmp 117 (.bool)]))), (10, ([3, 6], ([3, 6], [.tmp 127 (.bool)]))), (10, ([3, 6], ([3, 6], [.tmp 137 (.bool)]))), (10, ([3, 6], ([3, 6], [.tmp 147 (.bool)]))), (9, ([3, 6], ([3, 6], [.tmp 156 (.bool)]))), (10, ([3], ([3], [.tmp 166 (.bool)])))])) (.two (.two (.leaf) (.leaf)) (.leaf))) (.two (.leaf) (.leaf)))))))
theorem s28 : SoundF cx.P cx.G 28 sg28 r28 := by
  have e : denF cx [(34, ⟨sg34, r34⟩), (61, ⟨sg61, r61⟩), (62, ⟨sg62, r62⟩), (63, ⟨sg63, r63⟩), (64, ⟨sg64, r64⟩), (65, ⟨sg65, r65⟩)] an28 Tryd.f28.ntmps (Tryd.f28.body.getD .skip) Tryd.f28.results.toList sg28 = r28 := by kernel_rfl
  rw [← e]
  exact sound_of_den (c := cx) (Known.cons (.ofF s34 (by kernel_rfl)) Tryd.func34 (by kernel_rfl) (by kernel_rfl) (Known.cons (.ofF s61 (by kernel_rfl)) Tryd.func61 (by kernel_rfl) (by kernel_rfl) (Known.cons (.ofF s62 (by kernel_rfl)) Tryd.func62 (by kernel_rfl) (by kernel_rfl) (Known.cons (.ofF s63 (by kernel_rfl)) Tryd.func63 (by kernel_rfl) (by kernel_rfl) (Known.cons (.ofF s64 (by kernel_rfl)) Tryd.func64 (by kernel_rfl) (by kernel_rfl) (Known.cons (.ofF s65 (by kernel_rfl)) Tryd.func65 (by kernel_rfl) (by kernel_rfl) (Known.nil))))))) Tryd.func28 (by kernel_rfl) (Nat.le_of_ble_eq_true (by kernel_rfl)) rfl

/-! reredos/label.Above -/
def sg54 : Sig := ⟨[⟨true, .bo, (.pair (.int .i64) (.int .i64))⟩, ⟨true, .bo, (.pair (.int .i64) (.int .i64))⟩], [⟨false, .own, .bool⟩]⟩
noncomputable def r54 (a : ((Int × Int) × (Int × Int))) : Option Bool :=
 bif decide (a.2.1 ≤ a.1.1) then
 some (decide ((Go.bits .and .i64 a.1.2 a.2.2) = a.2.2))
 else
 some false
def an54 : Ann := .two (.leaf) (.two (.leaf) (.leaf))
theorem s54 : SoundF cx.P cx.G 54 sg54 r54 := by
  have e : denF cx [] an54 Tryd.f54.ntmps (Tryd.f54.body.getD .skip) Tryd.f54.results.toList sg54 = r54 := by kernel_rfl
  rw [← e]
  exact sound_of_den (c := cx) (Known.nil) Tryd.func54 (by kernel_rfl) (Nat.le_of_ble_eq_true (by kernel_rfl)) rfl

/-! slices.Clone[[]reredos/api.Note,reredos/api.Note] -/
def sg55 : Sig := ⟨[⟨false, .bo, (.sl E_37)⟩], [⟨false, .own, (.sl E_37)⟩]⟩
noncomputable def r55 (a : List (((Int × Int) × (Bool × Bool)))) : Option (List (((Int × Int) × (Bool × Bool)))) :=
 nilR a fun (n1 : Bool) =>
 bif n1 then
 some []
 else
 bif roomOk false 0 a.length 24 then
 some a
 else
 none
def an55 : Ann := .two (.leaf) (.two (.two (.leaf) (.two (.two (.leaf) (.leaf)) (.leaf))) (.two (.leaf) (.leaf)))
theorem s55 : SoundF cx.P cx.G 55 sg55 r55 := by
  have e : denF cx [] an55 Tryd.f55.ntmps (Tryd.f55.body.getD .skip) Tryd.f55.results.toList sg55 = r55 := by kernel_rfl
  rw [← e]
  exact sound_of_den (c := cx) (Known.nil) Tryd.func55 (by kernel_rfl) (Nat.le_of_ble_eq_true (by kernel_rfl)) rfl

/-! reredos/store.Peek -/
def sg20 : Sig := ⟨[⟨true, .bo, E_31⟩, ⟨false, .bo, (.int .i64)⟩], [⟨false, .own, (.int .i64)⟩, ⟨false, .own, (.int .i64)⟩, ⟨false, .own, (.int .i64)⟩]⟩
noncomputable def r20 (a : T_21) : Option (Int × (Int × Int)) :=
 Option.bind (r37 (a.1, ((0 : Int), (1 : Int)), a.2)) fun (y1 : Int) =>
 bif !(decide (y1 = (0 : Int))) then
 some ((0 : Int), ((0 : Int), y1))
 else
 Option.bind (r46 (a.1, ((0 : Int), (0 : Int)), a.2, false)) fun (y2 : Bool) =>
 bif y2 then
 some ((0 : Int), ((0 : Int), (11 : Int)))
 else
 Option.bind (r47 (a.1, a.2)) fun (y3 : (Int × (Int × Int))) =>
 some (y3.2.1, (y3.2.2, (0 : Int)))
def an20 : Ann := .two (.leaf) (.two (.two (.leaf) (.two (.leaf) (.two (.two (.leaf) (.leaf)) (.leaf)))) (.two (.two (.leaf) (.two (.two (.leaf) (.leaf)) (.leaf))) (.two (.leaf) (.two (.draw 5) (.leaf)))))
theorem s20 : SoundF cx.P cx.G 20 sg20 r20 := by
  have e : denF cx [(37, ⟨sg37, r37⟩), (46, ⟨sg46, r46⟩), (47, ⟨sg47, r47⟩)] an20 Tryd.f20.ntmps (Tryd.f20.body.getD .skip) Tryd.f20.results.toList sg20 = r20 := by kernel_rfl
  rw [← e]
  exact sound_of_den (c := cx) (Known.cons (.ofF s37 (by kernel_rfl)) Tryd.func37 (by kernel_rfl) (by kernel_rfl) (Known.cons (.ofF s46 (by kernel_rfl)) Tryd.func46 (by kernel_rfl) (by kernel_rfl) (Known.cons (.ofF s47 (by kernel_rfl)) Tryd.func47 (by kernel_rfl) (by kernel_rfl) (Known.nil)))) Tryd.func20 (by kernel_rfl) (Nat.le_of_ble_eq_true (by kernel_rfl)) rfl

/-! reredos/part.refusal -/
def sg92 : Sig := ⟨[⟨false, .bo, (.int .i64)⟩], [⟨false, .own, .bool⟩]⟩
noncomputable def r92 (a : Int) : Option Bool :=
 bif !(decide (a = (11 : Int))) then
 some (decide (a = (8 : Int)))
 else
 some true
def an92 : Ann := .two (.leaf) (.two (.leaf) (.leaf))
theorem s92 : SoundF cx.P cx.G 92 sg92 r92 := by
  have e : denF cx [] an92 Tryd.f92.ntmps (Tryd.f92.body.getD .skip) Tryd.f92.results.toList sg92 = r92 := by kernel_rfl
  rw [← e]
  exact sound_of_den (c := cx) (Known.nil) Tryd.func92 (by kernel_rfl) (Nat.le_of_ble_eq_true (by kernel_rfl)) rfl

/-! reredos/store.Still -/
def sg93 : Sig := ⟨[⟨true, .bo, E_31⟩, ⟨true, .bo, (.pair (.int .i64) (.int .i64))⟩, ⟨false, .bo, (.int .i64)⟩, ⟨false, .bo, (.int .i64)⟩], [⟨false, .own, .bool⟩, ⟨false, .own, (.int .i64)⟩]⟩
noncomputable def r93 (a : (T_22 × ((Int × Int) × (Int × Int)))) : Option (Bool × Int) :=
 Option.bind (r37 (a.1, a.2.1, a.2.2.1)) fun (y1 : Int) =>
 bif !(decide (y1 = (0 : Int))) then
 some (false, y1)
 else
 Option.bind (
 Option.bind (r66 (a.1, a.2.1, a.2.2.1)) fun (y2 : Int) =>
 bif decide ((0 : Int) ≤ y2) then
 Option.bind (r47 (a.1, a.2.2.1)) fun (y3 : (Int × (Int × Int))) =>
 some (decide (y3.2.2 = a.2.2.2))
 else
 some false) fun (g4 : Bool) =>
 some (g4, (0 : Int))
def an93 : Ann := .two (.leaf) (.two (.two (.leaf) (.two (.leaf) (.two (.two (.leaf) (.leaf)) (.leaf)))) (.two (.segs [(13, ([], ([], [.tmp 30 (.bool)])))]) (.leaf)))
theorem s93 : SoundF cx.P cx.G 93 sg93 r93 := by
  have e : denF cx [(37, ⟨sg37, r37⟩), (47, ⟨sg47, r47⟩), (66, ⟨sg66, r66⟩)] an93 Tryd.f93.ntmps (Tryd.f93.body.getD .skip) Tryd.f93.results.toList sg93 = r93 := by kernel_rfl
  rw [← e]
  exact sound_of_den (c := cx) (Known.cons (.ofF s37 (by kernel_rfl)) Tryd.func37 (by kernel_rfl) (by kernel_rfl) (Known.cons (.ofF s47 (by kernel_rfl)) Tryd.func47 (by kernel_rfl) (by kernel_rfl) (Known.cons (.ofF s66 (by kernel_rfl)) Tryd.func66 (by kernel_rfl) (by kernel_rfl) (Known.nil)))) Tryd.func93 (by kernel_rfl) (Nat.le_of_ble_eq_true (by kernel_rfl)) rfl

/-! reredos/store.Writes -/
noncomputable def r17_L0 (a : T_19) (d2 : (Int × Int)) : Option ((Int × Int) ⊕ Int) :=
 bif decide (d2.2 < (↑a.1.2.1.length : Int)) then
 Option.bind (
 Option.bind (idxI a.1.2.1 d2.2) fun (b7 : T_25) =>
 Option.bind (
 bif (decide (b7.1.1 = a.2.1) && (decide (b7.1.2 = a.2.2) && true)) then
 some b7.2.2.1
 else
 some false) fun (d8 : Bool) =>
 bif d8 then
 some (Go.IntKind.wrap .i64 (d2.1 + (1 : Int)))
 else
 some d2.1) fun (d9 : Int) =>
 some (Sum.inl (d9, (Go.IntKind.wrap .i64 (d2.2 + (1 : Int)))))
 else
 some (Sum.inr d2.1)
def sg17 : Sig := ⟨[⟨true, .bo, E_31⟩, ⟨true, .bo, (.pair (.int .i64) (.int .i64))⟩], [⟨false, .own, (.int .i64)⟩, ⟨false, .own, (.int .i64)⟩]⟩
noncomputable def r17 (a : T_19) : Option (Int × Int) :=
 Option.bind (r37 (a.1, a.2, (0 : Int))) fun (y1 : Int) =>
 bif !(decide (y1 = (0 : Int))) then
 some ((0 : Int), y1)
 else
 Option.bind (loopR (r17_L0 a) ((0 : Int), (0 : Int))) fun (q10 : Int) =>
 some (q10, (0 : Int))
def an17 : Ann := .two (.leaf) (.two (.two (.leaf) (.two (.leaf) (.two (.two (.leaf) (.leaf)) (.leaf)))) (.two (.leaf) (.two (.two (.leaf) (.one (.loop [3, 17, 18] [3] [] [.tmp 7 (.int .i64), .tmp 19 (.int .i64)] [⟨.exit 0, [], [.tmp 7 (.int .i64)]⟩] (.two (.leaf) (.two (.two (.leaf) (.leaf)) (.two (.join [3, 17, 18, 19] [3] [⟨.normal, [], [.tmp 7 (.int .i64)]⟩] (.one (.two (.leaf) (.two (.join [3, 7, 17, 18, 19] [3] [⟨.normal, [], [.tmp 30 (.bool)]⟩] (.leaf)) (.two (.leaf) (.leaf)))))) (.leaf))))))) (.two (.leaf) (.leaf)))))
theorem s17 : SoundF cx.P cx.G 17 sg17 r17 := by
  have e : denF cx [(37, ⟨sg37, r37⟩)] an17 Tryd.f17.ntmps (Tryd.f17.body.getD .skip) Tryd.f17.results.toList sg17 = r17 := by kernel_rfl
  rw [← e]
  exact sound_of_den (c := cx) (Known.cons (.ofF s37 (by kernel_rfl)) Tryd.func37 (by kernel_rfl) (by kernel_rfl) (Known.nil)) Tryd.func17 (by kernel_rfl) (Nat.le_of_ble_eq_true (by kernel_rfl)) rfl


end Go.Hq
