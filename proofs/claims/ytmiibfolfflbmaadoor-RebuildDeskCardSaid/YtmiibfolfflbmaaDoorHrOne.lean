/- What the functions compute: written by gen.py. -/
import Derived.Test.YtmiibfolfflbmaaDoorLibI
import Derived.WalkKit
import Derived.Lib.Walk
import Derived.Lib.JoinLaws
import Derived.Test.YtmiibfolfflbmaaDoorLibK
import Derived.Test.YtmiibfolfflbmaaDoorLibJ
import Derived.Test.YtmiibfolfflbmaaDoorProg
import Derived.KernelRfl
namespace Go.Hr
open Go.RowKit Go.Proofs Go.V
abbrev E_48 : Ty := (.pair (.pair (.int .i64) (.int .i64)) (.int .i64))
abbrev E_47 : Ty := (.pair (.int .i64) (.pair (.int .i64) (.int .i64)))
abbrev E_46 : Ty := (.pair (.pair (.int .i64) (.int .i64)) (.pair .bool .bool))
abbrev E_45 : Ty := (.pair (.int .i64) (.pair (.sl (.pair (.int .i64) (.int .i64))) (.int .i64)))
abbrev E_44 : Ty := (.pair (.pair (.int .i64) (.int .i64)) (.pair (.int .i64) (.pair .bool (.pair (.int .i64) (.int .i64)))))
abbrev E_43 : Ty := (.pair (.int .i64) (.pair (.int .i64) (.pair (.int .i64) E_47)))
abbrev E_42 : Ty := (.pair .bool (.pair (.int .i64) (.pair (.int .i64) (.pair (.int .i64) (.pair (.int .i64) (.pair (.int .i64) (.pair .bool .bool)))))))
abbrev E_41 : Ty := (.pair (.int .i64) (.pair (.pair (.int .i64) (.int .i64)) (.pair (.int .i64) (.pair (.int .i64) (.pair (.int .i64) (.pair .bool (.rsl (.int .i64))))))))
abbrev E_40 : Ty := (.pair (.int .i64) (.pair (.int .i64) (.pair (.rsl E_42) (.pair (.rsl (.int .i64)) (.pair (.int .i64) (.int .i64))))))
abbrev E_39 : Ty := (.sl E_40)
abbrev E_38 : Ty := (.pair (.int .i64) E_39)
abbrev E_37 : Ty := (.pair (.sl E_47) (.pair (.sl E_44) (.pair (.sl E_48) (.sl (.pair (.int .i64) (.int .i64))))))
abbrev E_36 : Ty := (.pair E_37 (.pair E_38 (.sl E_46)))
abbrev E_35 : Ty := (.pair (.pair (.rsl E_47) (.pair (.rsl E_44) (.pair (.rsl E_48) (.rsl (.pair (.int .i64) (.int .i64)))))) (.pair (.pair (.int .i64) (.rsl E_40)) (.rsl E_46)))
abbrev E_34 : Ty := (.pair (.int .i64) E_36)
abbrev E_33 : Ty := (.pair (.int .i64) E_35)
abbrev T_32 : Type := (Int × (List ((Int × Int)) × Int))
abbrev T_31 : Type := ((Int × Int) × (Int × (Bool × (Int × Int))))
abbrev T_30 : Type := (Int × ((Int × Int) × (Int × (Int × (Int × (Bool × List Int))))))
abbrev T_29 : Type := (Int × (Int × (List ((Bool × (Int × (Int × (Int × (Int × (Int × (Bool × Bool)))))))) × (List Int × (Int × Int)))))
abbrev T_28 : Type := (T_32 × (Int × List (T_30)))
abbrev T_27 : Type := (Int × List (T_29))
abbrev T_26 : Type := (List ((Int × (Int × Int))) × (List (T_31) × (List (((Int × Int) × Int)) × List ((Int × Int)))))
abbrev T_25 : Type := (T_26 × Int)
abbrev T_24 : Type := (Unit × T_26)
abbrev T_23 : Type := (T_26 × (Int × Int))
abbrev T_22 : Type := (Unit × (Int × T_26))
abbrev T_21 : Type := (T_26 × ((Int × Int) × Bool))
abbrev T_20 : Type := (Unit × T_22)
abbrev T_19 : Type := (Unit × (Unit × (Int × (Int × T_26))))
abbrev T_18 : Type := (T_32 × (T_27 × T_29))
abbrev T_17 : Type := (Unit × (Unit × (T_26 × T_27)))
abbrev T_16 : Type := (Unit × (Unit × (Int × (T_26 × T_27))))
abbrev T_15 : Type := (Unit × T_16)
abbrev T_14 : Type := (Int × (T_26 × (T_27 × List (((Int × Int) × (Bool × Bool))))))
abbrev T_13 : Type := (T_26 × (T_27 × (List (((Int × Int) × (Bool × Bool))) × Int)))
abbrev T_12 : Type := (Int × T_14)
abbrev T_11 : Type := (Unit × T_14)
abbrev T_10 : Type := (Unit × T_12)
abbrev T_9 : Type := (Unit × T_11)
abbrev T_8 : Type := (Unit × T_9)
abbrev T_7 : Type := (Unit × (Unit × T_10))
abbrev T_6 : Type := (Unit × (Unit × (Unit × (Unit × T_7))))
abbrev T_5 : Type := (Unit × (Unit × (Unit × (Unit × (Unit × (Unit × (Unit × ((Int × (List ((Int × (Int × Int))) × (List (T_31) × (List (((Int × Int) × Int)) × (List ((Int × Int)) × (Int × (Unit × List (((Int × Int) × (Bool × Bool)))))))))) × List (T_29)))))))))
abbrev T_4 : Type := (Unit × T_6)
abbrev T_3 : Type := (Unit × T_5)
abbrev T_2 : Type := (Unit × (Unit × (Unit × (Unit × (Unit × (Unit × (Unit × (Unit × (Int × T_12)))))))))
abbrev T_1 : Type := (Unit × T_4)
abbrev T_0 : Type := (Unit × T_2)
def tys : List (Nat × TyInfo) := [
 (3, ⟨.int .i64, 1, 8, [.int .i64 0], false, [none], [none], (.int .i64)⟩),
 (4, ⟨.bool, 1, 1, [.bool false], false, [none], [none], .bool⟩),
 (22, ⟨.sl 61, 1, 24, [.slice none 0 0], false, [some E_43], [none], (.sl E_43)⟩),
 (23, ⟨.sl 58, 1, 24, [.slice none 0 0], false, [some (.pair (.int .i64) (.int .i64))], [none], (.sl (.pair (.int .i64) (.int .i64)))⟩),
 (25, ⟨.st [(0, 3), (1, 23), (2, 3)], 3, 40, [.int .i64 0, .slice none 0 0, .int .i64 0], false, [none, some (.pair (.int .i64) (.int .i64)), none], [none, none, none], (.pair (.int .i64) (.pair (.rsl (.pair (.int .i64) (.int .i64))) (.int .i64)))⟩),
 (28, ⟨.st [(0, 3), (1, 3)], 2, 16, [.int .i64 0, .int .i64 0], true, [none, none], [none, none], (.pair (.int .i64) (.int .i64))⟩),
 (30, ⟨.sl 33, 1, 24, [.slice none 0 0], false, [some E_41], [none], (.sl E_41)⟩),
 (31, ⟨.sl 3, 1, 24, [.slice none 0 0], false, [some (.int .i64)], [none], (.sl (.int .i64))⟩),
 (33, ⟨.st [(0, 3), (1, 28), (3, 3), (4, 3), (5, 3), (6, 4), (7, 31)], 8, 80, [.int .i64 0, .int .i64 0, .int .i64 0, .int .i64 0, .int .i64 0, .int .i64 0, .bool false, .slice none 0 0], false, [none, none, none, none, none, none, none, some (.int .i64)], [none, none, none, none, none, none, none, none], E_41⟩),
 (35, ⟨.sl 108, 1, 24, [.slice none 0 0], false, [some E_47], [none], (.sl E_47)⟩),
 (36, ⟨.sl 102, 1, 24, [.slice none 0 0], false, [some E_44], [none], (.sl E_44)⟩),
 (37, ⟨.sl 113, 1, 24, [.slice none 0 0], false, [some E_48], [none], (.sl E_48)⟩),
 (38, ⟨.sl 28, 1, 24, [.slice none 0 0], false, [some (.pair (.int .i64) (.int .i64))], [none], (.sl (.pair (.int .i64) (.int .i64)))⟩),
 (40, ⟨.st [(0, 35), (1, 36), (2, 37), (3, 38)], 4, 96, [.slice none 0 0, .slice none 0 0, .slice none 0 0, .slice none 0 0], false, [some E_47, some E_44, some E_48, some (.pair (.int .i64) (.int .i64))], [none, none, none, none], (.pair (.rsl E_47) (.pair (.rsl E_44) (.pair (.rsl E_48) (.rsl (.pair (.int .i64) (.int .i64))))))⟩),
 (41, ⟨.sl 65, 1, 24, [.slice none 0 0], false, [some E_40], [none], E_39⟩),
 (43, ⟨.st [(0, 3), (1, 41)], 2, 32, [.int .i64 0, .slice none 0 0], false, [none, some E_40], [none, none], (.pair (.int .i64) (.rsl E_40))⟩),
 (44, ⟨.sl 92, 1, 24, [.slice none 0 0], false, [some E_46], [none], (.sl E_46)⟩),
 (45, ⟨.int .i64, 1, 8, [.int .i64 0], false, [none], [none], (.int .i64)⟩),
 (58, ⟨.st [(0, 3), (1, 3)], 2, 16, [.int .i64 0, .int .i64 0], true, [none, none], [none, none], (.pair (.int .i64) (.int .i64))⟩),
 (61, ⟨.st [(0, 3), (1, 3), (2, 3), (3, 3), (4, 3), (5, 3)], 6, 48, [.int .i64 0, .int .i64 0, .int .i64 0, .int .i64 0, .int .i64 0, .int .i64 0], false, [none, none, none, none, none, none], [none, none, none, none, none, none], E_43⟩),
 (63, ⟨.sl 161, 1, 24, [.slice none 0 0], false, [some E_42], [none], (.sl E_42)⟩),
 (65, ⟨.st [(0, 3), (1, 3), (2, 63), (3, 31), (4, 3), (5, 3)], 6, 80, [.int .i64 0, .int .i64 0, .slice none 0 0, .slice none 0 0, .int .i64 0, .int .i64 0], false, [none, none, some E_42, some (.int .i64), none, none], [none, none, none, none, none, none], E_40⟩),
 (92, ⟨.st [(0, 28), (2, 4), (3, 4)], 4, 24, [.int .i64 0, .int .i64 0, .bool false, .bool false], false, [none, none, none, none], [none, none, none, none], E_46⟩),
 (96, ⟨.ptr, 1, 8, [.pointer none], false, [none], [none], .unit⟩),
 (98, ⟨.st [(0, 3), (1, 40), (5, 43), (7, 44)], 8, 160, [.int .i64 0, .slice none 0 0, .slice none 0 0, .slice none 0 0, .slice none 0 0, .int .i64 0, .slice none 0 0, .slice none 0 0], false, [none, some E_47, some E_44, some E_48, some (.pair (.int .i64) (.int .i64)), none, some E_40, some E_46], [none, none, none, none, none, none, none, none], E_33⟩),
 (102, ⟨.st [(0, 28), (2, 3), (3, 4), (4, 3), (5, 3)], 6, 48, [.int .i64 0, .int .i64 0, .int .i64 0, .bool false, .int .i64 0, .int .i64 0], false, [none, none, none, none, none, none], [none, none, none, none, none, none], E_44⟩),
 (108, ⟨.st [(0, 3), (1, 3), (2, 3)], 3, 24, [.int .i64 0, .int .i64 0, .int .i64 0], false, [none, none, none], [none, none, none], E_47⟩),
 (113, ⟨.st [(0, 28), (2, 3)], 3, 24, [.int .i64 0, .int .i64 0, .int .i64 0], false, [none, none, none], [none, none, none], E_48⟩),
 (137, ⟨.st [(0, 4), (1, 4), (2, 4), (3, 4), (4, 4), (5, 4), (6, 4), (7, 4)], 8, 8, [.bool false, .bool false, .bool false, .bool false, .bool false, .bool false, .bool false, .bool false], false, [none, none, none, none, none, none, none, none], [none, none, none, none, none, none, none, none], (.pair .bool (.pair .bool (.pair .bool (.pair .bool (.pair .bool (.pair .bool (.pair .bool .bool)))))))⟩),
 (138, ⟨.arr 10 137, 80, 80, [.bool false, .bool false, .bool false, .bool false, .bool false, .bool false, .bool false, .bool false, .bool false, .bool false, .bool false, .bool false, .bool false, .bool false, .bool false, .bool false, .bool false, .bool false, .bool false, .bool false, .bool false, .bool false, .bool false, .bool false, .bool false, .bool false, .bool false, .bool false, .bool false, .bool false, .bool false, .bool false, .bool false, .bool false, .bool false, .bool false, .bool false, .bool false, .bool false, .bool false, .bool false, .bool false, .bool false, .bool false, .bool false, .bool false, .bool false, .bool false, .bool false, .bool false, .bool false, .bool false, .bool false, .bool false, .bool false, .bool false, .bool false, .bool false, .bool false, .bool false, .bool false, .bool false, .bool false, .bool false, .bool false, .bool false, .bool false, .bool false, .bool false, .bool false, .bool false, .bool false, .bool false, .bool false, .bool false, .bool false, .bool false, .bool false, .bool false, .bool false], false, [none, none, none, none, none, none, none, none, none, none, none, none, none, none, none, none, none, none, none, none, none, none, none, none, none, none, none, none, none, none, none, none, none, none, none, none, none, none, none, none, none, none, none, none, none, none, none, none, none, none, none, none, none, none, none, none, none, none, none, none, none, none, none, none, none, none, none, none, none, none, none, none, none, none, none, none, none, none, none, none], [none, none, none, none, none, none, none, none, none, none, none, none, none, none, none, none, none, none, none, none, none, none, none, none, none, none, none, none, none, none, none, none, none, none, none, none, none, none, none, none, none, none, none, none, none, none, none, none, none, none, none, none, none, none, none, none, none, none, none, none, none, none, none, none, none, none, none, none, none, none, none, none, none, none, none, none, none, none, none, none], .unit⟩),
 (141, ⟨.ptr, 1, 8, [.pointer none], false, [none], [none], .unit⟩),
 (143, ⟨.arr 7 137, 56, 56, [.bool false, .bool false, .bool false, .bool false, .bool false, .bool false, .bool false, .bool false, .bool false, .bool false, .bool false, .bool false, .bool false, .bool false, .bool false, .bool false, .bool false, .bool false, .bool false, .bool false, .bool false, .bool false, .bool false, .bool false, .bool false, .bool false, .bool false, .bool false, .bool false, .bool false, .bool false, .bool false, .bool false, .bool false, .bool false, .bool false, .bool false, .bool false, .bool false, .bool false, .bool false, .bool false, .bool false, .bool false, .bool false, .bool false, .bool false, .bool false, .bool false, .bool false, .bool false, .bool false, .bool false, .bool false, .bool false, .bool false], false, [none, none, none, none, none, none, none, none, none, none, none, none, none, none, none, none, none, none, none, none, none, none, none, none, none, none, none, none, none, none, none, none, none, none, none, none, none, none, none, none, none, none, none, none, none, none, none, none, none, none, none, none, none, none, none, none], [none, none, none, none, none, none, none, none, none, none, none, none, none, none, none, none, none, none, none, none, none, none, none, none, none, none, none, none, none, none, none, none, none, none, none, none, none, none, none, none, none, none, none, none, none, none, none, none, none, none, none, none, none, none, none, none], .unit⟩),
 (161, ⟨.st [(0, 4), (1, 3), (2, 3), (3, 3), (4, 3), (5, 3), (6, 4), (7, 4)], 8, 56, [.bool false, .int .i64 0, .int .i64 0, .int .i64 0, .int .i64 0, .int .i64 0, .bool false, .bool false], false, [none, none, none, none, none, none, none, none], [none, none, none, none, none, none, none, none], E_42⟩),
 (173, ⟨.int .u64, 1, 8, [.int .u64 0], false, [none], [none], (.int .u64)⟩)]
theorem tysOk : TyOk Tryd.prog tys := tyOk_of fun e he => by
  simp only [tys, List.mem_cons, List.not_mem_nil, or_false] at he
  rcases he with rfl | rfl | rfl | rfl | rfl | rfl | rfl | rfl | rfl | rfl | rfl | rfl | rfl | rfl | rfl | rfl | rfl | rfl | rfl | rfl | rfl | rfl | rfl | rfl | rfl | rfl | rfl | rfl | rfl | rfl | rfl | rfl | rfl | rfl
  · exact ⟨by kernel_rfl, by kernel_rfl, fun h => nomatch h⟩
  · exact ⟨by kernel_rfl, by kernel_rfl, fun h => nomatch h⟩
  · exact ⟨by kernel_rfl, by kernel_rfl, fun h => nomatch h⟩
  · exact ⟨by kernel_rfl, by kernel_rfl, fun h => nomatch h⟩
  · exact ⟨by kernel_rfl, by kernel_rfl, fun h => nomatch h⟩
  · exact ⟨by kernel_rfl, by kernel_rfl, fun _ => ⟨by kernel_rfl, by kernel_rfl, by kernel_rfl⟩⟩
  · exact ⟨by kernel_rfl, by kernel_rfl, fun h => nomatch h⟩
  · exact ⟨by kernel_rfl, by kernel_rfl, fun h => nomatch h⟩
  · exact ⟨by kernel_rfl, by kernel_rfl, fun h => nomatch h⟩
  · exact ⟨by kernel_rfl, by kernel_rfl, fun h => nomatch h⟩
  · exact ⟨by kernel_rfl, by kernel_rfl, fun h => nomatch h⟩
  · exact ⟨by kernel_rfl, by kernel_rfl, fun h => nomatch h⟩
  · exact ⟨by kernel_rfl, by kernel_rfl, fun h => nomatch h⟩
  · exact ⟨by kernel_rfl, by kernel_rfl, fun h => nomatch h⟩
  · exact ⟨by kernel_rfl, by kernel_rfl, fun h => nomatch h⟩
  · exact ⟨by kernel_rfl, by kernel_rfl, fun h => nomatch h⟩
  · exact ⟨by kernel_rfl, by kernel_rfl, fun h => nomatch h⟩
  · exact ⟨by kernel_rfl, by kernel_rfl, fun h => nomatch h⟩
  · exact ⟨by kernel_rfl, by kernel_rfl, fun _ => ⟨by kernel_rfl, by kernel_rfl, by kernel_rfl⟩⟩
  · exact ⟨by kernel_rfl, by kernel_rfl, fun h => nomatch h⟩
  · exact ⟨by kernel_rfl, by kernel_rfl, fun h => nomatch h⟩
  · exact ⟨by kernel_rfl, by kernel_rfl, fun h => nomatch h⟩
  · exact ⟨by kernel_rfl, by kernel_rfl, fun h => nomatch h⟩
  · exact ⟨by kernel_rfl, by kernel_rfl, fun h => nomatch h⟩
  · exact ⟨by kernel_rfl, by kernel_rfl, fun h => nomatch h⟩
  · exact ⟨by kernel_rfl, by kernel_rfl, fun h => nomatch h⟩
  · exact ⟨by kernel_rfl, by kernel_rfl, fun h => nomatch h⟩
  · exact ⟨by kernel_rfl, by kernel_rfl, fun h => nomatch h⟩
  · exact ⟨by kernel_rfl, by kernel_rfl, fun h => nomatch h⟩
  · exact ⟨by kernel_rfl, by kernel_rfl, fun h => nomatch h⟩
  · exact ⟨by kernel_rfl, by kernel_rfl, fun h => nomatch h⟩
  · exact ⟨by kernel_rfl, by kernel_rfl, fun h => nomatch h⟩
  · exact ⟨by kernel_rfl, by kernel_rfl, fun h => nomatch h⟩
  · exact ⟨by kernel_rfl, by kernel_rfl, fun h => nomatch h⟩
def tab0 : List (Bool × (Bool × (Bool × (Bool × (Bool × (Bool × (Bool × Bool))))))) := [(false, (false, (false, (false, (false, (false, (false, false))))))),
 (true, (true, (false, (false, (true, (false, (false, false))))))),
 (false, (true, (true, (false, (true, (false, (false, false))))))),
 (true, (true, (false, (true, (false, (false, (false, false))))))),
 (false, (false, (false, (false, (false, (true, (false, false))))))),
 (true, (true, (true, (true, (true, (false, (true, false))))))),
 (false, (true, (false, (false, (true, (false, (true, false))))))),
 (true, (true, (false, (true, (false, (true, (false, false))))))),
 (false, (false, (false, (false, (false, (false, (false, false))))))),
 (false, (false, (false, (false, (false, (false, (false, false)))))))]
def tab1 : List (Bool × (Bool × (Bool × (Bool × (Bool × (Bool × (Bool × Bool))))))) := [(false, (false, (false, (false, (false, (false, (false, false))))))),
 (false, (true, (true, (false, (true, (false, (false, false))))))),
 (false, (false, (false, (false, (false, (true, (false, false))))))),
 (false, (false, (false, (false, (false, (false, (false, true))))))),
 (false, (false, (false, (false, (false, (false, (false, false))))))),
 (false, (false, (false, (false, (false, (false, (false, false))))))),
 (false, (false, (false, (false, (false, (true, (false, false)))))))]
noncomputable def inls : List (Nat × Go.Func) := [(36, Tryd.f36), (41, Tryd.f41), (42, Tryd.f42), (43, Tryd.f43), (44, Tryd.f44), (69, Tryd.f69), (70, Tryd.f70), (71, Tryd.f71), (72, Tryd.f72), (78, Tryd.f78), (79, Tryd.f79), (83, Tryd.f83), (84, Tryd.f84), (86, Tryd.f86), (87, Tryd.f87), (89, Tryd.f89), (94, Tryd.f94), (95, Tryd.f95), (96, Tryd.f96), (99, Tryd.f99), (102, Tryd.f102), (103, Tryd.f103)]
theorem inlsOk : ∀ f fn, Go.V.look inls f = some fn → Tryd.prog.funcs[f]? = some fn ∧ (fn.name == "runtime.NumGoroutine") = false := inlOk_of fun e he => by
  simp only [inls, List.mem_cons, List.not_mem_nil, or_false] at he
  rcases he with rfl | rfl | rfl | rfl | rfl | rfl | rfl | rfl | rfl | rfl | rfl | rfl | rfl | rfl | rfl | rfl | rfl | rfl | rfl | rfl | rfl | rfl
  · exact ⟨Tryd.func36, by kernel_rfl⟩
  · exact ⟨Tryd.func41, by kernel_rfl⟩
  · exact ⟨Tryd.func42, by kernel_rfl⟩
  · exact ⟨Tryd.func43, by kernel_rfl⟩
  · exact ⟨Tryd.func44, by kernel_rfl⟩
  · exact ⟨Tryd.func69, by kernel_rfl⟩
  · exact ⟨Tryd.func70, by kernel_rfl⟩
  · exact ⟨Tryd.func71, by kernel_rfl⟩
  · exact ⟨Tryd.func72, by kernel_rfl⟩
  · exact ⟨Tryd.func78, by kernel_rfl⟩
  · exact ⟨Tryd.func79, by kernel_rfl⟩
  · exact ⟨Tryd.func83, by kernel_rfl⟩
  · exact ⟨Tryd.func84, by kernel_rfl⟩
  · exact ⟨Tryd.func86, by kernel_rfl⟩
  · exact ⟨Tryd.func87, by kernel_rfl⟩
  · exact ⟨Tryd.func89, by kernel_rfl⟩
  · exact ⟨Tryd.func94, by kernel_rfl⟩
  · exact ⟨Tryd.func95, by kernel_rfl⟩
  · exact ⟨Tryd.func96, by kernel_rfl⟩
  · exact ⟨Tryd.func99, by kernel_rfl⟩
  · exact ⟨Tryd.func102, by kernel_rfl⟩
  · exact ⟨Tryd.func103, by kernel_rfl⟩
noncomputable def cx : Ctx := ⟨Tryd.prog, tys, tysOk, [(1, .ga (.pair .bool (.pair .bool (.pair .bool (.pair .bool (.pair .bool (.pair .bool (.pair .bool .bool))))))) tab1)], 0, inls, inlsOk, by kernel_rfl⟩

/-! reredos/reredoskeep.picked -/
def sg18 : Sig := ⟨[⟨false, .bo, (.int .i64)⟩, ⟨false, .bo, (.int .i64)⟩], [⟨false, .own, (.int .i64)⟩]⟩
noncomputable def r18 (a : (Int × Int)) : Option Int :=
 Option.bind (
 bif decide (a.1 < (0 : Int)) then
 some (Go.IntKind.wrap .i64 (0 - (Go.IntKind.wrap .i64 (a.1 + (1 : Int)))))
 else
 some a.1) fun (d1 : Int) =>
 bif decide (a.2 = 0) then
 none
 else
 some (Int.tmod d1 a.2)
def an18 : Ann := .two (.leaf) (.two (.join [1] [] [⟨.normal, [], [.tmp 0 (.int .i64)]⟩] (.two (.leaf) (.two (.leaf) (.leaf)))) (.two (.leaf) (.leaf)))
theorem s18 : SoundF cx.P cx.G 18 sg18 r18 := by
  have e : denF cx [] an18 Tryd.f18.ntmps (Tryd.f18.body.getD .skip) Tryd.f18.results.toList sg18 = r18 := by kernel_rfl
  rw [← e]
  exact sound_of_den (c := cx) (Known.nil) Tryd.func18 (by kernel_rfl) (Nat.le_of_ble_eq_true (by kernel_rfl)) rfl

/-! reredos/reredoskeep.two -/
def sg13 : Sig := ⟨[⟨false, .bo, (.int .i64)⟩], [⟨true, .ro, E_45⟩]⟩
noncomputable def r13 (a : Int) : Option T_32 :=
 Option.bind (r18 (a, (3 : Int))) fun (y1 : Int) =>
 some ((Go.IntKind.wrap .i64 ((1 : Int) + y1)), ([((0 : Int), (0 : Int)), ((1 : Int), (0 : Int))], (3 : Int)))
def an13 : Ann := .two (.leaf) (.two (.leaf) (.leaf))
theorem s13 : SoundF cx.P cx.G 13 sg13 r13 := by
  have e : denF cx [(18, ⟨sg18, r18⟩)] an13 Tryd.f13.ntmps (Tryd.f13.body.getD .skip) Tryd.f13.results.toList sg13 = r13 := by kernel_rfl
  rw [← e]
  exact sound_of_den (c := cx) (Known.cons (.ofF s18 (by kernel_rfl)) Tryd.func18 (by kernel_rfl) (by kernel_rfl) (Known.nil)) Tryd.func13 (by kernel_rfl) (Nat.le_of_ble_eq_true (by kernel_rfl)) rfl

/-! reredos/reredoskeep.Txn -/
def sg14 : Sig := ⟨[⟨true, .bo, E_45⟩, ⟨false, .bo, (.int .i64)⟩, ⟨false, .bo, (.int .i64)⟩], [⟨true, .own, (.pair (.int .i64) (.int .i64))⟩]⟩
noncomputable def r14 (a : (T_32 × (Int × Int))) : Option (Int × Int) :=
 Option.bind (r18 (a.2.1, a.1.1)) fun (y1 : Int) =>
 Option.bind (r18 (a.2.2, (6 : Int))) fun (y2 : Int) =>
 some (y1, (Go.IntKind.wrap .i64 ((1 : Int) + y2)))
def an14 : Ann := .two (.leaf) (.two (.leaf) (.leaf))
theorem s14 : SoundF cx.P cx.G 14 sg14 r14 := by
  have e : denF cx [(18, ⟨sg18, r18⟩)] an14 Tryd.f14.ntmps (Tryd.f14.body.getD .skip) Tryd.f14.results.toList sg14 = r14 := by kernel_rfl
  rw [← e]
  exact sound_of_den (c := cx) (Known.cons (.ofF s18 (by kernel_rfl)) Tryd.func18 (by kernel_rfl) (by kernel_rfl) (Known.nil)) Tryd.func14 (by kernel_rfl) (Nat.le_of_ble_eq_true (by kernel_rfl)) rfl

/-! reredos/reredoskeep.Record -/
noncomputable def r21_L0 (a : (T_32 × (Int × (Int × (Int × (Int × (Int × Int))))))) (d47 : (Unit × (Int × (Int × (Int × (Int × (Int × (Int × (Int × (Bool × List Int)))))))))) : Option ((Unit × (Int × (Int × (Int × (Int × (Int × (Int × (Int × (Bool × List Int))))))))) ⊕ (Unit × (Int × (Int × (Int × (Int × (Int × (Int × (Bool × List Int))))))))) :=
 bif decide (d47.2.1 < a.1.1) then
 Option.bind (
 Option.bind (r18 (a.2.2.2.2.1, (16 : Int))) fun (y50 : Int) =>
 bif decide (d47.2.1 < 0) then
 none
 else
 bif decide ((Int.tmod (Int.fdiv y50 (2 ^ (min (Int.toNat d47.2.1) (Go.IntKind.bits .i64)))) (2 : Int)) = (1 : Int)) then
 bif roomOk false d47.2.2.2.2.2.2.2.2.2.length 1 8 then
 some ((), (d47.2.2.1, (d47.2.2.2.1, (d47.2.2.2.2.1, (d47.2.2.2.2.2.1, (d47.2.2.2.2.2.2.1, (d47.2.2.2.2.2.2.2.1, (d47.2.2.2.2.2.2.2.2.1, app d47.2.2.2.2.2.2.2.2.2 [d47.2.1]))))))))
 else
 none
 else
 some ((), d47.2.2)) fun (d51 : (Unit × (Int × (Int × (Int × (Int × (Int × (Int × (Bool × List Int))))))))) =>
 some (Sum.inl ((), ((Go.IntKind.wrap .i64 (d47.2.1 + (1 : Int))), d51.2)))
 else
 some (Sum.inr ((), d47.2.2))
def sg21 : Sig := ⟨[⟨true, .bo, E_45⟩, ⟨true, .bo, E_43⟩], [⟨true, .ro, (.pair (.int .i64) (.pair (.pair (.int .i64) (.int .i64)) (.pair (.int .i64) (.pair (.int .i64) (.pair (.int .i64) (.pair .bool (.sl (.int .i64))))))))⟩]⟩
noncomputable def r21 (a : (T_32 × (Int × (Int × (Int × (Int × (Int × Int))))))) : Option T_30 :=
 Option.bind (r18 (a.2.1, (6 : Int))) fun (y3 : Int) =>
 Option.bind (r14 (a.1, a.2.2.1, a.2.2.2.1)) fun (y4 : (Int × Int)) =>
 Option.bind (
 bif decide ((Go.IntKind.wrap .i64 ((1 : Int) + y3)) = (1 : Int)) then
 Option.bind (r18 (a.2.2.2.2.1, (8 : Int))) fun (y37 : Int) =>
 Option.bind (r18 (a.2.2.2.2.2.1, (1073741824 : Int))) fun (y38 : Int) =>
 Option.bind (r18 (a.2.2.2.2.2.2, (9 : Int))) fun (y39 : Int) =>
 some ((), ((Go.IntKind.wrap .i64 ((1 : Int) + y3)), (y4.1, (y4.2, (y37, (y38, (y39, (false, []))))))))
 else
 Option.bind (
 bif decide ((Go.IntKind.wrap .i64 ((1 : Int) + y3)) = (2 : Int)) then
 some (decide ((Go.IntKind.wrap .i64 ((1 : Int) + y3)) = (2 : Int)))
 else
 some (decide ((Go.IntKind.wrap .i64 ((1 : Int) + y3)) = (6 : Int)))) fun (d40 : Bool) =>
 bif d40 then
 Option.bind (r18 (a.2.2.2.2.1, (2 : Int))) fun (y41 : Int) =>
 some ((), ((Go.IntKind.wrap .i64 ((1 : Int) + y3)), (y4.1, (y4.2, ((0 : Int), ((0 : Int), ((0 : Int), (decide (y41 = (1 : Int)), []))))))))
 else
 bif decide ((Go.IntKind.wrap .i64 ((1 : Int) + y3)) = (3 : Int)) then
 Option.bind (loopR (r21_L0 a) ((), ((0 : Int), ((Go.IntKind.wrap .i64 ((1 : Int) + y3)), (y4.1, (y4.2, ((0 : Int), ((0 : Int), ((0 : Int), (false, [])))))))))) fun (q52 : (Unit × (Int × (Int × (Int × (Int × (Int × (Int × (Bool × List Int))))))))) =>
 some ((), q52.2)
 else
 some ((), ((Go.IntKind.wrap .i64 ((1 : Int) + y3)), (y4.1, (y4.2, ((0 : Int), ((0 : Int), ((0 : Int), (false, []))))))))) fun (d53 : (Unit × (Int × (Int × (Int × (Int × (Int × (Int × (Bool × List Int))))))))) =>
 some (d53.2.1, ((d53.2.2.1, d53.2.2.2.1), d53.2.2.2.2))
def an21 : Ann := .two (.leaf) (.two (.draw 12) (.two (.join [4] [4] [⟨.normal, [], [.tmp 5 (.pt 5 [(0, 0)] 0 0 8), .box 5 [.int .i64, .int .i64, .int .i64, .int .i64, .int .i64, .int .i64, .bool, .sl .own (.int .i64)]]⟩] (.two (.leaf) (.one (.two (.leaf) (.two (.two (.leaf) (.two (.leaf) (.leaf))) (.two (.join [2, 3, 4, 5, 19] [2, 3, 4, 5] [⟨.normal, [], [.tmp 34 (.bool)]⟩] (.two (.leaf) (.two (.leaf) (.leaf)))) (.two (.leaf) (.two (.leaf) (.two (.two (.leaf) (.one (.loop [2, 3, 4] [2, 3, 4] [] [.tmp 5 (.pt 5 [(0, 0)] 0 0 8), .tmp 6 (.int .i64), .box 5 [.int .i64, .int .i64, .int .i64, .int .i64, .int .i64, .int .i64, .bool, .sl .own (.int .i64)]] [⟨.exit 1, [], [.tmp 5 (.pt 5 [(0, 0)] 0 0 8), .box 5 [.int .i64, .int .i64, .int .i64, .int .i64, .int .i64, .int .i64, .bool, .sl .own (.int .i64)]]⟩] (.two (.two (.leaf) (.two (.leaf) (.leaf))) (.two (.join [2, 3, 4, 6] [2, 3, 4] [⟨.normal, [], [.tmp 5 (.pt 5 [(0, 0)] 0 0 8), .box 5 [.int .i64, .int .i64, .int .i64, .int .i64, .int .i64, .int .i64, .bool, .sl .own (.int .i64)]]⟩] (.one (.two (.leaf) (.two (.leaf) (.leaf))))) (.leaf)))))) (.leaf)))))))))) (.two (.leaf) (.leaf))))
theorem s21 : SoundF cx.P cx.G 21 sg21 r21 := by
  have e : denF cx [(14, ⟨sg14, r14⟩), (18, ⟨sg18, r18⟩)] an21 Tryd.f21.ntmps (Tryd.f21.body.getD .skip) Tryd.f21.results.toList sg21 = r21 := by kernel_rfl
  rw [← e]
  exact sound_of_den (c := cx) (Known.cons (.ofF s14 (by kernel_rfl)) Tryd.func14 (by kernel_rfl) (by kernel_rfl) (Known.cons (.ofF s18 (by kernel_rfl)) Tryd.func18 (by kernel_rfl) (by kernel_rfl) (Known.nil))) Tryd.func21 (by kernel_rfl) (Nat.le_of_ble_eq_true (by kernel_rfl)) rfl

/-! reredos/reredoskeep.records -/
noncomputable def r15_L0 (a : (T_32 × (List ((Int × (Int × (Int × (Int × (Int × Int)))))) × Int))) (d7 : (Unit × (Int × List (T_30)))) : Option ((Unit × (Int × List (T_30))) ⊕ (Unit × List (T_30))) :=
 Option.bind (
 bif decide (d7.2.1 < (↑a.2.1.length : Int)) then
 some (decide (d7.2.1 < a.2.2))
 else
 some false) fun (d8 : Bool) =>
 bif d8 then
 Option.bind (idxI a.2.1 d7.2.1) fun (b11 : (Int × (Int × (Int × (Int × (Int × Int)))))) =>
 Option.bind (r21 (a.1, b11)) fun (y12 : T_30) =>
 bif roomOk false d7.2.2.length 1 80 then
 some (Sum.inl ((), ((Go.IntKind.wrap .i64 (d7.2.1 + (1 : Int))), app d7.2.2 [y12])))
 else
 none
 else
 some (Sum.inr ((), d7.2.2))
def sg15 : Sig := ⟨[⟨true, .bo, E_45⟩, ⟨false, .bo, (.sl E_43)⟩, ⟨false, .bo, (.int .i64)⟩], [⟨false, .own, (.sl E_41)⟩]⟩
noncomputable def r15 (a : (T_32 × (List ((Int × (Int × (Int × (Int × (Int × Int)))))) × Int))) : Option (List (T_30)) :=
 Option.bind (loopR (r15_L0 a) ((), ((0 : Int), []))) fun (q13 : (Unit × List (T_30))) =>
 some q13.2
def an15 : Ann := .two (.leaf) (.two (.leaf) (.two (.two (.leaf) (.one (.loop [1, 2, 3] [3] [(7, E_41)] [.tmp 7 (.own 7 [(0, 0)] E_41), .tmp 8 (.int .i64), .row 7 [.sl .own E_41]] [⟨.exit 0, [], [.tmp 7 (.own 7 [(0, 0)] E_41), .row 7 [.sl .own E_41]]⟩] (.two (.two (.join [1, 2, 3, 7, 8] [3, 7] [⟨.normal, [], [.tmp 18 (.bool)]⟩] (.leaf)) (.two (.leaf) (.leaf))) (.two (.one (.two (.draw 7) (.leaf))) (.leaf)))))) (.two (.leaf) (.leaf))))
theorem s15 : SoundF cx.P cx.G 15 sg15 r15 := by
  have e : denF cx [(21, ⟨sg21, r21⟩)] an15 Tryd.f15.ntmps (Tryd.f15.body.getD .skip) Tryd.f15.results.toList sg15 = r15 := by kernel_rfl
  rw [← e]
  exact sound_of_den (c := cx) (Known.cons (.ofF s21 (by kernel_rfl)) Tryd.func21 (by kernel_rfl) (by kernel_rfl) (Known.nil)) Tryd.func15 (by kernel_rfl) (Nat.le_of_ble_eq_true (by kernel_rfl)) rfl

/-! reredos/label.one -/
def sg68 : Sig := ⟨[⟨true, .bo, (.pair (.int .i64) (.int .i64))⟩], [⟨false, .own, .bool⟩]⟩
noncomputable def r68 (a : (Int × Int)) : Option Bool :=
 Option.bind (
 bif decide ((0 : Int) ≤ a.1) then
 some (decide (a.1 ≤ (9 : Int)))
 else
 some false) fun (g1 : Bool) =>
 Option.bind (
 bif g1 then
 some (decide ((0 : Int) ≤ a.2))
 else
 some false) fun (g2 : Bool) =>
 bif g2 then
 some (decide (a.2 ≤ (15 : Int)))
 else
 some false
def an68 : Ann := .two (.leaf) (.two (.segs [(8, ([1], ([1], [.tmp 10 (.bool)]))), (5, ([1], ([1], [.tmp 15 (.bool)])))]) (.leaf))
theorem s68 : SoundF cx.P cx.G 68 sg68 r68 := by
  have e : denF cx [] an68 Tryd.f68.ntmps (Tryd.f68.body.getD .skip) Tryd.f68.results.toList sg68 = r68 := by kernel_rfl
  rw [← e]
  exact sound_of_den (c := cx) (Known.nil) Tryd.func68 (by kernel_rfl) (Nat.le_of_ble_eq_true (by kernel_rfl)) rfl

/-! reredos/label.Check -/
noncomputable def r34_L0 (d3 : Int) (a : T_32) (b4 : (Int × Int)) (d6 : Int) : Option (Int ⊕ (Unit ⊕ Int)) :=
 bif decide (d6 < (↑((List.take (Int.toNat d3) a.2.1).length) : Int)) then
 Option.bind (idxI (List.take (Int.toNat d3) a.2.1) d6) fun (b7 : (Int × Int)) =>
 bif (decide (b7.1 = b4.1) && (decide (b7.2 = b4.2) && true)) then
 some (Sum.inr (Sum.inr (7 : Int)))
 else
 some (Sum.inl (Go.IntKind.wrap .i64 (d6 + (1 : Int))))
 else
 some (Sum.inr (Sum.inl ()))
noncomputable def r34_L1 (a : T_32) (d3 : Int) : Option (Int ⊕ (Unit ⊕ Int)) :=
 bif decide (d3 < (↑a.2.1.length : Int)) then
 Option.bind (idxI a.2.1 d3) fun (b4 : (Int × Int)) =>
 Option.bind (r68 b4) fun (y5 : Bool) =>
 bif !(y5) then
 some (Sum.inr (Sum.inr (2 : Int)))
 else
 bif okB none (some d3) none a.2.1.length then
 Option.bind (loopR (r34_L0 d3 a b4) (0 : Int)) fun (q8 : (Unit ⊕ Int)) =>
 Sum.elim (fun (_ : Unit) =>
 some (Sum.inl (Go.IntKind.wrap .i64 (d3 + (1 : Int)))))
 (fun (v10 : Int) =>
 some (Sum.inr (Sum.inr v10))) q8
 else
 none
 else
 some (Sum.inr (Sum.inl ()))
def sg34 : Sig := ⟨[⟨true, .bo, E_45⟩], [⟨false, .own, (.int .i64)⟩]⟩
noncomputable def r34 (a : T_32) : Option Int :=
 Option.bind (
 bif !(decide (a.1 < (1 : Int))) then
 some (decide ((4 : Int) < a.1))
 else
 some true) fun (d1 : Bool) =>
 bif d1 then
 some (2 : Int)
 else
 Option.bind (
 bif !(decide ((↑a.2.1.length : Int) < (1 : Int))) then
 some (decide ((6 : Int) < (↑a.2.1.length : Int)))
 else
 some true) fun (d2 : Bool) =>
 bif d2 then
 some (1 : Int)
 else
 Option.bind (loopR (r34_L1 a) (0 : Int)) fun (q11 : (Unit ⊕ Int)) =>
 Sum.elim (fun (_ : Unit) =>
 Option.bind (
 bif !(decide (a.2.2 < (1 : Int))) then
 some (decide ((1048576 : Int) < a.2.2))
 else
 some true) fun (d14 : Bool) =>
 bif d14 then
 some (2 : Int)
 else
 some (0 : Int))
 (fun (v13 : Int) =>
 some v13) q11
def an34 : Ann := .two (.leaf) (.two (.two (.join [1] [1] [⟨.normal, [], [.tmp 14 (.bool)]⟩] (.leaf)) (.two (.two (.leaf) (.leaf)) (.leaf))) (.two (.two (.join [1] [1] [⟨.normal, [], [.tmp 24 (.bool)]⟩] (.leaf)) (.two (.two (.leaf) (.leaf)) (.leaf))) (.two (.two (.leaf) (.one (.loop [1, 26, 27] [1] [] [.tmp 28 (.int .i64)] [⟨.exit 0, [], []⟩, ⟨.ret, [], [.tmp 2 (.int .i64)]⟩] (.two (.leaf) (.two (.two (.leaf) (.leaf)) (.two (.one (.two (.leaf) (.two (.two (.leaf) (.two (.two (.leaf) (.leaf)) (.leaf))) (.two (.leaf) (.one (.loop [1, 4, 26, 27, 28, 39, 40] [1, 4] [] [.tmp 41 (.int .i64)] [⟨.exit 2, [], []⟩, ⟨.ret, [], [.tmp 2 (.int .i64)]⟩] (.two (.leaf) (.two (.two (.leaf) (.leaf)) (.two (.one (.two (.leaf) (.two (.leaf) (.two (.two (.leaf) (.leaf)) (.leaf))))) (.leaf)))))))))) (.leaf))))))) (.two (.two (.join [] [] [⟨.normal, [], [.tmp 57 (.bool)]⟩] (.leaf)) (.two (.two (.leaf) (.leaf)) (.leaf))) (.two (.leaf) (.leaf))))))
theorem s34 : SoundF cx.P cx.G 34 sg34 r34 := by
  have e : denF cx [(68, ⟨sg68, r68⟩)] an34 Tryd.f34.ntmps (Tryd.f34.body.getD .skip) Tryd.f34.results.toList sg34 = r34 := by kernel_rfl
  rw [← e]
  exact sound_of_den (c := cx) (Known.cons (.ofF s68 (by kernel_rfl)) Tryd.func68 (by kernel_rfl) (by kernel_rfl) (Known.nil)) Tryd.func34 (by kernel_rfl) (Nat.le_of_ble_eq_true (by kernel_rfl)) rfl

/-! reredos/wire.txn -/
def sg61 : Sig := ⟨[⟨true, .bo, E_45⟩, ⟨true, .bo, (.pair (.int .i64) (.int .i64))⟩], [⟨false, .own, .bool⟩]⟩
noncomputable def r61 (a : (T_32 × (Int × Int))) : Option Bool :=
 Option.bind (
 bif decide ((0 : Int) ≤ a.2.1) then
 some (decide (a.2.1 < a.1.1))
 else
 some false) fun (g1 : Bool) =>
 Option.bind (
 bif g1 then
 some (decide ((1 : Int) ≤ a.2.2))
 else
 some false) fun (g2 : Bool) =>
 bif g2 then
 some (decide (a.2.2 ≤ (1048576 : Int)))
 else
 some false
def an61 : Ann := .two (.leaf) (.two (.segs [(10, ([3], ([3], [.tmp 14 (.bool)]))), (5, ([3], ([3], [.tmp 19 (.bool)])))]) (.leaf))
theorem s61 : SoundF cx.P cx.G 61 sg61 r61 := by
  have e : denF cx [] an61 Tryd.f61.ntmps (Tryd.f61.body.getD .skip) Tryd.f61.results.toList sg61 = r61 := by kernel_rfl
  rw [← e]
  exact sound_of_den (c := cx) (Known.nil) Tryd.func61 (by kernel_rfl) (Nat.le_of_ble_eq_true (by kernel_rfl)) rfl

/-! reredos/wire.key -/
def sg62 : Sig := ⟨[⟨false, .bo, (.int .i64)⟩], [⟨false, .own, .bool⟩]⟩
noncomputable def r62 (a : Int) : Option Bool :=
 bif decide ((0 : Int) ≤ a) then
 some (decide (a < (8 : Int)))
 else
 some false
def an62 : Ann := .two (.leaf) (.two (.leaf) (.leaf))
theorem s62 : SoundF cx.P cx.G 62 sg62 r62 := by
  have e : denF cx [] an62 Tryd.f62.ntmps (Tryd.f62.body.getD .skip) Tryd.f62.results.toList sg62 = r62 := by kernel_rfl
  rw [← e]
  exact sound_of_den (c := cx) (Known.nil) Tryd.func62 (by kernel_rfl) (Nat.le_of_ble_eq_true (by kernel_rfl)) rfl

/-! reredos/wire.value -/
def sg63 : Sig := ⟨[⟨false, .bo, (.int .i64)⟩], [⟨false, .own, .bool⟩]⟩
noncomputable def r63 (a : Int) : Option Bool :=
 bif decide ((0 : Int) ≤ a) then
 some (decide (a ≤ (1073741824 : Int)))
 else
 some false
def an63 : Ann := .two (.leaf) (.two (.leaf) (.leaf))
theorem s63 : SoundF cx.P cx.G 63 sg63 r63 := by
  have e : denF cx [] an63 Tryd.f63.ntmps (Tryd.f63.body.getD .skip) Tryd.f63.results.toList sg63 = r63 := by kernel_rfl
  rw [← e]
  exact sound_of_den (c := cx) (Known.nil) Tryd.func63 (by kernel_rfl) (Nat.le_of_ble_eq_true (by kernel_rfl)) rfl

/-! reredos/wire.ask -/
def sg64 : Sig := ⟨[⟨false, .bo, (.int .i64)⟩], [⟨false, .own, .bool⟩]⟩
noncomputable def r64 (a : Int) : Option Bool :=
 bif decide ((0 : Int) ≤ a) then
 some (decide (a ≤ (1048576 : Int)))
 else
 some false
def an64 : Ann := .two (.leaf) (.two (.leaf) (.leaf))
theorem s64 : SoundF cx.P cx.G 64 sg64 r64 := by
  have e : denF cx [] an64 Tryd.f64.ntmps (Tryd.f64.body.getD .skip) Tryd.f64.results.toList sg64 = r64 := by kernel_rfl
  rw [← e]
  exact sound_of_den (c := cx) (Known.nil) Tryd.func64 (by kernel_rfl) (Nat.le_of_ble_eq_true (by kernel_rfl)) rfl

/-! reredos/wire.CheckRecord -/
noncomputable def r35_L0 (a : (T_32 × T_30)) (d22 : Int) : Option (Int ⊕ (Unit ⊕ Int)) :=
 bif decide (d22 < (↑a.2.2.2.2.2.2.2.length : Int)) then
 Option.bind (idxI a.2.2.2.2.2.2.2 d22) fun (b23 : Int) =>
 Option.bind (
 Option.bind (
 bif !(decide (b23 < (0 : Int))) then
 some (decide (a.1.1 ≤ b23))
 else
 some true) fun (g28 : Bool) =>
 bif !(g28) then
 bif decide ((0 : Int) < d22) then
 Option.bind (idxI a.2.2.2.2.2.2.2 (Go.IntKind.wrap .i64 (d22 - (1 : Int)))) fun (b29 : Int) =>
 some (decide (b23 ≤ b29))
 else
 some false
 else
 some true) fun (d30 : Bool) =>
 bif d30 then
 some (Sum.inr (Sum.inr (2 : Int)))
 else
 some (Sum.inl (Go.IntKind.wrap .i64 (d22 + (1 : Int))))
 else
 some (Sum.inr (Sum.inl ()))
def sg35 : Sig := ⟨[⟨true, .bo, E_45⟩, ⟨true, .bo, (.pair (.int .i64) (.pair (.pair (.int .i64) (.int .i64)) (.pair (.int .i64) (.pair (.int .i64) (.pair (.int .i64) (.pair .bool (.sl (.int .i64))))))))⟩], [⟨false, .own, (.int .i64)⟩]⟩
noncomputable def r35 (a : (T_32 × T_30)) : Option Int :=
 Option.bind (r34 a.1) fun (y1 : Int) =>
 bif !(decide (y1 = (0 : Int))) then
 some y1
 else
 Option.bind (
 bif !(decide (a.2.1 < (1 : Int))) then
 some (decide ((6 : Int) < a.2.1))
 else
 some true) fun (d2 : Bool) =>
 bif d2 then
 some (3 : Int)
 else
 Option.bind (
 Option.bind (
 Option.bind (r61 (a.1, a.2.2.1)) fun (y15 : Bool) =>
 bif !(!(y15)) then
 Option.bind (r62 a.2.2.2.1) fun (y16 : Bool) =>
 some !(y16)
 else
 some true) fun (g17 : Bool) =>
 Option.bind (
 bif !(g17) then
 Option.bind (r63 a.2.2.2.2.1) fun (y18 : Bool) =>
 some !(y18)
 else
 some true) fun (g19 : Bool) =>
 bif !(g19) then
 Option.bind (r64 a.2.2.2.2.2.1) fun (y20 : Bool) =>
 some !(y20)
 else
 some true) fun (d21 : Bool) =>
 bif d21 then
 some (2 : Int)
 else
 Option.bind (loopR (r35_L0 a) (0 : Int)) fun (q31 : (Unit ⊕ Int)) =>
 Sum.elim (fun (_ : Unit) =>
 Option.bind (idxI tab1 a.2.1) fun (b34 : (Bool × (Bool × (Bool × (Bool × (Bool × (Bool × (Bool × Bool)))))))) =>
 Option.bind (
 Option.bind (
 bif !(b34.2.1) then
 some (!(decide (a.2.2.2.1 = (0 : Int))))
 else
 some false) fun (g43 : Bool) =>
 Option.bind (
 bif !(g43) then
 bif !(b34.2.2.1) then
 some (!(decide (a.2.2.2.2.1 = (0 : Int))))
 else
 some false
 else
 some true) fun (g44 : Bool) =>
 Option.bind (
 bif !(g44) then
 bif !(b34.2.2.2.2.1) then
 some (!(decide (a.2.2.2.2.2.1 = (0 : Int))))
 else
 some false
 else
 some true) fun (g45 : Bool) =>
 Option.bind (
 bif !(g45) then
 bif !(b34.2.2.2.2.2.1) then
 some a.2.2.2.2.2.2.1
 else
 some false
 else
 some true) fun (g46 : Bool) =>
 bif !(g46) then
 bif !(b34.2.2.2.2.2.2.2) then
 some (decide ((0 : Int) < (↑a.2.2.2.2.2.2.2.length : Int)))
 else
 some false
 else
 some true) fun (d47 : Bool) =>
 bif d47 then
 some (4 : Int)
 else
 some (0 : Int))
 (fun (v33 : Int) =>
 some v33) q31
def an35 : Ann := .two (.leaf) (.two (.two (.leaf) (.two (.leaf) (.two (.two (.leaf) (.leaf)) (.leaf)))) (.two (.two (.join [2, 3] [2, 3] [⟨.normal, [], [.tmp 21 (.bool)]⟩] (.leaf)) (.two (.two (.leaf) (.leaf)) (.leaf))) (.two (.two (.join [2, 3] [2, 3] [⟨.normal, [], [.tmp 44 (.bool)]⟩] (.segs [(11, ([2, 3], ([2, 3], [.tmp 32 (.bool)]))), (6, ([2, 3], ([2, 3], [.tmp 38 (.bool)])))])) (.two (.two (.leaf) (.leaf)) (.leaf))) (.two (.two (.leaf) (.one (.loop [2, 3, 46, 47] [2, 3] [] [.tmp 48 (.int .i64)] [⟨.exit 0, [], []⟩, ⟨.ret, [], [.tmp 4 (.int .i64)]⟩] (.two (.leaf) (.two (.two (.leaf) (.leaf)) (.two (.one (.two (.leaf) (.two (.join [2, 3, 46, 47, 48] [2, 3] [⟨.normal, [], [.tmp 74 (.bool)]⟩] (.segs [(8, ([2, 3, 6, 7, 46, 47, 48], ([2, 3], [.tmp 60 (.bool)])))])) (.two (.two (.leaf) (.leaf)) (.leaf))))) (.leaf))))))) (.two (.leaf) (.two (.two (.join [] [] [⟨.normal, [], [.tmp 127 (.bool)]⟩] (.segs [(8, ([3, 8], ([3, 8], [.tmp 87 (.bool)]))), (10, ([3, 8], ([3, 8], [.tmp 97 (.bool)]))), (10, ([3, 8], ([3, 8], [.tmp 107 (.bool)]))), (9, ([3, 8], ([3, 8], [.tmp 116 (.bool)])))])) (.two (.two (.leaf) (.leaf)) (.leaf))) (.two (.leaf) (.leaf))))))))
theorem s35 : SoundF cx.P cx.G 35 sg35 r35 := by
  have e : denF cx [(34, ⟨sg34, r34⟩), (61, ⟨sg61, r61⟩), (62, ⟨sg62, r62⟩), (63, ⟨sg63, r63⟩), (64, ⟨sg64, r64⟩)] an35 Tryd.f35.ntmps (Tryd.f35.body.getD .skip) Tryd.f35.results.toList sg35 = r35 := by kernel_rfl
  rw [← e]
  exact sound_of_den (c := cx) (Known.cons (.ofF s34 (by kernel_rfl)) Tryd.func34 (by kernel_rfl) (by kernel_rfl) (Known.cons (.ofF s61 (by kernel_rfl)) Tryd.func61 (by kernel_rfl) (by kernel_rfl) (Known.cons (.ofF s62 (by kernel_rfl)) Tryd.func62 (by kernel_rfl) (by kernel_rfl) (Known.cons (.ofF s63 (by kernel_rfl)) Tryd.func63 (by kernel_rfl) (by kernel_rfl) (Known.cons (.ofF s64 (by kernel_rfl)) Tryd.func64 (by kernel_rfl) (by kernel_rfl) (Known.nil)))))) Tryd.func35 (by kernel_rfl) (Nat.le_of_ble_eq_true (by kernel_rfl)) rfl

/-! reredos/store.items -/
noncomputable def r49_L0 (a : List ((Int × (Int × Int)))) (d1 : Int) : Option (Int ⊕ (Unit ⊕ Bool)) :=
 bif decide (d1 < (↑a.length : Int)) then
 Option.bind (idxI a d1) fun (b2 : (Int × (Int × Int))) =>
 Option.bind (
 Option.bind (
 bif !(decide (b2.1 < (0 : Int))) then
 some (decide ((8 : Int) ≤ b2.1))
 else
 some true) fun (g11 : Bool) =>
 Option.bind (
 bif !(g11) then
 some (decide (b2.2.1 < (0 : Int)))
 else
 some true) fun (g12 : Bool) =>
 Option.bind (
 bif !(g12) then
 some (decide ((1073741824 : Int) < b2.2.1))
 else
 some true) fun (g13 : Bool) =>
 Option.bind (
 bif !(g13) then
 some (decide (b2.2.2 < (1 : Int)))
 else
 some true) fun (g14 : Bool) =>
 bif !(g14) then
 some (decide ((1048576 : Int) < b2.2.2))
 else
 some true) fun (d15 : Bool) =>
 bif d15 then
 some (Sum.inr (Sum.inr false))
 else
 Option.bind (
 bif decide ((0 : Int) < d1) then
 Option.bind (idxI a (Go.IntKind.wrap .i64 (d1 - (1 : Int)))) fun (b21 : (Int × (Int × Int))) =>
 some (decide (b2.1 ≤ b21.1))
 else
 some false) fun (d22 : Bool) =>
 bif d22 then
 some (Sum.inr (Sum.inr false))
 else
 some (Sum.inl (Go.IntKind.wrap .i64 (d1 + (1 : Int))))
 else
 some (Sum.inr (Sum.inl ()))
def sg49 : Sig := ⟨[⟨false, .bo, (.sl E_47)⟩], [⟨false, .own, .bool⟩]⟩
noncomputable def r49 (a : List ((Int × (Int × Int)))) : Option Bool :=
 Option.bind (loopR (r49_L0 a) (0 : Int)) fun (q23 : (Unit ⊕ Bool)) =>
 Sum.elim (fun (_ : Unit) =>
 some true)
 (fun (v25 : Bool) =>
 some v25) q23
def an49 : Ann := .two (.leaf) (.two (.two (.leaf) (.one (.loop [0, 5, 6] [] [] [.tmp 7 (.int .i64)] [⟨.exit 0, [], []⟩, ⟨.ret, [], [.tmp 2 (.bool)]⟩] (.two (.leaf) (.two (.two (.leaf) (.leaf)) (.two (.one (.two (.leaf) (.two (.two (.join [0, 3, 4, 5, 6, 7] [4] [⟨.normal, [], [.tmp 39 (.bool)]⟩] (.segs [(8, ([0, 3, 4, 5, 6, 7], ([4], [.tmp 19 (.bool)]))), (5, ([0, 3, 4, 5, 6, 7], ([4], [.tmp 24 (.bool)]))), (5, ([0, 3, 4, 5, 6, 7], ([4], [.tmp 29 (.bool)]))), (5, ([0, 3, 4, 5, 6, 7], ([4], [.tmp 34 (.bool)])))])) (.two (.two (.leaf) (.leaf)) (.leaf))) (.two (.join [0, 5, 6, 7] [] [⟨.normal, [], [.tmp 52 (.bool)]⟩] (.draw 11)) (.two (.two (.leaf) (.leaf)) (.leaf)))))) (.leaf))))))) (.two (.leaf) (.leaf)))
theorem s49 : SoundF cx.P cx.G 49 sg49 r49 := by
  have e : denF cx [] an49 Tryd.f49.ntmps (Tryd.f49.body.getD .skip) Tryd.f49.results.toList sg49 = r49 := by kernel_rfl
  rw [← e]
  exact sound_of_den (c := cx) (Known.nil) Tryd.func49 (by kernel_rfl) (Nat.le_of_ble_eq_true (by kernel_rfl)) rfl

/-! slices.Index[[]reredos/api.Txn,reredos/api.Txn] -/
noncomputable def r85_L0 (a : (List ((Int × Int)) × (Int × Int))) (d1 : Int) : Option (Int ⊕ (Unit ⊕ Int)) :=
 bif decide (d1 < (↑a.1.length : Int)) then
 Option.bind (idxI a.1 d1) fun (b3 : (Int × Int)) =>
 bif (decide (a.2.1 = b3.1) && (decide (a.2.2 = b3.2) && true)) then
 some (Sum.inr (Sum.inr d1))
 else
 some (Sum.inl (Go.IntKind.wrap .i64 (d1 + (1 : Int))))
 else
 some (Sum.inr (Sum.inl ()))
def sg85 : Sig := ⟨[⟨false, .bo, (.sl (.pair (.int .i64) (.int .i64)))⟩, ⟨true, .bo, (.pair (.int .i64) (.int .i64))⟩], [⟨false, .own, (.int .i64)⟩]⟩
noncomputable def r85 (a : (List ((Int × Int)) × (Int × Int))) : Option Int :=
 Option.bind (loopR (r85_L0 a) (0 : Int)) fun (q4 : (Unit ⊕ Int)) =>
 Sum.elim (fun (_ : Unit) =>
 some (-1 : Int))
 (fun (v6 : Int) =>
 some v6) q4
def an85 : Ann := .two (.leaf) (.two (.two (.leaf) (.one (.loop [0, 3, 7] [3] [] [.tmp 8 (.int .i64)] [⟨.exit 0, [], []⟩, ⟨.ret, [], [.tmp 4 (.int .i64)]⟩] (.two (.leaf) (.two (.two (.leaf) (.leaf)) (.two (.one (.two (.leaf) (.two (.draw 5) (.two (.two (.leaf) (.leaf)) (.leaf))))) (.leaf))))))) (.two (.leaf) (.leaf)))
theorem s85 : SoundF cx.P cx.G 85 sg85 r85 := by
  have e : denF cx [] an85 Tryd.f85.ntmps (Tryd.f85.body.getD .skip) Tryd.f85.results.toList sg85 = r85 := by kernel_rfl
  rw [← e]
  exact sound_of_den (c := cx) (Known.nil) Tryd.func85 (by kernel_rfl) (Nat.le_of_ble_eq_true (by kernel_rfl)) rfl

/-! slices.Contains[[]reredos/api.Txn,reredos/api.Txn] -/
def sg45 : Sig := ⟨[⟨false, .bo, (.sl (.pair (.int .i64) (.int .i64)))⟩, ⟨true, .bo, (.pair (.int .i64) (.int .i64))⟩], [⟨false, .own, .bool⟩]⟩
noncomputable def r45 (a : (List ((Int × Int)) × (Int × Int))) : Option Bool :=
 Option.bind (r85 (a.1, a.2)) fun (y1 : Int) =>
 some (decide ((0 : Int) ≤ y1))
def an45 : Ann := .two (.leaf) (.two (.leaf) (.leaf))
theorem s45 : SoundF cx.P cx.G 45 sg45 r45 := by
  have e : denF cx [(85, ⟨sg85, r85⟩)] an45 Tryd.f45.ntmps (Tryd.f45.body.getD .skip) Tryd.f45.results.toList sg45 = r45 := by kernel_rfl
  rw [← e]
  exact sound_of_den (c := cx) (Known.cons (.ofF s85 (by kernel_rfl)) Tryd.func85 (by kernel_rfl) (by kernel_rfl) (Known.nil)) Tryd.func45 (by kernel_rfl) (Nat.le_of_ble_eq_true (by kernel_rfl)) rfl

/-! reredos/store.txn -/
def sg73 : Sig := ⟨[⟨true, .bo, (.pair (.int .i64) (.int .i64))⟩], [⟨false, .own, .bool⟩]⟩
noncomputable def r73 (a : (Int × Int)) : Option Bool :=
 Option.bind (
 bif decide ((0 : Int) ≤ a.1) then
 some (decide (a.1 < (4 : Int)))
 else
 some false) fun (g1 : Bool) =>
 Option.bind (
 bif g1 then
 some (decide ((1 : Int) ≤ a.2))
 else
 some false) fun (g2 : Bool) =>
 bif g2 then
 some (decide (a.2 ≤ (1048576 : Int)))
 else
 some false
def an73 : Ann := .two (.leaf) (.two (.segs [(8, ([1], ([1], [.tmp 10 (.bool)]))), (5, ([1], ([1], [.tmp 15 (.bool)])))]) (.leaf))
theorem s73 : SoundF cx.P cx.G 73 sg73 r73 := by
  have e : denF cx [] an73 Tryd.f73.ntmps (Tryd.f73.body.getD .skip) Tryd.f73.results.toList sg73 = r73 := by kernel_rfl
  rw [← e]
  exact sound_of_den (c := cx) (Known.nil) Tryd.func73 (by kernel_rfl) (Nat.le_of_ble_eq_true (by kernel_rfl)) rfl

/-! reredos/store.doubts -/
noncomputable def r50_L0 (a : T_26) (b2 : ((Int × Int) × Int)) (d26 : Int) : Option (Int ⊕ (Unit ⊕ Int)) :=
 bif decide (d26 < (↑a.2.1.length : Int)) then
 Option.bind (idxI a.2.1 d26) fun (b27 : T_31) =>
 bif (decide (b27.1.1 = b2.1.1) && (decide (b27.1.2 = b2.1.2) && true)) then
 some (Sum.inr (Sum.inr d26))
 else
 some (Sum.inl (Go.IntKind.wrap .i64 (d26 + (1 : Int))))
 else
 some (Sum.inr (Sum.inl ()))
noncomputable def r50_L1 (d1 : Int) (a : T_26) (b2 : ((Int × Int) × Int)) (d32 : Int) : Option (Int ⊕ (Unit ⊕ Bool)) :=
 bif decide (d32 < (↑((List.take (Int.toNat d1) a.2.2.1).length) : Int)) then
 Option.bind (idxI (List.take (Int.toNat d1) a.2.2.1) d32) fun (b33 : ((Int × Int) × Int)) =>
 bif (decide (b33.1.1 = b2.1.1) && (decide (b33.1.2 = b2.1.2) && true)) then
 some (Sum.inr (Sum.inr false))
 else
 some (Sum.inl (Go.IntKind.wrap .i64 (d32 + (1 : Int))))
 else
 some (Sum.inr (Sum.inl ()))
noncomputable def r50_L2 (a : T_26) (d1 : Int) : Option (Int ⊕ (Unit ⊕ Bool)) :=
 bif decide (d1 < (↑a.2.2.1.length : Int)) then
 Option.bind (idxI a.2.2.1 d1) fun (b2 : ((Int × Int) × Int)) =>
 Option.bind (
 Option.bind (
 Option.bind (r73 b2.1) fun (y11 : Bool) =>
 bif !(!(y11)) then
 some (decide (b2.2 < (0 : Int)))
 else
 some true) fun (g12 : Bool) =>
 Option.bind (
 bif !(g12) then
 some (decide ((1048576 : Int) < b2.2))
 else
 some true) fun (g13 : Bool) =>
 bif !(g13) then
 Option.bind (r45 (a.2.2.2, b2.1)) fun (y14 : Bool) =>
 some y14
 else
 some true) fun (d15 : Bool) =>
 bif d15 then
 some (Sum.inr (Sum.inr false))
 else
 Option.bind (
 Option.bind (loopR (r50_L0 a b2) (0 : Int)) fun (q28 : (Unit ⊕ Int)) =>
 Sum.elim (fun (_ : Unit) =>
 some (-1 : Int))
 (fun (v30 : Int) =>
 some v30) q28) fun (d31 : Int) =>
 bif !(decide ((0 : Int) ≤ d31)) then
 some (Sum.inr (Sum.inr false))
 else
 bif okB none (some d1) none a.2.2.1.length then
 Option.bind (loopR (r50_L1 d1 a b2) (0 : Int)) fun (q34 : (Unit ⊕ Bool)) =>
 Sum.elim (fun (_ : Unit) =>
 some (Sum.inl (Go.IntKind.wrap .i64 (d1 + (1 : Int)))))
 (fun (v36 : Bool) =>
 some (Sum.inr (Sum.inr v36))) q34
 else
 none
 else
 some (Sum.inr (Sum.inl ()))
noncomputable def r50_L3 (a : T_26) (d40 : Int) : Option (Int ⊕ (Unit ⊕ Bool)) :=
 bif decide (d40 < (↑a.2.2.2.length : Int)) then
 Option.bind (idxI a.2.2.2 d40) fun (b41 : (Int × Int)) =>
 Option.bind (
 Option.bind (r73 b41) fun (y52 : Bool) =>
 bif !(!(y52)) then
 bif okB none (some d40) none a.2.2.2.length then
 Option.bind (r45 (List.take (Int.toNat d40) a.2.2.2, b41)) fun (y53 : Bool) =>
 some y53
 else
 none
 else
 some true) fun (d54 : Bool) =>
 bif d54 then
 some (Sum.inr (Sum.inr false))
 else
 some (Sum.inl (Go.IntKind.wrap .i64 (d40 + (1 : Int))))
 else
 some (Sum.inr (Sum.inl ()))
def sg50 : Sig := ⟨[⟨true, .bo, E_37⟩], [⟨false, .own, .bool⟩]⟩
noncomputable def r50 (a : T_26) : Option Bool :=
 Option.bind (loopR (r50_L2 a) (0 : Int)) fun (q37 : (Unit ⊕ Bool)) =>
 Sum.elim (fun (_ : Unit) =>
 Option.bind (loopR (r50_L3 a) (0 : Int)) fun (q55 : (Unit ⊕ Bool)) =>
 Sum.elim (fun (_ : Unit) =>
 some true)
 (fun (v57 : Bool) =>
 some v57) q55)
 (fun (v39 : Bool) =>
 some v39) q37
def an50 : Ann := .two (.leaf) (.two (.two (.leaf) (.one (.loop [1, 10, 11] [1] [] [.tmp 12 (.int .i64)] [⟨.exit 0, [], []⟩, ⟨.ret, [], [.tmp 2 (.bool)]⟩] (.two (.leaf) (.two (.two (.leaf) (.leaf)) (.two (.one (.two (.leaf) (.two (.two (.join [1, 3, 4, 10, 11, 12] [1, 4] [⟨.normal, [], [.tmp 37 (.bool)]⟩] (.segs [(9, ([1, 3, 4, 10, 11, 12], ([1, 4], [.tmp 25 (.bool)]))), (5, ([1, 3, 4, 10, 11, 12], ([1, 4], [.tmp 30 (.bool)])))])) (.two (.two (.leaf) (.leaf)) (.leaf))) (.two (.two (.inl 3 79 (.two (.leaf) (.two (.inl 2 88 (.join [1, 3, 4, 10, 11, 12] [1, 4] [⟨.ret, [], [.tmp 92 (.int .i64)]⟩] (.two (.leaf) (.two (.two (.leaf) (.one (.loop [1, 3, 4, 10, 11, 12, 88, 89, 95] [1, 4] [] [.tmp 96 (.int .i64)] [⟨.exit 0, [], []⟩, ⟨.ret, [], [.tmp 92 (.int .i64)]⟩] (.two (.leaf) (.two (.two (.leaf) (.leaf)) (.two (.one (.two (.leaf) (.two (.inl 5 107 (.two (.leaf) (.two (.leaf) (.leaf))) (.leaf)) (.two (.two (.leaf) (.leaf)) (.leaf))))) (.leaf))))))) (.two (.leaf) (.leaf))))) (.leaf)) (.leaf))) (.leaf)) (.two (.two (.leaf) (.leaf)) (.leaf))) (.two (.leaf) (.one (.loop [1, 4, 10, 11, 12, 46, 47] [1, 4] [] [.tmp 48 (.int .i64)] [⟨.exit 2, [], []⟩, ⟨.ret, [], [.tmp 2 (.bool)]⟩] (.two (.leaf) (.two (.two (.leaf) (.leaf)) (.two (.one (.two (.leaf) (.two (.leaf) (.two (.two (.leaf) (.leaf)) (.leaf))))) (.leaf))))))))))) (.leaf))))))) (.two (.two (.leaf) (.one (.loop [1, 60, 61] [1] [] [.tmp 62 (.int .i64)] [⟨.exit 4, [], []⟩, ⟨.ret, [], [.tmp 2 (.bool)]⟩] (.two (.leaf) (.two (.two (.leaf) (.leaf)) (.two (.one (.two (.leaf) (.two (.join [1, 60, 61, 62] [1] [⟨.normal, [], [.tmp 77 (.bool)]⟩] (.draw 9)) (.two (.two (.leaf) (.leaf)) (.leaf))))) (.leaf))))))) (.two (.leaf) (.leaf))))
theorem s50 : SoundF cx.P cx.G 50 sg50 r50 := by
  have e : denF cx [(45, ⟨sg45, r45⟩), (73, ⟨sg73, r73⟩)] an50 Tryd.f50.ntmps (Tryd.f50.body.getD .skip) Tryd.f50.results.toList sg50 = r50 := by kernel_rfl
  rw [← e]
  exact sound_of_den (c := cx) (Known.cons (.ofF s45 (by kernel_rfl)) Tryd.func45 (by kernel_rfl) (by kernel_rfl) (Known.cons (.ofF s73 (by kernel_rfl)) Tryd.func73 (by kernel_rfl) (by kernel_rfl) (Known.nil))) Tryd.func50 (by kernel_rfl) (Nat.le_of_ble_eq_true (by kernel_rfl)) rfl

/-! reredos/store.doubted -/
noncomputable def r90_L0 (a : T_23) (d11 : Int) : Option (Int ⊕ (Unit ⊕ Int)) :=
 bif decide (d11 < (↑a.1.2.2.1.length : Int)) then
 Option.bind (idxI a.1.2.2.1 d11) fun (b12 : ((Int × Int) × Int)) =>
 bif (decide (b12.1.1 = a.2.1) && (decide (b12.1.2 = a.2.2) && true)) then
 some (Sum.inr (Sum.inr d11))
 else
 some (Sum.inl (Go.IntKind.wrap .i64 (d11 + (1 : Int))))
 else
 some (Sum.inr (Sum.inl ()))
def sg90 : Sig := ⟨[⟨true, .bo, E_37⟩, ⟨true, .bo, (.pair (.int .i64) (.int .i64))⟩], [⟨false, .own, .bool⟩]⟩
noncomputable def r90 (a : T_23) : Option Bool :=
 Option.bind (
 Option.bind (loopR (r90_L0 a) (0 : Int)) fun (q13 : (Unit ⊕ Int)) =>
 Sum.elim (fun (_ : Unit) =>
 some (-1 : Int))
 (fun (v15 : Int) =>
 some v15) q13) fun (d16 : Int) =>
 some (decide ((0 : Int) ≤ d16))
def an90 : Ann := .two (.leaf) (.two (.inl 3 9 (.two (.leaf) (.two (.inl 2 18 (.join [] [] [⟨.ret, [], [.tmp 22 (.int .i64)]⟩] (.two (.leaf) (.two (.two (.leaf) (.one (.loop [18, 19, 25] [3] [] [.tmp 26 (.int .i64)] [⟨.exit 0, [], []⟩, ⟨.ret, [], [.tmp 22 (.int .i64)]⟩] (.two (.leaf) (.two (.two (.leaf) (.leaf)) (.two (.one (.two (.leaf) (.two (.inl 5 37 (.two (.leaf) (.two (.leaf) (.leaf))) (.leaf)) (.two (.two (.leaf) (.leaf)) (.leaf))))) (.leaf))))))) (.two (.leaf) (.leaf))))) (.leaf)) (.leaf))) (.leaf)) (.leaf))
theorem s90 : SoundF cx.P cx.G 90 sg90 r90 := by
  have e : denF cx [] an90 Tryd.f90.ntmps (Tryd.f90.body.getD .skip) Tryd.f90.results.toList sg90 = r90 := by kernel_rfl
  rw [← e]
  exact sound_of_den (c := cx) (Known.nil) Tryd.func90 (by kernel_rfl) (Nat.le_of_ble_eq_true (by kernel_rfl)) rfl

/-! reredos/store.locks -/
noncomputable def r51_L0 (d1 : Int) (a : T_26) (b2 : T_31) (d25 : Int) : Option (Int ⊕ (Unit ⊕ Bool)) :=
 bif decide (d25 < (↑((List.take (Int.toNat d1) a.2.1).length) : Int)) then
 Option.bind (idxI (List.take (Int.toNat d1) a.2.1) d25) fun (b26 : T_31) =>
 Option.bind (
 bif decide (b26.2.1 = b2.2.1) then
 bif !((decide (b26.1.1 = b2.1.1) && (decide (b26.1.2 = b2.1.2) && true))) then
 bif !(b26.2.2.1) then
 some b2.2.2.1
 else
 some true
 else
 some true
 else
 some false) fun (d27 : Bool) =>
 bif d27 then
 some (Sum.inr (Sum.inr false))
 else
 some (Sum.inl (Go.IntKind.wrap .i64 (d25 + (1 : Int))))
 else
 some (Sum.inr (Sum.inl ()))
noncomputable def r51_L1 (a : T_26) (d1 : Int) : Option (Int ⊕ (Unit ⊕ Bool)) :=
 bif decide (d1 < (↑a.2.1.length : Int)) then
 Option.bind (idxI a.2.1 d1) fun (b2 : T_31) =>
 Option.bind (
 Option.bind (
 Option.bind (r90 (a, b2.1)) fun (y17 : Bool) =>
 bif !(!(y17)) then
 some (decide (b2.2.1 < (0 : Int)))
 else
 some true) fun (g18 : Bool) =>
 Option.bind (
 bif !(g18) then
 some (decide ((8 : Int) ≤ b2.2.1))
 else
 some true) fun (g19 : Bool) =>
 Option.bind (
 bif !(g19) then
 some (decide (b2.2.2.2.1 < (0 : Int)))
 else
 some true) fun (g20 : Bool) =>
 Option.bind (
 bif !(g20) then
 some (decide ((1073741824 : Int) < b2.2.2.2.1))
 else
 some true) fun (g21 : Bool) =>
 Option.bind (
 bif !(g21) then
 some (decide (b2.2.2.2.2 < (0 : Int)))
 else
 some true) fun (g22 : Bool) =>
 Option.bind (
 bif !(g22) then
 some (decide ((1048576 : Int) < b2.2.2.2.2))
 else
 some true) fun (g23 : Bool) =>
 bif !(g23) then
 bif !(b2.2.2.1) then
 some (!(decide ((Go.IntKind.wrap .i64 (b2.2.2.2.1 + b2.2.2.2.2)) = (0 : Int))))
 else
 some false
 else
 some true) fun (d24 : Bool) =>
 bif d24 then
 some (Sum.inr (Sum.inr false))
 else
 bif okB none (some d1) none a.2.1.length then
 Option.bind (loopR (r51_L0 d1 a b2) (0 : Int)) fun (q28 : (Unit ⊕ Bool)) =>
 Sum.elim (fun (_ : Unit) =>
 some (Sum.inl (Go.IntKind.wrap .i64 (d1 + (1 : Int)))))
 (fun (v30 : Bool) =>
 some (Sum.inr (Sum.inr v30))) q28
 else
 none
 else
 some (Sum.inr (Sum.inl ()))
def sg51 : Sig := ⟨[⟨true, .bo, E_37⟩], [⟨false, .own, .bool⟩]⟩
noncomputable def r51 (a : T_26) : Option Bool :=
 Option.bind (loopR (r51_L1 a) (0 : Int)) fun (q31 : (Unit ⊕ Bool)) =>
 Sum.elim (fun (_ : Unit) =>
 some (decide ((↑a.2.1.length : Int) ≤ (24 : Int))))
 (fun (v33 : Bool) =>
 some v33) q31
def an51 : Ann := .two (.leaf) (.two (.two (.leaf) (.one (.loop [1, 8, 9] [1] [] [.tmp 10 (.int .i64)] [⟨.exit 0, [], []⟩, ⟨.ret, [], [.tmp 2 (.bool)]⟩] (.two (.leaf) (.two (.two (.leaf) (.leaf)) (.two (.one (.two (.leaf) (.two (.two (.join [1, 3, 4, 8, 9, 10] [1, 4] [⟨.normal, [], [.tmp 62 (.bool)]⟩] (.segs [(10, ([1, 3, 4, 8, 9, 10], ([1, 4], [.tmp 24 (.bool)]))), (5, ([1, 3, 4, 8, 9, 10], ([1, 4], [.tmp 29 (.bool)]))), (5, ([1, 3, 4, 8, 9, 10], ([1, 4], [.tmp 34 (.bool)]))), (5, ([1, 3, 4, 8, 9, 10], ([1, 4], [.tmp 39 (.bool)]))), (5, ([1, 3, 4, 8, 9, 10], ([1, 4], [.tmp 44 (.bool)]))), (5, ([1, 3, 4, 8, 9, 10], ([1, 4], [.tmp 49 (.bool)])))])) (.two (.two (.leaf) (.leaf)) (.leaf))) (.two (.leaf) (.one (.loop [1, 4, 8, 9, 10, 66, 67] [1, 4] [] [.tmp 68 (.int .i64)] [⟨.exit 2, [], []⟩, ⟨.ret, [], [.tmp 2 (.bool)]⟩] (.two (.leaf) (.two (.two (.leaf) (.leaf)) (.two (.one (.two (.leaf) (.two (.join [1, 4, 8, 9, 10, 66, 67, 68] [1, 4] [⟨.normal, [], [.tmp 91 (.bool)]⟩] (.leaf)) (.two (.two (.leaf) (.leaf)) (.leaf))))) (.leaf)))))))))) (.leaf))))))) (.two (.leaf) (.leaf)))
theorem s51 : SoundF cx.P cx.G 51 sg51 r51 := by
  have e : denF cx [(90, ⟨sg90, r90⟩)] an51 Tryd.f51.ntmps (Tryd.f51.body.getD .skip) Tryd.f51.results.toList sg51 = r51 := by kernel_rfl
  rw [← e]
  exact sound_of_den (c := cx) (Known.cons (.ofF s90 (by kernel_rfl)) Tryd.func90 (by kernel_rfl) (by kernel_rfl) (Known.nil)) Tryd.func51 (by kernel_rfl) (Nat.le_of_ble_eq_true (by kernel_rfl)) rfl

/-! reredos/store.Check -/
def sg24 : Sig := ⟨[⟨true, .bo, E_37⟩], [⟨false, .own, (.int .i64)⟩]⟩
noncomputable def r24 (a : T_26) : Option Int :=
 Option.bind (
 Option.bind (
 Option.bind (r49 a.1) fun (y9 : Bool) =>
 bif !(!(y9)) then
 Option.bind (r50 a) fun (y10 : Bool) =>
 some !(y10)
 else
 some true) fun (g11 : Bool) =>
 bif !(g11) then
 Option.bind (r51 a) fun (y12 : Bool) =>
 some !(y12)
 else
 some true) fun (d13 : Bool) =>
 bif d13 then
 some (9 : Int)
 else
 some (0 : Int)
def an24 : Ann := .two (.leaf) (.two (.two (.join [] [] [⟨.normal, [], [.tmp 16 (.bool)]⟩] (.segs [(9, ([1], ([1], [.tmp 11 (.bool)])))])) (.two (.two (.leaf) (.leaf)) (.leaf))) (.two (.leaf) (.leaf)))
theorem s24 : SoundF cx.P cx.G 24 sg24 r24 := by
  have e : denF cx [(49, ⟨sg49, r49⟩), (50, ⟨sg50, r50⟩), (51, ⟨sg51, r51⟩)] an24 Tryd.f24.ntmps (Tryd.f24.body.getD .skip) Tryd.f24.results.toList sg24 = r24 := by kernel_rfl
  rw [← e]
  exact sound_of_den (c := cx) (Known.cons (.ofF s49 (by kernel_rfl)) Tryd.func49 (by kernel_rfl) (by kernel_rfl) (Known.cons (.ofF s50 (by kernel_rfl)) Tryd.func50 (by kernel_rfl) (by kernel_rfl) (Known.cons (.ofF s51 (by kernel_rfl)) Tryd.func51 (by kernel_rfl) (by kernel_rfl) (Known.nil)))) Tryd.func24 (by kernel_rfl) (Nat.le_of_ble_eq_true (by kernel_rfl)) rfl

/-! reredos/store.call -/
def sg37 : Sig := ⟨[⟨true, .bo, E_37⟩, ⟨true, .bo, (.pair (.int .i64) (.int .i64))⟩, ⟨false, .bo, (.int .i64)⟩], [⟨false, .own, (.int .i64)⟩]⟩
noncomputable def r37 (a : (T_26 × ((Int × Int) × Int))) : Option Int :=
 Option.bind (r24 a.1) fun (y1 : Int) =>
 bif !(decide (y1 = (0 : Int))) then
 some y1
 else
 Option.bind (
 Option.bind (
 Option.bind (r73 a.2.1) fun (y6 : Bool) =>
 bif !(!(y6)) then
 some (decide (a.2.2 < (0 : Int)))
 else
 some true) fun (g7 : Bool) =>
 bif !(g7) then
 some (decide ((8 : Int) ≤ a.2.2))
 else
 some true) fun (d8 : Bool) =>
 bif d8 then
 some (2 : Int)
 else
 some (0 : Int)
def an37 : Ann := .two (.leaf) (.two (.two (.leaf) (.two (.leaf) (.two (.two (.leaf) (.leaf)) (.leaf)))) (.two (.two (.join [] [] [⟨.normal, [], [.tmp 23 (.bool)]⟩] (.segs [(7, ([2], ([], [.tmp 19 (.bool)])))])) (.two (.two (.leaf) (.leaf)) (.leaf))) (.two (.leaf) (.leaf))))
theorem s37 : SoundF cx.P cx.G 37 sg37 r37 := by
  have e : denF cx [(24, ⟨sg24, r24⟩), (73, ⟨sg73, r73⟩)] an37 Tryd.f37.ntmps (Tryd.f37.body.getD .skip) Tryd.f37.results.toList sg37 = r37 := by kernel_rfl
  rw [← e]
  exact sound_of_den (c := cx) (Known.cons (.ofF s24 (by kernel_rfl)) Tryd.func24 (by kernel_rfl) (by kernel_rfl) (Known.cons (.ofF s73 (by kernel_rfl)) Tryd.func73 (by kernel_rfl) (by kernel_rfl) (Known.nil))) Tryd.func37 (by kernel_rfl) (Nat.le_of_ble_eq_true (by kernel_rfl)) rfl

/-! slices.Clone[[]reredos/api.Item,reredos/api.Item] -/
def sg74 : Sig := ⟨[⟨false, .bo, (.sl E_47)⟩], [⟨false, .own, (.sl E_47)⟩]⟩
noncomputable def r74 (a : List ((Int × (Int × Int)))) : Option (List ((Int × (Int × Int)))) :=
 nilR a fun (n1 : Bool) =>
 bif n1 then
 some []
 else
 bif roomOk false 0 a.length 24 then
 some a
 else
 none
def an74 : Ann := .two (.leaf) (.two (.two (.leaf) (.two (.two (.leaf) (.leaf)) (.leaf))) (.two (.leaf) (.leaf)))
theorem s74 : SoundF cx.P cx.G 74 sg74 r74 := by
  have e : denF cx [] an74 Tryd.f74.ntmps (Tryd.f74.body.getD .skip) Tryd.f74.results.toList sg74 = r74 := by kernel_rfl
  rw [← e]
  exact sound_of_den (c := cx) (Known.nil) Tryd.func74 (by kernel_rfl) (Nat.le_of_ble_eq_true (by kernel_rfl)) rfl

/-! slices.Clone[[]reredos/api.Lock,reredos/api.Lock] -/
def sg75 : Sig := ⟨[⟨false, .bo, (.sl E_44)⟩], [⟨false, .own, (.sl E_44)⟩]⟩
noncomputable def r75 (a : List (T_31)) : Option (List (T_31)) :=
 nilR a fun (n1 : Bool) =>
 bif n1 then
 some []
 else
 bif roomOk false 0 a.length 48 then
 some a
 else
 none
def an75 : Ann := .two (.leaf) (.two (.two (.leaf) (.two (.two (.leaf) (.leaf)) (.leaf))) (.two (.leaf) (.leaf)))
theorem s75 : SoundF cx.P cx.G 75 sg75 r75 := by
  have e : denF cx [] an75 Tryd.f75.ntmps (Tryd.f75.body.getD .skip) Tryd.f75.results.toList sg75 = r75 := by kernel_rfl
  rw [← e]
  exact sound_of_den (c := cx) (Known.nil) Tryd.func75 (by kernel_rfl) (Nat.le_of_ble_eq_true (by kernel_rfl)) rfl

/-! slices.Clone[[]reredos/api.Doubt,reredos/api.Doubt] -/
def sg76 : Sig := ⟨[⟨false, .bo, (.sl E_48)⟩], [⟨false, .own, (.sl E_48)⟩]⟩
noncomputable def r76 (a : List (((Int × Int) × Int))) : Option (List (((Int × Int) × Int))) :=
 nilR a fun (n1 : Bool) =>
 bif n1 then
 some []
 else
 bif roomOk false 0 a.length 24 then
 some a
 else
 none
def an76 : Ann := .two (.leaf) (.two (.two (.leaf) (.two (.two (.leaf) (.leaf)) (.leaf))) (.two (.leaf) (.leaf)))
theorem s76 : SoundF cx.P cx.G 76 sg76 r76 := by
  have e : denF cx [] an76 Tryd.f76.ntmps (Tryd.f76.body.getD .skip) Tryd.f76.results.toList sg76 = r76 := by kernel_rfl
  rw [← e]
  exact sound_of_den (c := cx) (Known.nil) Tryd.func76 (by kernel_rfl) (Nat.le_of_ble_eq_true (by kernel_rfl)) rfl

/-! slices.Clone[[]reredos/api.Txn,reredos/api.Txn] -/
def sg77 : Sig := ⟨[⟨false, .bo, (.sl (.pair (.int .i64) (.int .i64)))⟩], [⟨false, .own, (.sl (.pair (.int .i64) (.int .i64)))⟩]⟩
noncomputable def r77 (a : List ((Int × Int))) : Option (List ((Int × Int))) :=
 nilR a fun (n1 : Bool) =>
 bif n1 then
 some []
 else
 bif roomOk false 0 a.length 16 then
 some a
 else
 none
def an77 : Ann := .two (.leaf) (.two (.two (.leaf) (.two (.two (.leaf) (.leaf)) (.leaf))) (.two (.leaf) (.leaf)))
theorem s77 : SoundF cx.P cx.G 77 sg77 r77 := by
  have e : denF cx [] an77 Tryd.f77.ntmps (Tryd.f77.body.getD .skip) Tryd.f77.results.toList sg77 = r77 := by kernel_rfl
  rw [← e]
  exact sound_of_den (c := cx) (Known.nil) Tryd.func77 (by kernel_rfl) (Nat.le_of_ble_eq_true (by kernel_rfl)) rfl

/-! reredos/store.own -/
def sg38 : Sig := ⟨[⟨true, .bo, E_37⟩], [⟨true, .own, E_37⟩]⟩
noncomputable def r38 (a : T_26) : Option T_26 :=
 Option.bind (r74 a.1) fun (y5 : List ((Int × (Int × Int)))) =>
 Option.bind (r75 a.2.1) fun (y6 : List (T_31)) =>
 Option.bind (r76 a.2.2.1) fun (y7 : List (((Int × Int) × Int))) =>
 Option.bind (r77 a.2.2.2) fun (y8 : List ((Int × Int))) =>
 some (y5, (y6, (y7, y8)))
def an38 : Ann := .two (.leaf) (.two (.draw 11) (.leaf))
theorem s38 : SoundF cx.P cx.G 38 sg38 r38 := by
  have e : denF cx [(74, ⟨sg74, r74⟩), (75, ⟨sg75, r75⟩), (76, ⟨sg76, r76⟩), (77, ⟨sg77, r77⟩)] an38 Tryd.f38.ntmps (Tryd.f38.body.getD .skip) Tryd.f38.results.toList sg38 = r38 := by kernel_rfl
  rw [← e]
  exact sound_of_den (c := cx) (Known.cons (.ofF s74 (by kernel_rfl)) Tryd.func74 (by kernel_rfl) (by kernel_rfl) (Known.cons (.ofF s75 (by kernel_rfl)) Tryd.func75 (by kernel_rfl) (by kernel_rfl) (Known.cons (.ofF s76 (by kernel_rfl)) Tryd.func76 (by kernel_rfl) (by kernel_rfl) (Known.cons (.ofF s77 (by kernel_rfl)) Tryd.func77 (by kernel_rfl) (by kernel_rfl) (Known.nil))))) Tryd.func38 (by kernel_rfl) (Nat.le_of_ble_eq_true (by kernel_rfl)) rfl

/-! reredos/store.busy -/
noncomputable def r46_L0 (a : (T_26 × ((Int × Int) × (Int × Bool)))) (d19 : Int) : Option (Int ⊕ (Unit ⊕ Int)) :=
 bif decide (d19 < (↑a.1.2.1.length : Int)) then
 Option.bind (idxI a.1.2.1 d19) fun (b20 : T_31) =>
 Option.bind (
 Option.bind (
 bif decide (b20.2.1 = a.2.2.1) then
 some (!((decide (b20.1.1 = a.2.1.1) && (decide (b20.1.2 = a.2.1.2) && true))))
 else
 some false) fun (g23 : Bool) =>
 bif g23 then
 bif !(a.2.2.2) then
 some b20.2.2.1
 else
 some true
 else
 some false) fun (d24 : Bool) =>
 bif d24 then
 some (Sum.inr (Sum.inr d19))
 else
 some (Sum.inl (Go.IntKind.wrap .i64 (d19 + (1 : Int))))
 else
 some (Sum.inr (Sum.inl ()))
def sg46 : Sig := ⟨[⟨true, .bo, E_37⟩, ⟨true, .bo, (.pair (.int .i64) (.int .i64))⟩, ⟨false, .bo, (.int .i64)⟩, ⟨false, .bo, .bool⟩], [⟨false, .own, .bool⟩]⟩
noncomputable def r46 (a : (T_26 × ((Int × Int) × (Int × Bool)))) : Option Bool :=
 Option.bind (
 Option.bind (loopR (r46_L0 a) (0 : Int)) fun (q25 : (Unit ⊕ Int)) =>
 Sum.elim (fun (_ : Unit) =>
 some (-1 : Int))
 (fun (v27 : Int) =>
 some v27) q25) fun (d28 : Int) =>
 some (decide ((0 : Int) ≤ d28))
def an46 : Ann := .two (.leaf) (.two (.inl 3 13 (.two (.leaf) (.two (.inl 2 22 (.join [] [] [⟨.ret, [], [.tmp 26 (.int .i64)]⟩] (.two (.leaf) (.two (.two (.leaf) (.one (.loop [22, 23, 29] [5, 6, 7] [] [.tmp 30 (.int .i64)] [⟨.exit 0, [], []⟩, ⟨.ret, [], [.tmp 26 (.int .i64)]⟩] (.two (.leaf) (.two (.two (.leaf) (.leaf)) (.two (.one (.two (.leaf) (.two (.inl 5 41 (.join [22, 23, 27, 29, 30] [5, 6, 7] [⟨.ret, [], [.tmp 46 (.bool)]⟩] (.two (.leaf) (.two (.segs [(10, ([22, 23, 27, 29, 30, 44, 45], ([5, 6, 7, 45], [.tmp 56 (.bool)])))]) (.leaf)))) (.leaf)) (.two (.two (.leaf) (.leaf)) (.leaf))))) (.leaf))))))) (.two (.leaf) (.leaf))))) (.leaf)) (.leaf))) (.leaf)) (.leaf))
theorem s46 : SoundF cx.P cx.G 46 sg46 r46 := by
  have e : denF cx [] an46 Tryd.f46.ntmps (Tryd.f46.body.getD .skip) Tryd.f46.results.toList sg46 = r46 := by kernel_rfl
  rw [← e]
  exact sound_of_den (c := cx) (Known.nil) Tryd.func46 (by kernel_rfl) (Nat.le_of_ble_eq_true (by kernel_rfl)) rfl

/-! cmp.isNaN[int] -/
def sg100 : Sig := ⟨[⟨false, .bo, (.int .i64)⟩], [⟨false, .own, .bool⟩]⟩
noncomputable def r100 (a : Int) : Option Bool :=
 some (!(decide (a = a)))
def an100 : Ann := .two (.leaf) (.two (.leaf) (.leaf))
theorem s100 : SoundF cx.P cx.G 100 sg100 r100 := by
  have e : denF cx [] an100 Tryd.f100.ntmps (Tryd.f100.body.getD .skip) Tryd.f100.results.toList sg100 = r100 := by kernel_rfl
  rw [← e]
  exact sound_of_den (c := cx) (Known.nil) Tryd.func100 (by kernel_rfl) (Nat.le_of_ble_eq_true (by kernel_rfl)) rfl

/-! cmp.Compare[int] -/
def sg80 : Sig := ⟨[⟨false, .bo, (.int .i64)⟩, ⟨false, .bo, (.int .i64)⟩], [⟨false, .own, (.int .i64)⟩]⟩
noncomputable def r80 (a : (Int × Int)) : Option Int :=
 Option.bind (r100 a.1) fun (y1 : Bool) =>
 Option.bind (r100 a.2) fun (y2 : Bool) =>
 bif y1 then
 bif y2 then
 some (0 : Int)
 else
 some (-1 : Int)
 else
 bif y2 then
 some (1 : Int)
 else
 bif decide (a.1 < a.2) then
 some (-1 : Int)
 else
 bif decide (a.2 < a.1) then
 some (1 : Int)
 else
 some (0 : Int)
def an80 : Ann := .two (.leaf) (.two (.leaf) (.two (.leaf) (.two (.two (.leaf) (.two (.two (.two (.leaf) (.two (.two (.leaf) (.leaf)) (.leaf))) (.two (.leaf) (.leaf))) (.leaf))) (.two (.two (.leaf) (.two (.two (.leaf) (.leaf)) (.leaf))) (.two (.two (.leaf) (.two (.two (.leaf) (.leaf)) (.leaf))) (.two (.two (.leaf) (.two (.two (.leaf) (.leaf)) (.leaf))) (.two (.leaf) (.leaf))))))))
theorem s80 : SoundF cx.P cx.G 80 sg80 r80 := by
  have e : denF cx [(100, ⟨sg100, r100⟩)] an80 Tryd.f80.ntmps (Tryd.f80.body.getD .skip) Tryd.f80.results.toList sg80 = r80 := by kernel_rfl
  rw [← e]
  exact sound_of_den (c := cx) (Known.cons (.ofF s100 (by kernel_rfl)) Tryd.func100 (by kernel_rfl) (by kernel_rfl) (Known.nil)) Tryd.func80 (by kernel_rfl) (Nat.le_of_ble_eq_true (by kernel_rfl)) rfl

/-! reredos/store.at$1 -/
def sg79 : Sig := ⟨[⟨true, .bo, E_47⟩, ⟨false, .bo, (.int .i64)⟩], [⟨false, .own, (.int .i64)⟩]⟩
noncomputable def r79 (a : ((Int × (Int × Int)) × Int)) : Option Int :=
 Option.bind (r80 (a.1.1, a.2)) fun (y1 : Int) =>
 some y1
def an79 : Ann := .two (.leaf) (.two (.leaf) (.leaf))
theorem s79 : SoundF cx.P cx.G 79 sg79 r79 := by
  have e : denF cx [(80, ⟨sg80, r80⟩)] an79 Tryd.f79.ntmps (Tryd.f79.body.getD .skip) Tryd.f79.results.toList sg79 = r79 := by kernel_rfl
  rw [← e]
  exact sound_of_den (c := cx) (Known.cons (.ofF s80 (by kernel_rfl)) Tryd.func80 (by kernel_rfl) (by kernel_rfl) (Known.nil)) Tryd.func79 (by kernel_rfl) (Nat.le_of_ble_eq_true (by kernel_rfl)) rfl

/-! reredos/store.at -/
noncomputable def r39_L0 (a : (List ((Int × (Int × Int))) × Int)) (d13 : (Int × Int)) : Option ((Int × Int) ⊕ Int) :=
 bif decide (d13.1 < d13.2) then
 Option.bind (idxI a.1 (Go.IntKind.wrap .i64 (Int.fdiv (Go.IntKind.wrap .u64 (Go.IntKind.wrap .i64 (d13.1 + d13.2))) (2 ^ 1)))) fun (b14 : (Int × (Int × Int))) =>
 Option.bind (r80 (b14.1, a.2)) fun (y15 : Int) =>
 bif decide (y15 < (0 : Int)) then
 some (Sum.inl ((Go.IntKind.wrap .i64 ((Go.IntKind.wrap .i64 (Int.fdiv (Go.IntKind.wrap .u64 (Go.IntKind.wrap .i64 (d13.1 + d13.2))) (2 ^ 1))) + (1 : Int))), d13.2))
 else
 some (Sum.inl (d13.1, (Go.IntKind.wrap .i64 (Int.fdiv (Go.IntKind.wrap .u64 (Go.IntKind.wrap .i64 (d13.1 + d13.2))) (2 ^ 1)))))
 else
 some (Sum.inr d13.1)
def sg39 : Sig := ⟨[⟨false, .bo, (.sl E_47)⟩, ⟨false, .bo, (.int .i64)⟩], [⟨false, .own, (.int .i64)⟩, ⟨false, .own, .bool⟩]⟩
noncomputable def r39 (a : (List ((Int × (Int × Int))) × Int)) : Option (Int × Bool) :=
 Option.bind (
 Option.bind (loopR (r39_L0 a) ((0 : Int), (↑a.1.length : Int))) fun (q16 : Int) =>
 bif decide (q16 < (↑a.1.length : Int)) then
 Option.bind (idxI a.1 q16) fun (b17 : (Int × (Int × Int))) =>
 Option.bind (r80 (b17.1, a.2)) fun (y18 : Int) =>
 some (q16, decide (y18 = (0 : Int)))
 else
 some (q16, false)) fun (d19 : (Int × Bool)) =>
 some d19
def an39 : Ann := .two (.leaf) (.two (.inl 2 11 (.join [] [] [⟨.ret, [], [.tmp 17 (.int .i64), .tmp 18 (.bool)]⟩] (.two (.leaf) (.two (.leaf) (.two (.leaf) (.two (.one (.loop [11, 12, 13, 19] [] [] [.tmp 20 (.int .i64), .tmp 21 (.int .i64)] [⟨.exit 0, [], [.tmp 20 (.int .i64)]⟩] (.two (.two (.leaf) (.two (.leaf) (.leaf))) (.one (.two (.leaf) (.two (.inl 6 60 (.two (.leaf) (.two (.leaf) (.leaf))) (.leaf)) (.two (.leaf) (.leaf)))))))) (.two (.inl 11 69 (.two (.leaf) (.two (.leaf) (.leaf))) (.leaf)) (.leaf))))))) (.leaf)) (.leaf))
theorem s39 : SoundF cx.P cx.G 39 sg39 r39 := by
  have e : denF cx [(80, ⟨sg80, r80⟩)] an39 Tryd.f39.ntmps (Tryd.f39.body.getD .skip) Tryd.f39.results.toList sg39 = r39 := by kernel_rfl
  rw [← e]
  exact sound_of_den (c := cx) (Known.cons (.ofF s80 (by kernel_rfl)) Tryd.func80 (by kernel_rfl) (by kernel_rfl) (Known.nil)) Tryd.func39 (by kernel_rfl) (Nat.le_of_ble_eq_true (by kernel_rfl)) rfl

/-! reredos/store.item -/
def sg47 : Sig := ⟨[⟨true, .bo, E_37⟩, ⟨false, .bo, (.int .i64)⟩], [⟨true, .own, E_47⟩]⟩
noncomputable def r47 (a : T_25) : Option (Int × (Int × Int)) :=
 Option.bind (r39 (a.1.1, a.2)) fun (y1 : (Int × Bool)) =>
 bif y1.2 then
 Option.bind (idxI a.1.1 y1.1) fun (b2 : (Int × (Int × Int))) =>
 some b2
 else
 some (a.2, ((0 : Int), (0 : Int)))
def an47 : Ann := .two (.leaf) (.two (.two (.leaf) (.two (.leaf) (.two (.two (.leaf) (.leaf)) (.leaf)))) (.two (.leaf) (.leaf)))
theorem s47 : SoundF cx.P cx.G 47 sg47 r47 := by
  have e : denF cx [(39, ⟨sg39, r39⟩)] an47 Tryd.f47.ntmps (Tryd.f47.body.getD .skip) Tryd.f47.results.toList sg47 = r47 := by kernel_rfl
  rw [← e]
  exact sound_of_den (c := cx) (Known.cons (.ofF s39 (by kernel_rfl)) Tryd.func39 (by kernel_rfl) (by kernel_rfl) (Known.nil)) Tryd.func47 (by kernel_rfl) (Nat.le_of_ble_eq_true (by kernel_rfl)) rfl

/-! reredos/store.lock -/
noncomputable def r66_L0 (a : (T_26 × ((Int × Int) × Int))) (d13 : Int) : Option (Int ⊕ (Unit ⊕ Int)) :=
 bif decide (d13 < (↑a.1.2.1.length : Int)) then
 Option.bind (idxI a.1.2.1 d13) fun (b14 : T_31) =>
 Option.bind (
 bif (decide (b14.1.1 = a.2.1.1) && (decide (b14.1.2 = a.2.1.2) && true)) then
 some (decide (b14.2.1 = a.2.2))
 else
 some false) fun (d15 : Bool) =>
 bif d15 then
 some (Sum.inr (Sum.inr d13))
 else
 some (Sum.inl (Go.IntKind.wrap .i64 (d13 + (1 : Int))))
 else
 some (Sum.inr (Sum.inl ()))
def sg66 : Sig := ⟨[⟨true, .bo, E_37⟩, ⟨true, .bo, (.pair (.int .i64) (.int .i64))⟩, ⟨false, .bo, (.int .i64)⟩], [⟨false, .own, (.int .i64)⟩]⟩
noncomputable def r66 (a : (T_26 × ((Int × Int) × Int))) : Option Int :=
 Option.bind (
 Option.bind (loopR (r66_L0 a) (0 : Int)) fun (q16 : (Unit ⊕ Int)) =>
 Sum.elim (fun (_ : Unit) =>
 some (-1 : Int))
 (fun (v18 : Int) =>
 some v18) q16) fun (d19 : Int) =>
 some d19
def an66 : Ann := .two (.leaf) (.two (.inl 3 11 (.join [] [] [⟨.ret, [], [.tmp 15 (.int .i64)]⟩] (.two (.leaf) (.two (.two (.leaf) (.one (.loop [11, 12, 18] [4, 5] [] [.tmp 19 (.int .i64)] [⟨.exit 0, [], []⟩, ⟨.ret, [], [.tmp 15 (.int .i64)]⟩] (.two (.leaf) (.two (.two (.leaf) (.leaf)) (.two (.one (.two (.leaf) (.two (.inl 5 30 (.join [11, 12, 16, 18, 19] [4, 5] [⟨.ret, [], [.tmp 34 (.bool)]⟩] (.two (.leaf) (.two (.leaf) (.leaf)))) (.leaf)) (.two (.two (.leaf) (.leaf)) (.leaf))))) (.leaf))))))) (.two (.leaf) (.leaf))))) (.leaf)) (.leaf))
theorem s66 : SoundF cx.P cx.G 66 sg66 r66 := by
  have e : denF cx [] an66 Tryd.f66.ntmps (Tryd.f66.body.getD .skip) Tryd.f66.results.toList sg66 = r66 := by kernel_rfl
  rw [← e]
  exact sound_of_den (c := cx) (Known.nil) Tryd.func66 (by kernel_rfl) (Nat.le_of_ble_eq_true (by kernel_rfl)) rfl

/-! reredos/store.hand -/
def sg67 : Sig := ⟨[⟨false, .own, (.ptr E_37)⟩, ⟨true, .bo, (.pair (.int .i64) (.int .i64))⟩], [⟨false, .own, (.ptr E_37)⟩]⟩
noncomputable def r67 (a : T_23) : Option T_26 :=
 Option.bind (r90 (a.1, a.2)) fun (y2 : Bool) =>
 bif !(y2) then
 Option.bind (
 
 bif roomOk false a.1.2.2.1.length 1 24 then
 some ((), (a.1.1, (a.1.2.1, (app a.1.2.2.1 [(a.2, (0 : Int))], a.1.2.2.2))))
 else
 none) fun (d3 : T_24) =>
 some d3.2
 else
 some a.1
noncomputable def r67q : T_23 → Option T_26 := fun a =>
 Option.bind (r90 (a.1, a.2)) fun (y2 : Bool) =>
 bif !(y2) then
 Option.bind (
 sameR (
 bif roomOk false a.1.2.2.1.length 1 24 then
 some ((), (a.1.1, (a.1.2.1, (app a.1.2.2.1 [(a.2, (0 : Int))], a.1.2.2.2))))
 else
 none)
 (
 sameR (
 bif roomOk false a.1.2.2.1.length 1 24 then
 some ((), (a.1.1, (a.1.2.1, (app a.1.2.2.1 [(a.2, (0 : Int))], a.1.2.2.2))))
 else
 none)
 (
 bif roomOk false a.1.2.2.1.length 1 24 then
 some ((), (a.1.1, (a.1.2.1, (app a.1.2.2.1 [(a.2, (0 : Int))], a.1.2.2.2))))
 else
 none))) fun (d3 : T_24) =>
 some d3.2
 else
 some a.1
theorem r67e : r67q = r67 := by unfold r67q r67; simp only [sameR_self]
def an67 : Ann := .two (.leaf) (.two (.draw 4) (.two (.join [] [] [⟨.normal, [], [.tmp 0 (.pt 0 [(0, 0)] 0 0 0), .box 0 [.sl .own E_47, .sl .own E_44, .sl .own E_48, .sl .own (.pair (.int .i64) (.int .i64))]]⟩] (.drawT [0, 1, 2, 3, 4, 5, 6, 7] [0])) (.leaf)))
theorem s67 : SoundM cx.P cx.G 67 sg67 r67 := by
  have e : denM cx [(90, ⟨sg90, r90⟩)] an67 Tryd.f67.ntmps (Tryd.f67.body.getD .skip) Tryd.f67.results.toList sg67 = r67q := by kernel_rfl
  rw [← r67e, ← e]
  exact sound_of_denM (c := cx) (Known.cons (.ofF s90 (by kernel_rfl)) Tryd.func90 (by kernel_rfl) (by kernel_rfl) (Known.nil)) Tryd.func67 (by kernel_rfl) (Nat.le_of_ble_eq_true (by kernel_rfl)) rfl

/-! reredos/store.Write -/
def sg30 : Sig := ⟨[⟨true, .bo, E_37⟩, ⟨true, .bo, (.pair (.int .i64) (.int .i64))⟩, ⟨false, .bo, (.int .i64)⟩, ⟨false, .bo, (.int .i64)⟩, ⟨false, .bo, (.int .i64)⟩], [⟨true, .own, E_37⟩, ⟨false, .own, (.int .i64)⟩]⟩
noncomputable def r30 (a : (T_26 × ((Int × Int) × (Int × (Int × Int))))) : Option T_25 :=
 Option.bind (r37 (a.1, a.2.1, a.2.2.1)) fun (y1 : Int) =>
 bif !(decide (y1 = (0 : Int))) then
 some (([], ([], ([], []))), y1)
 else
 Option.bind (
 Option.bind (
 bif !(decide (a.2.2.2.1 < (0 : Int))) then
 some (decide ((1073741824 : Int) < a.2.2.2.1))
 else
 some true) fun (g6 : Bool) =>
 Option.bind (
 bif !(g6) then
 some (decide (a.2.2.2.2 < (0 : Int)))
 else
 some true) fun (g7 : Bool) =>
 bif !(g7) then
 some (decide ((1048576 : Int) < a.2.2.2.2))
 else
 some true) fun (d8 : Bool) =>
 bif d8 then
 some (([], ([], ([], []))), (2 : Int))
 else
 Option.bind (r66 (a.1, a.2.1, a.2.2.1)) fun (y9 : Int) =>
 Option.bind (
 Option.bind (r45 (a.1.2.2.2, a.2.1)) fun (y14 : Bool) =>
 bif y14 then
 some y14
 else
 bif decide ((0 : Int) ≤ y9) then
 Option.bind (idxI a.1.2.1 y9) fun (b15 : T_31) =>
 some (decide (a.2.2.2.2 < b15.2.2.2.2))
 else
 some false) fun (d16 : Bool) =>
 bif d16 then
 some (([], ([], ([], []))), (13 : Int))
 else
 Option.bind (r46 (a.1, a.2.1, a.2.2.1, true)) fun (y17 : Bool) =>
 bif y17 then
 some (([], ([], ([], []))), (11 : Int))
 else
 Option.bind (
 Option.bind (
 bif decide (y9 < (0 : Int)) then
 some (decide ((↑a.1.2.1.length : Int) = (24 : Int)))
 else
 some false) fun (d22 : Bool) =>
 bif d22 then
 some d22
 else
 Option.bind (r47 (a.1, a.2.2.1)) fun (y23 : (Int × (Int × Int))) =>
 some (decide (y23.2.2 = (1048576 : Int)))) fun (d24 : Bool) =>
 bif d24 then
 some (([], ([], ([], []))), (8 : Int))
 else
 Option.bind (r38 a.1) fun (y25 : T_26) =>
 Option.bind (
 bif decide (y9 < (0 : Int)) then
 bif roomOk false y25.2.1.length 1 48 then
 some ((), (y25.1, (app y25.2.1 [(a.2.1, (a.2.2.1, (true, a.2.2.2)))], y25.2.2)))
 else
 none
 else
 bif inB y9 y25.2.1.length then
 Option.bind (idxN y25.2.1 (Int.toNat y9)) fun (_ : T_31) =>
 some ((), (y25.1, (List.set y25.2.1 (Int.toNat y9) (a.2.1, (a.2.2.1, (true, a.2.2.2))), y25.2.2)))
 else
 none) fun (d29 : T_24) =>
 Option.bind (r67 (d29.2, a.2.1)) fun (y30 : T_26) =>
 some (y30, (0 : Int))
def an30 : Ann := .two (.leaf) (.two (.two (.leaf) (.two (.leaf) (.two (.two (.leaf) (.leaf)) (.leaf)))) (.two (.two (.join [2, 3, 4, 5, 6, 10] [5, 6, 10] [⟨.normal, [], [.tmp 37 (.bool)]⟩] (.segs [(6, ([2, 3, 4, 5, 6, 10], ([5, 6, 10], [.tmp 29 (.bool)]))), (4, ([2, 3, 4, 5, 6, 10], ([5, 6, 10], [.tmp 33 (.bool)])))])) (.two (.two (.leaf) (.leaf)) (.leaf))) (.two (.leaf) (.two (.one (.two (.join [2, 3, 4, 5, 6, 10, 13] [5, 6, 10] [⟨.normal, [], [.tmp 43 (.bool)]⟩] (.two (.leaf) (.two (.leaf) (.leaf)))) (.two (.two (.leaf) (.leaf)) (.two (.leaf) (.two (.two (.leaf) (.leaf)) (.two (.join [2, 3, 4, 5, 6, 10, 13] [5, 6, 10] [⟨.normal, [], [.tmp 67 (.bool)]⟩] (.two (.join [2, 3, 4, 5, 6, 10, 13] [5, 6, 10] [⟨.normal, [], [.tmp 67 (.bool)]⟩] (.leaf)) (.two (.leaf) (.leaf)))) (.two (.two (.leaf) (.leaf)) (.leaf)))))))) (.two (.leaf) (.two (.leaf) (.two (.join [6, 10] [6, 10] [⟨.normal, [], [.tmp 14 (.pt 14 [(0, 0)] 0 0 4), .box 14 [.sl .own E_47, .sl .own E_44, .sl .own E_48, .sl .own (.pair (.int .i64) (.int .i64))]]⟩] (.two (.leaf) (.two (.leaf) (.leaf)))) (.two (.leaf) (.two (.leaf) (.leaf))))))))))
theorem s30 : SoundF cx.P cx.G 30 sg30 r30 := by
  have e : denF cx [(37, ⟨sg37, r37⟩), (38, ⟨sg38, r38⟩), (45, ⟨sg45, r45⟩), (46, ⟨sg46, r46⟩), (47, ⟨sg47, r47⟩), (66, ⟨sg66, r66⟩), (67, ⟨sg67, r67⟩)] an30 Tryd.f30.ntmps (Tryd.f30.body.getD .skip) Tryd.f30.results.toList sg30 = r30 := by kernel_rfl
  rw [← e]
  exact sound_of_den (c := cx) (Known.cons (.ofF s37 (by kernel_rfl)) Tryd.func37 (by kernel_rfl) (by kernel_rfl) (Known.cons (.ofF s38 (by kernel_rfl)) Tryd.func38 (by kernel_rfl) (by kernel_rfl) (Known.cons (.ofF s45 (by kernel_rfl)) Tryd.func45 (by kernel_rfl) (by kernel_rfl) (Known.cons (.ofF s46 (by kernel_rfl)) Tryd.func46 (by kernel_rfl) (by kernel_rfl) (Known.cons (.ofF s47 (by kernel_rfl)) Tryd.func47 (by kernel_rfl) (by kernel_rfl) (Known.cons (.ofF s66 (by kernel_rfl)) Tryd.func66 (by kernel_rfl) (by kernel_rfl) (Known.cons (.ofM s67 (by kernel_rfl)) Tryd.func67 (by kernel_rfl) (by kernel_rfl) (Known.nil)))))))) Tryd.func30 (by kernel_rfl) (Nat.le_of_ble_eq_true (by kernel_rfl)) rfl

/-! slices.Insert[[]reredos/api.Item,reredos/api.Item] -/
set_option maxRecDepth 20000 in
theorem ins40_none {w : World} {ad bd : Option Addr} {n cap j cv : Nat} {ei ti : TyInfo} {e : TypeId} (hi : TyOk1 Tryd.prog 35 ti) (hd : ti.d = .sl e) (hei : TyOk1 Tryd.prog e ei) (hjn : j ≤ n) (hnc : n ≤ cap) :
    Calls Tryd.prog 40 #[.slice ad n cap, iv j, .slice bd 0 cv] w fun e w' => e = .returned (.slice ad n cap) ∧ w' = w := by
  have s1 := fun w => raw_slice (P := Tryd.prog) hi hd hei (ad := ad) (n := n) (cap := cap) (l := j) (h := n) (lo := some (iv j)) (hh := none) (.inr rfl) (.inl ⟨rfl, rfl⟩) hjn hnc w
  simp only [iv] at s1 ⊢
  go_enter Tryd.func40, Tryd.f40
  go_wp
  go_ret
  exact ⟨rfl, rfl⟩

set_option maxRecDepth 20000 in
theorem ins40_end {w w1 : World} {ad bd : Option Addr} {n cap m cv : Nat} {v : Value} {ei ti : TyInfo} {e : TypeId} (hi : TyOk1 Tryd.prog 35 ti) (hd : ti.d = .sl e) (hei : TyOk1 Tryd.prog e ei) (hnc : n ≤ cap) (hm : 0 < m)
    (hap : (Builtin.append_ #[35, 35] 35 #[.slice ad n cap, .slice bd m cv]).run Tryd.prog w = .ok v w1) :
    Calls Tryd.prog 40 #[.slice ad n cap, iv n, .slice bd m cv] w fun e w' => e = .returned v ∧ w' = w1 := by
  obtain ⟨v12, s1⟩ : ∃ v12, ∀ w, (Instr.sliceAt 35 (.slice ad n cap) (some (iv n)) none none).run Tryd.prog w = .ok v12 w := ⟨_, fun w => raw_slice (P := Tryd.prog) hi hd hei (ad := ad) (n := n) (cap := cap) (l := n) (h := n) (lo := some (iv n)) (hh := none) (.inr rfl) (.inl ⟨rfl, rfl⟩) (Nat.le_refl _) hnc w⟩
  simp only [iv] at s1 ⊢
  have hm0 : ¬ (m : Int) = 0 := by omega
  go_enter Tryd.func40, Tryd.f40
  go_wp2_with (at_builtin; refine wpList_val rfl (v := v) (w' := w1) (by simp [execOp, resolve, invoke, builtin, Act.eval, hap]) ?_)
  go_ret
  exact ⟨rfl, rfl⟩

set_option maxRecDepth 20000 in
theorem ins40_shift {w w2 w3 : World} {a66 av : Option Addr} {a76 : Option Addr} {b off n cap j m cv l66 c66 l76 c76 : Nat} {ei ti : TyInfo} {e : TypeId} (hi : TyOk1 Tryd.prog 35 ti) (hd : ti.d = .sl e) (hei : TyOk1 Tryd.prog e ei) (hjn : j < n) (hnc : n ≤ cap) (hm : 0 < m) (hroom : n + m ≤ cap) (hbig : n + m ≤ 281474976710656)
    (h60 : (Instr.sliceAt 35 (.slice (some ⟨b, off, none⟩) n cap) none (some (iv (n + m))) none).run Tryd.prog w = .ok (.slice (some ⟨b, off, none⟩) (n + m) cap) w)
    (h66 : ∀ w, (Instr.sliceAt 35 (.slice (some ⟨b, off, none⟩) (n + m) cap) (some (iv (j + m))) none none).run Tryd.prog w = .ok (.slice a66 l66 c66) w)
    (h76 : ∀ w, (Instr.sliceAt 35 (.slice (some ⟨b, off, none⟩) (n + m) cap) (some (iv j)) none none).run Tryd.prog w = .ok (.slice a76 l76 c76) w)
    (hov : (callFunc 81 #[.slice av m cv, .slice a66 l66 c66]).run Tryd.prog w = .ok (.value (.bool false)) w)
    (hc1 : ∀ ty, (Builtin.copy_ #[35, 35] ty #[.slice a66 l66 c66, .slice a76 l76 c76]).run Tryd.prog { w with drawn := w.drawn + 1 } = .ok (goInt ((n - j : Nat) : Int)) w2)
    (hc2 : ∀ ty, (Builtin.copy_ #[35, 35] ty #[.slice a76 l76 c76, .slice av m cv]).run Tryd.prog w2 = .ok (goInt m) w3) :
    Calls Tryd.prog 40 #[.slice (some ⟨b, off, none⟩) n cap, iv j, .slice av m cv] w fun e w' => e = .returned (.slice (some ⟨b, off, none⟩) (n + m) cap) ∧ w' = w3 := by
  obtain ⟨v12, s1⟩ : ∃ v12, ∀ w, (Instr.sliceAt 35 (.slice (some ⟨b, off, none⟩) n cap) (some (iv j)) none none).run Tryd.prog w = .ok v12 w := ⟨_, fun w => raw_slice (P := Tryd.prog) hi hd hei (ad := some ⟨b, off, none⟩) (n := n) (cap := cap) (l := j) (h := n) (lo := some (iv j)) (hh := none) (.inr rfl) (.inl ⟨rfl, rfl⟩) (by omega) hnc w⟩
  have e1 : ((n + m : Nat) : Int) = (n : Int) + m := by omega
  have e2 : ((j + m : Nat) : Int) = (j : Int) + m := by omega
  simp only [iv, e1, e2] at s1 h60 h66 h76 ⊢
  have hm0 : ¬ (m : Int) = 0 := by omega
  have hjn0 : ¬ (j : Int) = n := by omega
  have hw1 : IntKind.i64.wrap ((n : Int) + m) = (n : Int) + m := by rw [← e1]; exact wrap_nat hbig
  have hw2 : IntKind.i64.wrap ((j : Int) + m) = (j : Int) + m := by rw [← e2]; exact wrap_nat (by omega)
  have hle : ¬ ((cap : Int) < (n : Int) + m) := by omega
  go_enter Tryd.func40, Tryd.f40
  go_wp2_with (simp only [hov])
  refine wp_drawn_pure (m := 8) (ks := [69, 70, 71, 72, 73, 74, 75, 76]) (vs := [.slice (some ⟨b, off, none⟩) (n + m) cap, .int .i64 j, .int .i64 m, .int .i64 ((j : Int) + m), .slice a66 l66 c66, .slice (some ⟨b, off, none⟩) (n + m) cap, .int .i64 j, .slice a76 l76 c76]) (by kernel_rfl) (by kernel_rfl) rfl rfl (by decide) (by simp) ?_ ?_
  · intro k ks v hk hv
    match k with
    | 0 => cases hk; cases hv; exact ⟨_, rfl, rfl, rfl, fun a' ho hd w' => by have e := ho 0 (by decide); simp at e; simp [execOp, Act.eval, e]⟩
    | 1 => cases hk; cases hv; exact ⟨_, rfl, rfl, rfl, fun a' ho hd w' => by have e := ho 1 (by decide); simp at e; simp [execOp, Act.eval, e]⟩
    | 2 => cases hk; cases hv; exact ⟨_, rfl, rfl, rfl, fun a' ho hd w' => by have e := ho 7 (by decide); simp at e; simp [execOp, Act.eval, e]⟩
    | 3 =>
      cases hk; cases hv
      exact ⟨_, rfl, rfl, rfl, fun a' ho hd w' => by
        have e0 := hd 1 70 _ ((mem_iff _ _).1 (by kernel_rfl)) rfl rfl
        have e1 := hd 2 71 _ ((mem_iff _ _).1 (by kernel_rfl)) rfl rfl
        simp [execOp, Act.eval, e0, e1, add_guard, add_run, hw2]⟩
    | 4 =>
      cases hk; cases hv
      exact ⟨_, rfl, rfl, rfl, fun a' ho hd w' => by
        have e0 := hd 0 69 _ ((mem_iff _ _).1 (by kernel_rfl)) rfl rfl
        have e1 := hd 3 72 _ ((mem_iff _ _).1 (by kernel_rfl)) rfl rfl
        simp [execOp, Act.eval, e0, e1, h66]⟩
    | 5 => cases hk; cases hv; exact ⟨_, rfl, rfl, rfl, fun a' ho hd w' => by have e := ho 0 (by decide); simp at e; simp [execOp, Act.eval, e]⟩
    | 6 => cases hk; cases hv; exact ⟨_, rfl, rfl, rfl, fun a' ho hd w' => by have e := ho 1 (by decide); simp at e; simp [execOp, Act.eval, e]⟩
    | 7 =>
      cases hk; cases hv
      exact ⟨_, rfl, rfl, rfl, fun a' ho hd w' => by
        have e0 := hd 5 74 _ ((mem_iff _ _).1 (by kernel_rfl)) rfl rfl
        have e1 := hd 6 75 _ ((mem_iff _ _).1 (by kernel_rfl)) rfl rfl
        simp [execOp, Act.eval, e0, e1, h76]⟩
    | k + 8 => simp at hk
  · simp only [Act.putAll, Act.put, List.drop_succ_cons, List.drop_zero]
    have hc1' := fun ty => (show (Builtin.copy_ #[35, 35] ty #[.slice a66 l66 c66, .slice a76 l76 c76]).run Tryd.prog w.drew = .ok (goInt ((n - j : Nat) : Int)) w2 from hc1 ty)
    refine wpList_val rfl (v := goInt ((n - j : Nat) : Int)) (w' := w2) (by simp [execOp, resolve, invoke, builtin, Act.eval, hc1']) ?_
    go_wp
    go_ret
    exact ⟨rfl, rfl⟩

set_option maxRecDepth 20000 in
theorem ins40_grow {w w1 w2 w3 : World} {av a34 a43 a50 a53 : Option Addr} {b off n cap j m cv l43 c43 l50 c50 l53 c53 l34 c34 newCap W : Nat} {ei ti : TyInfo} {e : TypeId} (_hi : TyOk1 Tryd.prog 35 ti) (_hd : ti.d = .sl e) (_hei : TyOk1 Tryd.prog e ei) (hjn : j < n) (_hnc : n ≤ cap) (hm : 0 < m) (hroom : cap < n + m) (hbig : n + m ≤ 281474976710656)
    (h34 : ∀ w, (Instr.sliceAt 35 (.slice (some ⟨b, off, none⟩) n cap) none (some (iv j)) none).run Tryd.prog w = .ok (.slice a34 l34 c34) w)
    (hap : (Builtin.append_ #[35, 3] 35 #[.slice a34 l34 c34, iv (n + m - j)]).run Tryd.prog w = .ok (.slice (some ⟨W, 0, none⟩) (n + m) newCap) w1)
    (h43 : ∀ w1, (Instr.sliceAt 35 (.slice (some ⟨W, 0, none⟩) (n + m) newCap) (some (iv j)) none none).run Tryd.prog w1 = .ok (.slice a43 l43 c43) w1)
    (h50 : ∀ w1, (Instr.sliceAt 35 (.slice (some ⟨W, 0, none⟩) (n + m) newCap) (some (iv (j + m))) none none).run Tryd.prog w1 = .ok (.slice a50 l50 c50) w1)
    (h53 : ∀ w1, (Instr.sliceAt 35 (.slice (some ⟨b, off, none⟩) n cap) (some (iv j)) none none).run Tryd.prog w1 = .ok (.slice a53 l53 c53) w1)
    (hc1 : ∀ ty, (Builtin.copy_ #[35, 35] ty #[.slice a43 l43 c43, .slice av m cv]).run Tryd.prog w1 = .ok (goInt m) w2)
    (hc2 : ∀ ty, (Builtin.copy_ #[35, 35] ty #[.slice a50 l50 c50, .slice a53 l53 c53]).run Tryd.prog { w2 with drawn := w2.drawn + 1 } = .ok (goInt ((n - j : Nat) : Int)) w3) :
    Calls Tryd.prog 40 #[.slice (some ⟨b, off, none⟩) n cap, iv j, .slice av m cv] w fun e w' => e = .returned (.slice (some ⟨W, 0, none⟩) (n + m) newCap) ∧ w' = w3 := by
  have e1 : ((n + m : Nat) : Int) = (n : Int) + m := by omega
  have e2 : ((j + m : Nat) : Int) = (j : Int) + m := by omega
  have e3 : ((n + m - j : Nat) : Int) = (n : Int) + m - j := by omega
  simp only [iv, e2, e3] at h34 hap h43 h50 h53 ⊢
  have hm0 : ¬ (m : Int) = 0 := by omega
  have hjn0 : ¬ (j : Int) = n := by omega
  have hw1 : IntKind.i64.wrap ((n : Int) + m) = (n : Int) + m := by rw [← e1]; exact wrap_nat hbig
  have hw2 : IntKind.i64.wrap ((j : Int) + m) = (j : Int) + m := by rw [← e2]; exact wrap_nat (by omega)
  have hw3 : IntKind.i64.wrap ((n : Int) + m - j) = (n : Int) + m - j := by rw [← e3]; exact wrap_nat (by omega)
  have hlt : ((cap : Int) < (n : Int) + m) := by omega
  go_enter Tryd.func40, Tryd.f40
  go_wp2_with (at_builtin; refine wpList_val rfl (v := .slice (some ⟨W, 0, none⟩) (n + m) newCap) (w' := w1) (by simp [execOp, resolve, invoke, builtin, Act.eval, hap]) ?_)
  refine wp_drawn_pure (m := 8) (ks := [46, 47, 48, 49, 50, 51, 52, 53]) (vs := [.slice (some ⟨W, 0, none⟩) (n + m) newCap, .int .i64 j, .int .i64 m, .int .i64 ((j : Int) + m), .slice a50 l50 c50, .slice (some ⟨b, off, none⟩) n cap, .int .i64 j, .slice a53 l53 c53]) (by kernel_rfl) (by kernel_rfl) rfl rfl (by decide) (by simp) ?_ ?_
  · intro k ks v hk hv
    match k with
    | 0 => cases hk; cases hv; exact ⟨_, rfl, rfl, rfl, fun a' ho hd w' => by have e := ho 9 (by decide); simp at e; simp [execOp, Act.eval, e]⟩
    | 1 => cases hk; cases hv; exact ⟨_, rfl, rfl, rfl, fun a' ho hd w' => by have e := ho 1 (by decide); simp at e; simp [execOp, Act.eval, e]⟩
    | 2 => cases hk; cases hv; exact ⟨_, rfl, rfl, rfl, fun a' ho hd w' => by have e := ho 7 (by decide); simp at e; simp [execOp, Act.eval, e]⟩
    | 3 =>
      cases hk; cases hv
      exact ⟨_, rfl, rfl, rfl, fun a' ho hd w' => by
        have e0 := hd 1 47 _ ((mem_iff _ _).1 (by kernel_rfl)) rfl rfl
        have e1 := hd 2 48 _ ((mem_iff _ _).1 (by kernel_rfl)) rfl rfl
        simp [execOp, Act.eval, e0, e1, add_guard, add_run, hw2]⟩
    | 4 =>
      cases hk; cases hv
      exact ⟨_, rfl, rfl, rfl, fun a' ho hd w' => by
        have e0 := hd 0 46 _ ((mem_iff _ _).1 (by kernel_rfl)) rfl rfl
        have e1 := hd 3 49 _ ((mem_iff _ _).1 (by kernel_rfl)) rfl rfl
        simp [execOp, Act.eval, e0, e1, h50]⟩
    | 5 => cases hk; cases hv; exact ⟨_, rfl, rfl, rfl, fun a' ho hd w' => by have e := ho 0 (by decide); simp at e; simp [execOp, Act.eval, e]⟩
    | 6 => cases hk; cases hv; exact ⟨_, rfl, rfl, rfl, fun a' ho hd w' => by have e := ho 1 (by decide); simp at e; simp [execOp, Act.eval, e]⟩
    | 7 =>
      cases hk; cases hv
      exact ⟨_, rfl, rfl, rfl, fun a' ho hd w' => by
        have e0 := hd 5 51 _ ((mem_iff _ _).1 (by kernel_rfl)) rfl rfl
        have e1 := hd 6 52 _ ((mem_iff _ _).1 (by kernel_rfl)) rfl rfl
        simp [execOp, Act.eval, e0, e1, h53]⟩
    | k + 8 => simp at hk
  · simp only [Act.putAll, Act.put, List.drop_succ_cons, List.drop_zero]
    have hc2' := fun ty => (show (Builtin.copy_ #[35, 35] ty #[.slice a50 l50 c50, .slice a53 l53 c53]).run Tryd.prog w2.drew = .ok (goInt ((n - j : Nat) : Int)) w3 from hc2 ty)
    refine wpList_val rfl (v := goInt ((n - j : Nat) : Int)) (w' := w3) (by simp [execOp, resolve, invoke, builtin, Act.eval, hc2']) ?_
    go_wp
    go_ret
    exact ⟨rfl, rfl⟩

set_option maxRecDepth 20000 in
theorem ins40 : InsOk Tryd.prog 40 35 3 81 4 where
  none := fun w ad bd n cap j cv h1 h2 => ins40_none (tysOk 35 ⟨.sl 108, 1, 24, [.slice none 0 0], false, [some E_47], [none], (.sl E_47)⟩ (by kernel_rfl)) rfl (tysOk 108 ⟨.st [(0, 3), (1, 3), (2, 3)], 3, 24, [.int .i64 0, .int .i64 0, .int .i64 0], false, [none, none, none], [none, none, none], E_47⟩ (by kernel_rfl)) h1 h2
  stop := fun w w1 ad bd n cap m cv v h1 h2 h3 => ins40_end (tysOk 35 ⟨.sl 108, 1, 24, [.slice none 0 0], false, [some E_47], [none], (.sl E_47)⟩ (by kernel_rfl)) rfl (tysOk 108 ⟨.st [(0, 3), (1, 3), (2, 3)], 3, 24, [.int .i64 0, .int .i64 0, .int .i64 0], false, [none, none, none], [none, none, none], E_47⟩ (by kernel_rfl)) h1 h2 h3
  shift := fun w w2 w3 a66 av a76 b off n cap j m cv l66 c66 l76 c76 h1 h2 h3 h4 h5 h6 h7 h8 h9 h10 h11 => ins40_shift (tysOk 35 ⟨.sl 108, 1, 24, [.slice none 0 0], false, [some E_47], [none], (.sl E_47)⟩ (by kernel_rfl)) rfl (tysOk 108 ⟨.st [(0, 3), (1, 3), (2, 3)], 3, 24, [.int .i64 0, .int .i64 0, .int .i64 0], false, [none, none, none], [none, none, none], E_47⟩ (by kernel_rfl)) h1 h2 h3 h4 h5 h6 h7 h8 h9 h10 h11
  grow := fun w w1 w2 w3 av a34 a43 a50 a53 b off n cap j m cv l43 c43 l50 c50 l53 c53 l34 c34 newCap W h1 h2 h3 h4 h5 h6 h7 h8 h9 h10 h11 h12 => ins40_grow (tysOk 35 ⟨.sl 108, 1, 24, [.slice none 0 0], false, [some E_47], [none], (.sl E_47)⟩ (by kernel_rfl)) rfl (tysOk 108 ⟨.st [(0, 3), (1, 3), (2, 3)], 3, 24, [.int .i64 0, .int .i64 0, .int .i64 0], false, [none, none, none], [none, none, none], E_47⟩ (by kernel_rfl)) h1 h2 h3 h4 h5 h6 h7 h8 h9 h10 h11 h12
  over := fun args w => run_callFunc_extern Tryd.func81 (by kernel_rfl) (by kernel_rfl) (by kernel_rfl) (e := Extern.SlicesOverlaps.overlaps #[35, 35] #[4]) (by kernel_rfl) args w
def sg40 : Sig := insS E_47
noncomputable def r40 (a : List (Int × (Int × Int)) × (Int × List (Int × (Int × Int)))) : Option (List (Int × (Int × Int))) := insR 24 a
set_option maxRecDepth 20000 in
theorem s40 : SoundD cx.P 40 sg40 r40 := by
  have h : SoundD cx.P 40 (insS E_47) (insR 24) := ins_sound (c := cx) (e := E_47) (ei := ⟨.st [(0, 3), (1, 3), (2, 3)], 3, 24, [.int .i64 0, .int .i64 0, .int .i64 0], false, [none, none, none], [none, none, none], E_47⟩) ins40 (tysOk 35 ⟨.sl 108, 1, 24, [.slice none 0 0], false, [some E_47], [none], (.sl E_47)⟩ (by kernel_rfl)) (by kernel_rfl) (tysOk 108 ⟨.st [(0, 3), (1, 3), (2, 3)], 3, 24, [.int .i64 0, .int .i64 0, .int .i64 0], false, [none, none, none], [none, none, none], E_47⟩ (by kernel_rfl)) (xt := 3) (kk := .i64) (by kernel_rfl) (by kernel_rfl) (by kernel_rfl) (by decide) (by decide) (by kernel_rfl)
  exact h

/-! reredos/store.End -/
noncomputable def r19_L0 (a : T_21) (d44 : T_22) : Option (T_22 ⊕ T_24) :=
 bif decide (d44.2.1 < (↑a.1.2.1.length : Int)) then
 Option.bind (
 Option.bind (idxI a.1.2.1 d44.2.1) fun (b71 : T_31) =>
 Option.bind (
 Option.bind (
 bif !(!((decide (b71.1.1 = a.2.1.1) && (decide (b71.1.2 = a.2.1.2) && true)))) then
 some !(b71.2.2.1)
 else
 some true) fun (g74 : Bool) =>
 bif !(g74) then
 some !(a.2.2)
 else
 some true) fun (d75 : Bool) =>
 bif d75 then
 some ((), d44.2.2)
 else
 Option.bind (r39 (d44.2.2.1, b71.2.1)) fun (y76 : (Int × Bool)) =>
 Option.bind (
 bif !(y76.2) then
 Option.bind (r40 (d44.2.2.1, y76.1, [(b71.2.1, ((0 : Int), (0 : Int)))])) fun (y79 : List ((Int × (Int × Int)))) =>
 some ((), (y79, d44.2.2.2))
 else
 some ((), d44.2.2)) fun (d80 : T_24) =>
 bif inB y76.1 d80.2.1.length then
 Option.bind (idxN d80.2.1 (Int.toNat y76.1)) fun (x81 : (Int × (Int × Int))) =>
 bif inB y76.1 ((List.set d80.2.1 (Int.toNat y76.1) (x81.1, (b71.2.2.2.1, x81.2.2))).length) then
 Option.bind (idxN (List.set d80.2.1 (Int.toNat y76.1) (x81.1, (b71.2.2.2.1, x81.2.2))) (Int.toNat y76.1)) fun (x82 : (Int × (Int × Int))) =>
 bif inB y76.1 ((List.set d80.2.1 (Int.toNat y76.1) (x81.1, (b71.2.2.2.1, x81.2.2))).length) then
 Option.bind (idxN (List.set d80.2.1 (Int.toNat y76.1) (x81.1, (b71.2.2.2.1, x81.2.2))) (Int.toNat y76.1)) fun (x83 : (Int × (Int × Int))) =>
 some ((), (List.set (List.set d80.2.1 (Int.toNat y76.1) (x81.1, (b71.2.2.2.1, x81.2.2))) (Int.toNat y76.1) (x83.1, (x83.2.1, (Go.IntKind.wrap .i64 (x82.2.2 + (1 : Int))))), d80.2.2))
 else
 none
 else
 none
 else
 none) fun (d84 : T_24) =>
 some (Sum.inl ((), ((Go.IntKind.wrap .i64 (d44.2.1 + (1 : Int))), d84.2)))
 else
 some (Sum.inr ((), d44.2.2))
noncomputable def r19_L1 (q85 : T_24) (a : T_21) (d162 : Int) : Option (Int ⊕ (Unit ⊕ Int)) :=
 bif decide (d162 < (↑q85.2.2.1.length : Int)) then
 bif inB d162 q85.2.2.1.length then
 Option.bind (idxN q85.2.2.1 (Int.toNat d162)) fun (x163 : T_31) =>
 bif (decide (x163.1.1 = a.2.1.1) && (decide (x163.1.2 = a.2.1.2) && true)) then
 some (Sum.inr (Sum.inr d162))
 else
 some (Sum.inl (Go.IntKind.wrap .i64 (d162 + (1 : Int))))
 else
 none
 else
 some (Sum.inr (Sum.inl ()))
noncomputable def r19_L2 (a : T_21) (d176 : T_19) : Option (T_19 ⊕ T_20) :=
 bif decide (d176.2.2.2.1 < (↑d176.2.2.2.2.2.1.length : Int)) then
 Option.bind (
 bif inB d176.2.2.2.1 d176.2.2.2.2.2.1.length then
 Option.bind (idxN d176.2.2.2.2.2.1 (Int.toNat d176.2.2.2.1)) fun (x181 : T_31) =>
 bif !((decide (x181.1.1 = a.2.1.1) && (decide (x181.1.2 = a.2.1.2) && true))) then
 bif inB d176.2.2.1 d176.2.2.2.2.2.1.length then
 Option.bind (idxN d176.2.2.2.2.2.1 (Int.toNat d176.2.2.1)) fun (_ : T_31) =>
 some ((), ((), ((Go.IntKind.wrap .i64 (d176.2.2.1 + (1 : Int))), (d176.2.2.2.2.1, (List.set d176.2.2.2.2.2.1 (Int.toNat d176.2.2.1) x181, d176.2.2.2.2.2.2)))))
 else
 none
 else
 some ((), ((), (d176.2.2.1, d176.2.2.2.2)))
 else
 none) fun (d183 : T_20) =>
 some (Sum.inl ((), ((), (d183.2.2.1, ((Go.IntKind.wrap .i64 (d176.2.2.2.1 + (1 : Int))), d183.2.2.2)))))
 else
 some (Sum.inr ((), ((), (d176.2.2.1, d176.2.2.2.2))))
noncomputable def r19_L3 (d185 : (Unit × (Unit × ((List ((Int × (Int × Int))) × (Unit × (List (((Int × Int) × Int)) × List ((Int × Int))))) × List (T_31))))) (a : T_21) (d262 : Int) : Option (Int ⊕ (Unit ⊕ Int)) :=
 bif decide (d262 < (↑d185.2.2.1.2.2.1.length : Int)) then
 bif inB d262 d185.2.2.1.2.2.1.length then
 Option.bind (idxN d185.2.2.1.2.2.1 (Int.toNat d262)) fun (x263 : ((Int × Int) × Int)) =>
 bif (decide (x263.1.1 = a.2.1.1) && (decide (x263.1.2 = a.2.1.2) && true)) then
 some (Sum.inr (Sum.inr d262))
 else
 some (Sum.inl (Go.IntKind.wrap .i64 (d262 + (1 : Int))))
 else
 none
 else
 some (Sum.inr (Sum.inl ()))
noncomputable def r19_L4 (a : T_21) (d276 : T_19) : Option (T_19 ⊕ T_20) :=
 bif decide (d276.2.2.2.1 < (↑d276.2.2.2.2.2.2.1.length : Int)) then
 Option.bind (
 bif inB d276.2.2.2.1 d276.2.2.2.2.2.2.1.length then
 Option.bind (idxN d276.2.2.2.2.2.2.1 (Int.toNat d276.2.2.2.1)) fun (x281 : ((Int × Int) × Int)) =>
 bif !((decide (x281.1.1 = a.2.1.1) && (decide (x281.1.2 = a.2.1.2) && true))) then
 bif inB d276.2.2.1 d276.2.2.2.2.2.2.1.length then
 Option.bind (idxN d276.2.2.2.2.2.2.1 (Int.toNat d276.2.2.1)) fun (_ : ((Int × Int) × Int)) =>
 some ((), ((), ((Go.IntKind.wrap .i64 (d276.2.2.1 + (1 : Int))), (d276.2.2.2.2.1, (d276.2.2.2.2.2.1, (List.set d276.2.2.2.2.2.2.1 (Int.toNat d276.2.2.1) x281, d276.2.2.2.2.2.2.2))))))
 else
 none
 else
 some ((), ((), (d276.2.2.1, d276.2.2.2.2)))
 else
 none) fun (d283 : T_20) =>
 some (Sum.inl ((), ((), (d283.2.2.1, ((Go.IntKind.wrap .i64 (d276.2.2.2.1 + (1 : Int))), d283.2.2.2)))))
 else
 some (Sum.inr ((), ((), (d276.2.2.1, d276.2.2.2.2))))
def sg19 : Sig := ⟨[⟨true, .bo, E_37⟩, ⟨true, .bo, (.pair (.int .i64) (.int .i64))⟩, ⟨false, .bo, .bool⟩], [⟨true, .own, E_37⟩, ⟨false, .own, (.int .i64)⟩]⟩
noncomputable def r19 (a : T_21) : Option T_25 :=
 Option.bind (r37 (a.1, a.2.1, (0 : Int))) fun (y1 : Int) =>
 bif !(decide (y1 = (0 : Int))) then
 some (([], ([], ([], []))), y1)
 else
 Option.bind (r38 a.1) fun (y2 : T_26) =>
 Option.bind (loopR (r19_L0 a) ((), ((0 : Int), y2))) fun (q85 : T_24) =>
 Option.bind (
 Option.bind (
 Option.bind (loopR (r19_L1 q85 a) (0 : Int)) fun (q164 : (Unit ⊕ Int)) =>
 Sum.elim (fun (_ : Unit) =>
 some (-1 : Int))
 (fun (v166 : Int) =>
 some v166) q164) fun (d167 : Int) =>
 bif decide (d167 = (-1 : Int)) then
 some ((), ((), ((q85.2.1, ((), q85.2.2.2)), q85.2.2.1)))
 else
 Option.bind (loopR (r19_L2 a) ((), ((), (d167, ((Go.IntKind.wrap .i64 (d167 + (1 : Int))), q85.2))))) fun (q184 : T_20) =>
 bif okB (some q184.2.2.1) none none q184.2.2.2.2.1.length then
 bif okB none (some q184.2.2.1) none ((app (List.take (Int.toNat q184.2.2.1) q184.2.2.2.2.1) (app (List.replicate (q184.2.2.2.2.1.length - (Int.toNat q184.2.2.1)) (((0 : Int), (0 : Int)), ((0 : Int), (false, ((0 : Int), (0 : Int)))))) (List.drop ((Int.toNat q184.2.2.1) + (q184.2.2.2.2.1.length - (Int.toNat q184.2.2.1))) q184.2.2.2.2.1))).length) then
 some ((), ((), ((q184.2.2.2.1, ((), q184.2.2.2.2.2)), midL (app (List.take (Int.toNat q184.2.2.1) q184.2.2.2.2.1) (app (List.replicate (q184.2.2.2.2.1.length - (Int.toNat q184.2.2.1)) (((0 : Int), (0 : Int)), ((0 : Int), (false, ((0 : Int), (0 : Int)))))) (List.drop ((Int.toNat q184.2.2.1) + (q184.2.2.2.2.1.length - (Int.toNat q184.2.2.1))) q184.2.2.2.2.1))) 0 (Int.toNat q184.2.2.1))))
 else
 none
 else
 none) fun (d185 : (Unit × (Unit × ((List ((Int × (Int × Int))) × (Unit × (List (((Int × Int) × Int)) × List ((Int × Int))))) × List (T_31))))) =>
 Option.bind (
 Option.bind (
 Option.bind (loopR (r19_L3 d185 a) (0 : Int)) fun (q264 : (Unit ⊕ Int)) =>
 Sum.elim (fun (_ : Unit) =>
 some (-1 : Int))
 (fun (v266 : Int) =>
 some v266) q264) fun (d267 : Int) =>
 bif decide (d267 = (-1 : Int)) then
 some ((), ((), ((d185.2.2.1.1, (d185.2.2.2, ((), d185.2.2.1.2.2.2))), d185.2.2.1.2.2.1)))
 else
 Option.bind (loopR (r19_L4 a) ((), ((), (d267, ((Go.IntKind.wrap .i64 (d267 + (1 : Int))), (d185.2.2.1.1, (d185.2.2.2, d185.2.2.1.2.2))))))) fun (q284 : T_20) =>
 bif okB (some q284.2.2.1) none none q284.2.2.2.2.2.1.length then
 bif okB none (some q284.2.2.1) none ((app (List.take (Int.toNat q284.2.2.1) q284.2.2.2.2.2.1) (app (List.replicate (q284.2.2.2.2.2.1.length - (Int.toNat q284.2.2.1)) (((0 : Int), (0 : Int)), (0 : Int))) (List.drop ((Int.toNat q284.2.2.1) + (q284.2.2.2.2.2.1.length - (Int.toNat q284.2.2.1))) q284.2.2.2.2.2.1))).length) then
 some ((), ((), ((q284.2.2.2.1, (q284.2.2.2.2.1, ((), q284.2.2.2.2.2.2))), midL (app (List.take (Int.toNat q284.2.2.1) q284.2.2.2.2.2.1) (app (List.replicate (q284.2.2.2.2.2.1.length - (Int.toNat q284.2.2.1)) (((0 : Int), (0 : Int)), (0 : Int))) (List.drop ((Int.toNat q284.2.2.1) + (q284.2.2.2.2.2.1.length - (Int.toNat q284.2.2.1))) q284.2.2.2.2.2.1))) 0 (Int.toNat q284.2.2.1))))
 else
 none
 else
 none) fun (d285 : (Unit × (Unit × ((List ((Int × (Int × Int))) × (List (T_31) × (Unit × List ((Int × Int))))) × List (((Int × Int) × Int)))))) =>
 Option.bind (
 Option.bind (r45 (d285.2.2.1.2.2.2, a.2.1)) fun (y288 : Bool) =>
 bif !(y288) then
 bif roomOk false d285.2.2.1.2.2.2.length 1 16 then
 some ((), (d285.2.2.1.1, (d285.2.2.1.2.1, (d285.2.2.2, app d285.2.2.1.2.2.2 [a.2.1]))))
 else
 none
 else
 some ((), (d285.2.2.1.1, (d285.2.2.1.2.1, (d285.2.2.2, d285.2.2.1.2.2.2))))) fun (d289 : T_24) =>
 some (d289.2, (0 : Int))
def an19 : Ann := .two (.leaf) (.two (.two (.leaf) (.two (.leaf) (.two (.two (.leaf) (.leaf)) (.leaf)))) (.two (.leaf) (.two (.two (.leaf) (.one (.loop [2, 4, 6, 24, 25] [4, 6] [] [.tmp 9 (.pt 9 [(0, 0)] 0 0 4), .tmp 26 (.int .i64), .box 9 [.sl .own E_47, .sl .own E_44, .sl .own E_48, .sl .own (.pair (.int .i64) (.int .i64))]] [⟨.exit 0, [], [.tmp 9 (.pt 9 [(0, 0)] 0 0 4), .box 9 [.sl .own E_47, .sl .own E_44, .sl .own E_48, .sl .own (.pair (.int .i64) (.int .i64))]]⟩] (.two (.leaf) (.two (.two (.leaf) (.leaf)) (.two (.join [2, 4, 6, 24, 25, 26] [4, 6] [⟨.normal, [], [.tmp 9 (.pt 9 [(0, 0)] 0 0 4), .box 9 [.sl .own E_47, .sl .own E_44, .sl .own E_48, .sl .own (.pair (.int .i64) (.int .i64))]]⟩] (.one (.two (.leaf) (.two (.two (.join [2, 4, 6, 9, 11, 24, 25, 26] [4, 6, 9, 11] [⟨.normal, [], [.tmp 42 (.bool)]⟩] (.segs [(9, ([2, 4, 6, 9, 11, 24, 25, 26], ([4, 6, 9, 11], [.tmp 38 (.bool)])))])) (.two (.leaf) (.leaf))) (.two (.leaf) (.two (.join [2, 4, 6, 11, 12, 24, 25, 26] [4, 6, 11] [⟨.normal, [], [.tmp 9 (.pt 9 [(0, 0)] 0 0 4), .box 9 [.sl .own E_47, .sl .own E_44, .sl .own E_48, .sl .own (.pair (.int .i64) (.int .i64))]]⟩] (.two (.leaf) (.two (.leaf) (.leaf)))) (.two (.leaf) (.leaf)))))))) (.leaf))))))) (.two (.inl 3 101 (.join [4, 6] [4, 6] [⟨.ret, [(105, E_44)], [.tmp 9 (.pt 9 [(0, 0)] 0 0 4), .tmp 105 (.own 105 [(0, 0)] E_44), .box 9 [.sl .own E_47, .dead, .sl .own E_48, .sl .own (.pair (.int .i64) (.int .i64))], .row 105 [.sl .own E_44]]⟩] (.two (.leaf) (.two (.inl 2 143 (.join [4, 6, 9, 101, 102] [4, 6, 9] [⟨.ret, [], [.tmp 147 (.int .i64)]⟩] (.two (.leaf) (.two (.two (.leaf) (.one (.loop [4, 6, 9, 101, 102, 143, 144, 150] [4, 6, 9] [] [.tmp 151 (.int .i64)] [⟨.exit 0, [], []⟩, ⟨.ret, [], [.tmp 147 (.int .i64)]⟩] (.two (.leaf) (.two (.two (.leaf) (.leaf)) (.two (.one (.two (.leaf) (.two (.inl 5 162 (.two (.leaf) (.two (.leaf) (.leaf))) (.leaf)) (.two (.two (.leaf) (.leaf)) (.leaf))))) (.leaf))))))) (.two (.leaf) (.leaf))))) (.leaf)) (.two (.two (.leaf) (.two (.two (.leaf) (.leaf)) (.leaf))) (.two (.two (.leaf) (.one (.loop [4, 6, 102] [4, 6] [] [.tmp 9 (.pt 9 [(0, 0)] 0 0 4), .tmp 101 (.own 9 [(0, 0), (0, 1)] E_44), .tmp 106 (.int .i64), .tmp 107 (.int .i64), .box 9 [.sl .own E_47, .sl .own E_44, .sl .own E_48, .sl .own (.pair (.int .i64) (.int .i64))]] [⟨.exit 0, [], [.tmp 9 (.pt 9 [(0, 0)] 0 0 4), .tmp 101 (.own 9 [(0, 0), (0, 1)] E_44), .tmp 106 (.int .i64), .box 9 [.sl .own E_47, .sl .own E_44, .sl .own E_48, .sl .own (.pair (.int .i64) (.int .i64))]]⟩] (.two (.two (.leaf) (.two (.leaf) (.leaf))) (.two (.join [4, 6, 102, 107] [4, 6] [⟨.normal, [], [.tmp 9 (.pt 9 [(0, 0)] 0 0 4), .tmp 101 (.own 9 [(0, 0), (0, 1)] E_44), .tmp 106 (.int .i64), .box 9 [.sl .own E_47, .sl .own E_44, .sl .own E_48, .sl .own (.pair (.int .i64) (.int .i64))]]⟩] (.one (.two (.leaf) (.two (.inl 2 170 (.two (.leaf) (.two (.leaf) (.leaf))) (.leaf)) (.two (.two (.leaf) (.leaf)) (.leaf)))))) (.leaf)))))) (.two (.leaf) (.two (.leaf) (.leaf)))))))) (.leaf)) (.two (.inl 3 178 (.join [4, 6] [4, 6] [⟨.ret, [(182, E_48)], [.tmp 9 (.pt 9 [(0, 0)] 0 0 4), .tmp 182 (.own 182 [(0, 0)] E_48), .box 9 [.sl .own E_47, .sl .own E_44, .dead, .sl .own (.pair (.int .i64) (.int .i64))], .row 182 [.sl .own E_48]]⟩] (.two (.leaf) (.two (.inl 2 220 (.join [4, 6, 9, 178, 179] [4, 6, 9] [⟨.ret, [], [.tmp 224 (.int .i64)]⟩] (.two (.leaf) (.two (.two (.leaf) (.one (.loop [4, 6, 9, 178, 179, 220, 221, 227] [4, 6, 9] [] [.tmp 228 (.int .i64)] [⟨.exit 0, [], []⟩, ⟨.ret, [], [.tmp 224 (.int .i64)]⟩] (.two (.leaf) (.two (.two (.leaf) (.leaf)) (.two (.one (.two (.leaf) (.two (.inl 5 239 (.two (.leaf) (.two (.leaf) (.leaf))) (.leaf)) (.two (.two (.leaf) (.leaf)) (.leaf))))) (.leaf))))))) (.two (.leaf) (.leaf))))) (.leaf)) (.two (.two (.leaf) (.two (.two (.leaf) (.leaf)) (.leaf))) (.two (.two (.leaf) (.one (.loop [4, 6, 179] [4, 6] [] [.tmp 9 (.pt 9 [(0, 0)] 0 0 4), .tmp 178 (.own 9 [(0, 0), (0, 2)] E_48), .tmp 183 (.int .i64), .tmp 184 (.int .i64), .box 9 [.sl .own E_47, .sl .own E_44, .sl .own E_48, .sl .own (.pair (.int .i64) (.int .i64))]] [⟨.exit 0, [], [.tmp 9 (.pt 9 [(0, 0)] 0 0 4), .tmp 178 (.own 9 [(0, 0), (0, 2)] E_48), .tmp 183 (.int .i64), .box 9 [.sl .own E_47, .sl .own E_44, .sl .own E_48, .sl .own (.pair (.int .i64) (.int .i64))]]⟩] (.two (.two (.leaf) (.two (.leaf) (.leaf))) (.two (.join [4, 6, 179, 184] [4, 6] [⟨.normal, [], [.tmp 9 (.pt 9 [(0, 0)] 0 0 4), .tmp 178 (.own 9 [(0, 0), (0, 2)] E_48), .tmp 183 (.int .i64), .box 9 [.sl .own E_47, .sl .own E_44, .sl .own E_48, .sl .own (.pair (.int .i64) (.int .i64))]]⟩] (.one (.two (.leaf) (.two (.inl 2 247 (.two (.leaf) (.two (.leaf) (.leaf))) (.leaf)) (.two (.two (.leaf) (.leaf)) (.leaf)))))) (.leaf)))))) (.two (.leaf) (.two (.leaf) (.leaf)))))))) (.leaf)) (.two (.join [6] [6] [⟨.normal, [], [.tmp 9 (.pt 9 [(0, 0)] 0 0 4), .box 9 [.sl .own E_47, .sl .own E_44, .sl .own E_48, .sl .own (.pair (.int .i64) (.int .i64))]]⟩] (.two (.leaf) (.two (.leaf) (.leaf)))) (.two (.leaf) (.leaf))))))))
theorem s19 : SoundF cx.P cx.G 19 sg19 r19 := by
  have e : denF cx [(37, ⟨sg37, r37⟩), (38, ⟨sg38, r38⟩), (39, ⟨sg39, r39⟩), (40, ⟨sg40, r40⟩), (45, ⟨sg45, r45⟩)] an19 Tryd.f19.ntmps (Tryd.f19.body.getD .skip) Tryd.f19.results.toList sg19 = r19 := by kernel_rfl
  rw [← e]
  exact sound_of_den (c := cx) (Known.cons (.ofF s37 (by kernel_rfl)) Tryd.func37 (by kernel_rfl) (by kernel_rfl) (Known.cons (.ofF s38 (by kernel_rfl)) Tryd.func38 (by kernel_rfl) (by kernel_rfl) (Known.cons (.ofF s39 (by kernel_rfl)) Tryd.func39 (by kernel_rfl) (by kernel_rfl) (Known.cons (.ofD s40 (by kernel_rfl)) Tryd.func40 (by kernel_rfl) (by kernel_rfl) (Known.cons (.ofF s45 (by kernel_rfl)) Tryd.func45 (by kernel_rfl) (by kernel_rfl) (Known.nil)))))) Tryd.func19 (by kernel_rfl) (Nat.le_of_ble_eq_true (by kernel_rfl)) rfl

/-! (*reredos/recover.memory).committed$1 -/
def sg96 : Sig := ⟨[⟨true, .bo, (.pair (.int .i64) (.pair (.int .i64) (.pair (.sl E_42) (.pair (.sl (.int .i64)) (.pair (.int .i64) (.int .i64))))))⟩, ⟨false, .bo, (.int .i64)⟩], [⟨false, .own, (.int .i64)⟩]⟩
noncomputable def r96 (a : (T_29 × Int)) : Option Int :=
 some (Go.IntKind.wrap .i64 (a.1.1 - a.2))
def an96 : Ann := .two (.leaf) (.two (.leaf) (.leaf))
theorem s96 : SoundF cx.P cx.G 96 sg96 r96 := by
  have e : denF cx [] an96 Tryd.f96.ntmps (Tryd.f96.body.getD .skip) Tryd.f96.results.toList sg96 = r96 := by kernel_rfl
  rw [← e]
  exact sound_of_den (c := cx) (Known.nil) Tryd.func96 (by kernel_rfl) (Nat.le_of_ble_eq_true (by kernel_rfl)) rfl

/-! slices.Insert[[]reredos/api.Job,reredos/api.Job] -/
set_option maxRecDepth 20000 in
theorem ins97_none {w : World} {ad bd : Option Addr} {n cap j cv : Nat} {ei ti : TyInfo} {e : TypeId} (hi : TyOk1 Tryd.prog 41 ti) (hd : ti.d = .sl e) (hei : TyOk1 Tryd.prog e ei) (hjn : j ≤ n) (hnc : n ≤ cap) :
    Calls Tryd.prog 97 #[.slice ad n cap, iv j, .slice bd 0 cv] w fun e w' => e = .returned (.slice ad n cap) ∧ w' = w := by
  have s1 := fun w => raw_slice (P := Tryd.prog) hi hd hei (ad := ad) (n := n) (cap := cap) (l := j) (h := n) (lo := some (iv j)) (hh := none) (.inr rfl) (.inl ⟨rfl, rfl⟩) hjn hnc w
  simp only [iv] at s1 ⊢
  go_enter Tryd.func97, Tryd.f97
  go_wp
  go_ret
  exact ⟨rfl, rfl⟩

set_option maxRecDepth 20000 in
theorem ins97_end {w w1 : World} {ad bd : Option Addr} {n cap m cv : Nat} {v : Value} {ei ti : TyInfo} {e : TypeId} (hi : TyOk1 Tryd.prog 41 ti) (hd : ti.d = .sl e) (hei : TyOk1 Tryd.prog e ei) (hnc : n ≤ cap) (hm : 0 < m)
    (hap : (Builtin.append_ #[41, 41] 41 #[.slice ad n cap, .slice bd m cv]).run Tryd.prog w = .ok v w1) :
    Calls Tryd.prog 97 #[.slice ad n cap, iv n, .slice bd m cv] w fun e w' => e = .returned v ∧ w' = w1 := by
  obtain ⟨v12, s1⟩ : ∃ v12, ∀ w, (Instr.sliceAt 41 (.slice ad n cap) (some (iv n)) none none).run Tryd.prog w = .ok v12 w := ⟨_, fun w => raw_slice (P := Tryd.prog) hi hd hei (ad := ad) (n := n) (cap := cap) (l := n) (h := n) (lo := some (iv n)) (hh := none) (.inr rfl) (.inl ⟨rfl, rfl⟩) (Nat.le_refl _) hnc w⟩
  simp only [iv] at s1 ⊢
  have hm0 : ¬ (m : Int) = 0 := by omega
  go_enter Tryd.func97, Tryd.f97
  go_wp2_with (at_builtin; refine wpList_val rfl (v := v) (w' := w1) (by simp [execOp, resolve, invoke, builtin, Act.eval, hap]) ?_)
  go_ret
  exact ⟨rfl, rfl⟩

set_option maxRecDepth 20000 in
theorem ins97_shift {w w2 w3 : World} {a66 av : Option Addr} {a76 : Option Addr} {b off n cap j m cv l66 c66 l76 c76 : Nat} {ei ti : TyInfo} {e : TypeId} (hi : TyOk1 Tryd.prog 41 ti) (hd : ti.d = .sl e) (hei : TyOk1 Tryd.prog e ei) (hjn : j < n) (hnc : n ≤ cap) (hm : 0 < m) (hroom : n + m ≤ cap) (hbig : n + m ≤ 281474976710656)
    (h60 : (Instr.sliceAt 41 (.slice (some ⟨b, off, none⟩) n cap) none (some (iv (n + m))) none).run Tryd.prog w = .ok (.slice (some ⟨b, off, none⟩) (n + m) cap) w)
    (h66 : ∀ w, (Instr.sliceAt 41 (.slice (some ⟨b, off, none⟩) (n + m) cap) (some (iv (j + m))) none none).run Tryd.prog w = .ok (.slice a66 l66 c66) w)
    (h76 : ∀ w, (Instr.sliceAt 41 (.slice (some ⟨b, off, none⟩) (n + m) cap) (some (iv j)) none none).run Tryd.prog w = .ok (.slice a76 l76 c76) w)
    (hov : (callFunc 104 #[.slice av m cv, .slice a66 l66 c66]).run Tryd.prog w = .ok (.value (.bool false)) w)
    (hc1 : ∀ ty, (Builtin.copy_ #[41, 41] ty #[.slice a66 l66 c66, .slice a76 l76 c76]).run Tryd.prog { w with drawn := w.drawn + 1 } = .ok (goInt ((n - j : Nat) : Int)) w2)
    (hc2 : ∀ ty, (Builtin.copy_ #[41, 41] ty #[.slice a76 l76 c76, .slice av m cv]).run Tryd.prog w2 = .ok (goInt m) w3) :
    Calls Tryd.prog 97 #[.slice (some ⟨b, off, none⟩) n cap, iv j, .slice av m cv] w fun e w' => e = .returned (.slice (some ⟨b, off, none⟩) (n + m) cap) ∧ w' = w3 := by
  obtain ⟨v12, s1⟩ : ∃ v12, ∀ w, (Instr.sliceAt 41 (.slice (some ⟨b, off, none⟩) n cap) (some (iv j)) none none).run Tryd.prog w = .ok v12 w := ⟨_, fun w => raw_slice (P := Tryd.prog) hi hd hei (ad := some ⟨b, off, none⟩) (n := n) (cap := cap) (l := j) (h := n) (lo := some (iv j)) (hh := none) (.inr rfl) (.inl ⟨rfl, rfl⟩) (by omega) hnc w⟩
  have e1 : ((n + m : Nat) : Int) = (n : Int) + m := by omega
  have e2 : ((j + m : Nat) : Int) = (j : Int) + m := by omega
  simp only [iv, e1, e2] at s1 h60 h66 h76 ⊢
  have hm0 : ¬ (m : Int) = 0 := by omega
  have hjn0 : ¬ (j : Int) = n := by omega
  have hw1 : IntKind.i64.wrap ((n : Int) + m) = (n : Int) + m := by rw [← e1]; exact wrap_nat hbig
  have hw2 : IntKind.i64.wrap ((j : Int) + m) = (j : Int) + m := by rw [← e2]; exact wrap_nat (by omega)
  have hle : ¬ ((cap : Int) < (n : Int) + m) := by omega
  go_enter Tryd.func97, Tryd.f97
  go_wp2_with (simp only [hov])
  refine wp_drawn_pure (m := 8) (ks := [69, 70, 71, 72, 73, 74, 75, 76]) (vs := [.slice (some ⟨b, off, none⟩) (n + m) cap, .int .i64 j, .int .i64 m, .int .i64 ((j : Int) + m), .slice a66 l66 c66, .slice (some ⟨b, off, none⟩) (n + m) cap, .int .i64 j, .slice a76 l76 c76]) (by kernel_rfl) (by kernel_rfl) rfl rfl (by decide) (by simp) ?_ ?_
  · intro k ks v hk hv
    match k with
    | 0 => cases hk; cases hv; exact ⟨_, rfl, rfl, rfl, fun a' ho hd w' => by have e := ho 0 (by decide); simp at e; simp [execOp, Act.eval, e]⟩
    | 1 => cases hk; cases hv; exact ⟨_, rfl, rfl, rfl, fun a' ho hd w' => by have e := ho 1 (by decide); simp at e; simp [execOp, Act.eval, e]⟩
    | 2 => cases hk; cases hv; exact ⟨_, rfl, rfl, rfl, fun a' ho hd w' => by have e := ho 7 (by decide); simp at e; simp [execOp, Act.eval, e]⟩
    | 3 =>
      cases hk; cases hv
      exact ⟨_, rfl, rfl, rfl, fun a' ho hd w' => by
        have e0 := hd 1 70 _ ((mem_iff _ _).1 (by kernel_rfl)) rfl rfl
        have e1 := hd 2 71 _ ((mem_iff _ _).1 (by kernel_rfl)) rfl rfl
        simp [execOp, Act.eval, e0, e1, add_guard, add_run, hw2]⟩
    | 4 =>
      cases hk; cases hv
      exact ⟨_, rfl, rfl, rfl, fun a' ho hd w' => by
        have e0 := hd 0 69 _ ((mem_iff _ _).1 (by kernel_rfl)) rfl rfl
        have e1 := hd 3 72 _ ((mem_iff _ _).1 (by kernel_rfl)) rfl rfl
        simp [execOp, Act.eval, e0, e1, h66]⟩
    | 5 => cases hk; cases hv; exact ⟨_, rfl, rfl, rfl, fun a' ho hd w' => by have e := ho 0 (by decide); simp at e; simp [execOp, Act.eval, e]⟩
    | 6 => cases hk; cases hv; exact ⟨_, rfl, rfl, rfl, fun a' ho hd w' => by have e := ho 1 (by decide); simp at e; simp [execOp, Act.eval, e]⟩
    | 7 =>
      cases hk; cases hv
      exact ⟨_, rfl, rfl, rfl, fun a' ho hd w' => by
        have e0 := hd 5 74 _ ((mem_iff _ _).1 (by kernel_rfl)) rfl rfl
        have e1 := hd 6 75 _ ((mem_iff _ _).1 (by kernel_rfl)) rfl rfl
        simp [execOp, Act.eval, e0, e1, h76]⟩
    | k + 8 => simp at hk
  · simp only [Act.putAll, Act.put, List.drop_succ_cons, List.drop_zero]
    have hc1' := fun ty => (show (Builtin.copy_ #[41, 41] ty #[.slice a66 l66 c66, .slice a76 l76 c76]).run Tryd.prog w.drew = .ok (goInt ((n - j : Nat) : Int)) w2 from hc1 ty)
    refine wpList_val rfl (v := goInt ((n - j : Nat) : Int)) (w' := w2) (by simp [execOp, resolve, invoke, builtin, Act.eval, hc1']) ?_
    go_wp
    go_ret
    exact ⟨rfl, rfl⟩

set_option maxRecDepth 20000 in
theorem ins97_grow {w w1 w2 w3 : World} {av a34 a43 a50 a53 : Option Addr} {b off n cap j m cv l43 c43 l50 c50 l53 c53 l34 c34 newCap W : Nat} {ei ti : TyInfo} {e : TypeId} (_hi : TyOk1 Tryd.prog 41 ti) (_hd : ti.d = .sl e) (_hei : TyOk1 Tryd.prog e ei) (hjn : j < n) (_hnc : n ≤ cap) (hm : 0 < m) (hroom : cap < n + m) (hbig : n + m ≤ 281474976710656)
    (h34 : ∀ w, (Instr.sliceAt 41 (.slice (some ⟨b, off, none⟩) n cap) none (some (iv j)) none).run Tryd.prog w = .ok (.slice a34 l34 c34) w)
    (hap : (Builtin.append_ #[41, 3] 41 #[.slice a34 l34 c34, iv (n + m - j)]).run Tryd.prog w = .ok (.slice (some ⟨W, 0, none⟩) (n + m) newCap) w1)
    (h43 : ∀ w1, (Instr.sliceAt 41 (.slice (some ⟨W, 0, none⟩) (n + m) newCap) (some (iv j)) none none).run Tryd.prog w1 = .ok (.slice a43 l43 c43) w1)
    (h50 : ∀ w1, (Instr.sliceAt 41 (.slice (some ⟨W, 0, none⟩) (n + m) newCap) (some (iv (j + m))) none none).run Tryd.prog w1 = .ok (.slice a50 l50 c50) w1)
    (h53 : ∀ w1, (Instr.sliceAt 41 (.slice (some ⟨b, off, none⟩) n cap) (some (iv j)) none none).run Tryd.prog w1 = .ok (.slice a53 l53 c53) w1)
    (hc1 : ∀ ty, (Builtin.copy_ #[41, 41] ty #[.slice a43 l43 c43, .slice av m cv]).run Tryd.prog w1 = .ok (goInt m) w2)
    (hc2 : ∀ ty, (Builtin.copy_ #[41, 41] ty #[.slice a50 l50 c50, .slice a53 l53 c53]).run Tryd.prog { w2 with drawn := w2.drawn + 1 } = .ok (goInt ((n - j : Nat) : Int)) w3) :
    Calls Tryd.prog 97 #[.slice (some ⟨b, off, none⟩) n cap, iv j, .slice av m cv] w fun e w' => e = .returned (.slice (some ⟨W, 0, none⟩) (n + m) newCap) ∧ w' = w3 := by
  have e1 : ((n + m : Nat) : Int) = (n : Int) + m := by omega
  have e2 : ((j + m : Nat) : Int) = (j : Int) + m := by omega
  have e3 : ((n + m - j : Nat) : Int) = (n : Int) + m - j := by omega
  simp only [iv, e2, e3] at h34 hap h43 h50 h53 ⊢
  have hm0 : ¬ (m : Int) = 0 := by omega
  have hjn0 : ¬ (j : Int) = n := by omega
  have hw1 : IntKind.i64.wrap ((n : Int) + m) = (n : Int) + m := by rw [← e1]; exact wrap_nat hbig
  have hw2 : IntKind.i64.wrap ((j : Int) + m) = (j : Int) + m := by rw [← e2]; exact wrap_nat (by omega)
  have hw3 : IntKind.i64.wrap ((n : Int) + m - j) = (n : Int) + m - j := by rw [← e3]; exact wrap_nat (by omega)
  have hlt : ((cap : Int) < (n : Int) + m) := by omega
  go_enter Tryd.func97, Tryd.f97
  go_wp2_with (at_builtin; refine wpList_val rfl (v := .slice (some ⟨W, 0, none⟩) (n + m) newCap) (w' := w1) (by simp [execOp, resolve, invoke, builtin, Act.eval, hap]) ?_)
  refine wp_drawn_pure (m := 8) (ks := [46, 47, 48, 49, 50, 51, 52, 53]) (vs := [.slice (some ⟨W, 0, none⟩) (n + m) newCap, .int .i64 j, .int .i64 m, .int .i64 ((j : Int) + m), .slice a50 l50 c50, .slice (some ⟨b, off, none⟩) n cap, .int .i64 j, .slice a53 l53 c53]) (by kernel_rfl) (by kernel_rfl) rfl rfl (by decide) (by simp) ?_ ?_
  · intro k ks v hk hv
    match k with
    | 0 => cases hk; cases hv; exact ⟨_, rfl, rfl, rfl, fun a' ho hd w' => by have e := ho 9 (by decide); simp at e; simp [execOp, Act.eval, e]⟩
    | 1 => cases hk; cases hv; exact ⟨_, rfl, rfl, rfl, fun a' ho hd w' => by have e := ho 1 (by decide); simp at e; simp [execOp, Act.eval, e]⟩
    | 2 => cases hk; cases hv; exact ⟨_, rfl, rfl, rfl, fun a' ho hd w' => by have e := ho 7 (by decide); simp at e; simp [execOp, Act.eval, e]⟩
    | 3 =>
      cases hk; cases hv
      exact ⟨_, rfl, rfl, rfl, fun a' ho hd w' => by
        have e0 := hd 1 47 _ ((mem_iff _ _).1 (by kernel_rfl)) rfl rfl
        have e1 := hd 2 48 _ ((mem_iff _ _).1 (by kernel_rfl)) rfl rfl
        simp [execOp, Act.eval, e0, e1, add_guard, add_run, hw2]⟩
    | 4 =>
      cases hk; cases hv
      exact ⟨_, rfl, rfl, rfl, fun a' ho hd w' => by
        have e0 := hd 0 46 _ ((mem_iff _ _).1 (by kernel_rfl)) rfl rfl
        have e1 := hd 3 49 _ ((mem_iff _ _).1 (by kernel_rfl)) rfl rfl
        simp [execOp, Act.eval, e0, e1, h50]⟩
    | 5 => cases hk; cases hv; exact ⟨_, rfl, rfl, rfl, fun a' ho hd w' => by have e := ho 0 (by decide); simp at e; simp [execOp, Act.eval, e]⟩
    | 6 => cases hk; cases hv; exact ⟨_, rfl, rfl, rfl, fun a' ho hd w' => by have e := ho 1 (by decide); simp at e; simp [execOp, Act.eval, e]⟩
    | 7 =>
      cases hk; cases hv
      exact ⟨_, rfl, rfl, rfl, fun a' ho hd w' => by
        have e0 := hd 5 51 _ ((mem_iff _ _).1 (by kernel_rfl)) rfl rfl
        have e1 := hd 6 52 _ ((mem_iff _ _).1 (by kernel_rfl)) rfl rfl
        simp [execOp, Act.eval, e0, e1, h53]⟩
    | k + 8 => simp at hk
  · simp only [Act.putAll, Act.put, List.drop_succ_cons, List.drop_zero]
    have hc2' := fun ty => (show (Builtin.copy_ #[41, 41] ty #[.slice a50 l50 c50, .slice a53 l53 c53]).run Tryd.prog w2.drew = .ok (goInt ((n - j : Nat) : Int)) w3 from hc2 ty)
    refine wpList_val rfl (v := goInt ((n - j : Nat) : Int)) (w' := w3) (by simp [execOp, resolve, invoke, builtin, Act.eval, hc2']) ?_
    go_wp
    go_ret
    exact ⟨rfl, rfl⟩

set_option maxRecDepth 20000 in
theorem ins97 : InsOk Tryd.prog 97 41 3 104 4 where
  none := fun w ad bd n cap j cv h1 h2 => ins97_none (tysOk 41 ⟨.sl 65, 1, 24, [.slice none 0 0], false, [some E_40], [none], E_39⟩ (by kernel_rfl)) rfl (tysOk 65 ⟨.st [(0, 3), (1, 3), (2, 63), (3, 31), (4, 3), (5, 3)], 6, 80, [.int .i64 0, .int .i64 0, .slice none 0 0, .slice none 0 0, .int .i64 0, .int .i64 0], false, [none, none, some E_42, some (.int .i64), none, none], [none, none, none, none, none, none], E_40⟩ (by kernel_rfl)) h1 h2
  stop := fun w w1 ad bd n cap m cv v h1 h2 h3 => ins97_end (tysOk 41 ⟨.sl 65, 1, 24, [.slice none 0 0], false, [some E_40], [none], E_39⟩ (by kernel_rfl)) rfl (tysOk 65 ⟨.st [(0, 3), (1, 3), (2, 63), (3, 31), (4, 3), (5, 3)], 6, 80, [.int .i64 0, .int .i64 0, .slice none 0 0, .slice none 0 0, .int .i64 0, .int .i64 0], false, [none, none, some E_42, some (.int .i64), none, none], [none, none, none, none, none, none], E_40⟩ (by kernel_rfl)) h1 h2 h3
  shift := fun w w2 w3 a66 av a76 b off n cap j m cv l66 c66 l76 c76 h1 h2 h3 h4 h5 h6 h7 h8 h9 h10 h11 => ins97_shift (tysOk 41 ⟨.sl 65, 1, 24, [.slice none 0 0], false, [some E_40], [none], E_39⟩ (by kernel_rfl)) rfl (tysOk 65 ⟨.st [(0, 3), (1, 3), (2, 63), (3, 31), (4, 3), (5, 3)], 6, 80, [.int .i64 0, .int .i64 0, .slice none 0 0, .slice none 0 0, .int .i64 0, .int .i64 0], false, [none, none, some E_42, some (.int .i64), none, none], [none, none, none, none, none, none], E_40⟩ (by kernel_rfl)) h1 h2 h3 h4 h5 h6 h7 h8 h9 h10 h11
  grow := fun w w1 w2 w3 av a34 a43 a50 a53 b off n cap j m cv l43 c43 l50 c50 l53 c53 l34 c34 newCap W h1 h2 h3 h4 h5 h6 h7 h8 h9 h10 h11 h12 => ins97_grow (tysOk 41 ⟨.sl 65, 1, 24, [.slice none 0 0], false, [some E_40], [none], E_39⟩ (by kernel_rfl)) rfl (tysOk 65 ⟨.st [(0, 3), (1, 3), (2, 63), (3, 31), (4, 3), (5, 3)], 6, 80, [.int .i64 0, .int .i64 0, .slice none 0 0, .slice none 0 0, .int .i64 0, .int .i64 0], false, [none, none, some E_42, some (.int .i64), none, none], [none, none, none, none, none, none], E_40⟩ (by kernel_rfl)) h1 h2 h3 h4 h5 h6 h7 h8 h9 h10 h11 h12
  over := fun args w => run_callFunc_extern Tryd.func104 (by kernel_rfl) (by kernel_rfl) (by kernel_rfl) (e := Extern.SlicesOverlaps.overlaps #[41, 41] #[4]) (by kernel_rfl) args w
def sg97 : Sig := insS E_40
noncomputable def r97 (a : List T_29 × (Int × List T_29)) : Option (List T_29) := insR 80 a
set_option maxRecDepth 20000 in
theorem s97 : SoundD cx.P 97 sg97 r97 := by
  have h : SoundD cx.P 97 (insS E_40) (insR 80) := ins_sound (c := cx) (e := E_40) (ei := ⟨.st [(0, 3), (1, 3), (2, 63), (3, 31), (4, 3), (5, 3)], 6, 80, [.int .i64 0, .int .i64 0, .slice none 0 0, .slice none 0 0, .int .i64 0, .int .i64 0], false, [none, none, some E_42, some (.int .i64), none, none], [none, none, none, none, none, none], E_40⟩) ins97 (tysOk 41 ⟨.sl 65, 1, 24, [.slice none 0 0], false, [some E_40], [none], E_39⟩ (by kernel_rfl)) (by kernel_rfl) (tysOk 65 ⟨.st [(0, 3), (1, 3), (2, 63), (3, 31), (4, 3), (5, 3)], 6, 80, [.int .i64 0, .int .i64 0, .slice none 0 0, .slice none 0 0, .int .i64 0, .int .i64 0], false, [none, none, some E_42, some (.int .i64), none, none], [none, none, none, none, none, none], E_40⟩ (by kernel_rfl)) (xt := 3) (kk := .i64) (by kernel_rfl) (by kernel_rfl) (by kernel_rfl) (by decide) (by decide) (by kernel_rfl)
  exact h

/-! slices.Clone[[]int,int] -/
def sg98 : Sig := ⟨[⟨false, .bo, (.sl (.int .i64))⟩], [⟨false, .own, (.sl (.int .i64))⟩]⟩
noncomputable def r98 (a : List Int) : Option (List Int) :=
 nilR a fun (n1 : Bool) =>
 bif n1 then
 some []
 else
 bif roomOk false 0 a.length 8 then
 some a
 else
 none
def an98 : Ann := .two (.leaf) (.two (.two (.leaf) (.two (.two (.leaf) (.leaf)) (.leaf))) (.two (.leaf) (.leaf)))
theorem s98 : SoundF cx.P cx.G 98 sg98 r98 := by
  have e : denF cx [] an98 Tryd.f98.ntmps (Tryd.f98.body.getD .skip) Tryd.f98.results.toList sg98 = r98 := by kernel_rfl
  rw [← e]
  exact sound_of_den (c := cx) (Known.nil) Tryd.func98 (by kernel_rfl) (Nat.le_of_ble_eq_true (by kernel_rfl)) rfl

/-! reredos/recover.Rebuild -/
noncomputable def r16_L0 (a : T_28) (d6 : T_16) : Option (T_16 ⊕ (T_17 ⊕ T_15)) :=
 bif decide (d6.2.2.1 < (↑a.2.2.length : Int)) then
 Option.bind (idxI a.2.2 d6.2.2.1) fun (b7 : T_30) =>
 Option.bind (r35 (a.1, b7)) fun (y8 : Int) =>
 bif !(decide (y8 = (0 : Int))) then
 some (Sum.inr (Sum.inr ((), ((), ((), (y8, (([], ([], ([], []))), ((0 : Int), []))))))))
 else
 some (Sum.inl ((), ((), ((Go.IntKind.wrap .i64 (d6.2.2.1 + (1 : Int))), d6.2.2.2))))
 else
 some (Sum.inr (Sum.inl ((), ((), d6.2.2.2))))
noncomputable def r16_L1 (d21354 : T_9) (b19557 : T_30) (d21366 : T_7) : Option (T_7 ⊕ T_11) :=
 bif decide (d21366.2.2.2.1 < (↑d21354.2.2.2.2.2.length : Int)) then
 Option.bind (
 bif inB d21366.2.2.2.1 d21366.2.2.2.2.2.2.2.length then
 Option.bind (idxN d21366.2.2.2.2.2.2.2 (Int.toNat d21366.2.2.2.1)) fun (x21373 : ((Int × Int) × (Bool × Bool))) =>
 Option.bind (
 bif (decide (x21373.1.1 = b19557.2.1.1) && (decide (x21373.1.2 = b19557.2.1.2) && true)) then
 some (!(decide (x21373.2.1 = b19557.2.2.2.2.2.1)))
 else
 some false) fun (d21374 : Bool) =>
 bif d21374 then
 bif inB d21366.2.2.2.1 d21366.2.2.2.2.2.2.2.length then
 Option.bind (idxN d21366.2.2.2.2.2.2.2 (Int.toNat d21366.2.2.2.1)) fun (x21375 : ((Int × Int) × (Bool × Bool))) =>
 some ((), ((), ((), (d21366.2.2.2.2.1, (d21366.2.2.2.2.2.1, (d21366.2.2.2.2.2.2.1, List.set d21366.2.2.2.2.2.2.2 (Int.toNat d21366.2.2.2.1) (x21375.1, (x21375.2.1, true))))))))
 else
 none
 else
 some ((), ((), ((), d21366.2.2.2.2)))
 else
 none) fun (d21376 : T_8) =>
 some (Sum.inl ((), ((), ((), ((Go.IntKind.wrap .i64 (d21366.2.2.2.1 + (1 : Int))), d21376.2.2.2)))))
 else
 some (Sum.inr ((), d21366.2.2.2.2))
noncomputable def r16_L2 (d19556 : T_10) (b19557 : T_30) (d21701 : (Int × Int)) : Option ((Int × Int) ⊕ Int) :=
 bif decide (d21701.1 < d21701.2) then
 bif inB (Go.IntKind.wrap .i64 (Int.fdiv (Go.IntKind.wrap .u64 (Go.IntKind.wrap .i64 (d21701.1 + d21701.2))) (2 ^ 1))) d19556.2.2.2.2.1.2.length then
 Option.bind (idxN d19556.2.2.2.2.1.2 (Int.toNat (Go.IntKind.wrap .i64 (Int.fdiv (Go.IntKind.wrap .u64 (Go.IntKind.wrap .i64 (d21701.1 + d21701.2))) (2 ^ 1))))) fun (x21702 : T_29) =>
 bif decide ((Go.IntKind.wrap .i64 (x21702.1 - b19557.2.1.2)) < (0 : Int)) then
 some (Sum.inl ((Go.IntKind.wrap .i64 ((Go.IntKind.wrap .i64 (Int.fdiv (Go.IntKind.wrap .u64 (Go.IntKind.wrap .i64 (d21701.1 + d21701.2))) (2 ^ 1))) + (1 : Int))), d21701.2))
 else
 some (Sum.inl (d21701.1, (Go.IntKind.wrap .i64 (Int.fdiv (Go.IntKind.wrap .u64 (Go.IntKind.wrap .i64 (d21701.1 + d21701.2))) (2 ^ 1)))))
 else
 none
 else
 some (Sum.inr d21701.1)
noncomputable def r16_L3 (d19556 : T_10) (b19557 : T_30) (d22103 : Int) : Option (Int ⊕ (Unit ⊕ Int)) :=
 bif decide (d22103 < (↑d19556.2.2.2.2.1.2.length : Int)) then
 bif inB d22103 d19556.2.2.2.2.1.2.length then
 Option.bind (idxN d19556.2.2.2.2.1.2 (Int.toNat d22103)) fun (x22104 : T_29) =>
 bif (decide (b19557.2.1.1 = d19556.2.2.1) && (decide (b19557.2.1.2 = x22104.1) && true)) then
 some (Sum.inr (Sum.inr d22103))
 else
 some (Sum.inl (Go.IntKind.wrap .i64 (d22103 + (1 : Int))))
 else
 none
 else
 some (Sum.inr (Sum.inl ()))
noncomputable def r16_L4 (b19557 : T_30) (d22117 : T_0) : Option (T_0 ⊕ T_4) :=
 bif decide (d22117.2.2.2.2.2.2.2.2.2.2.1 < (↑d22117.2.2.2.2.2.2.2.2.2.2.2.2.2.1.2.length : Int)) then
 Option.bind (
 bif inB d22117.2.2.2.2.2.2.2.2.2.2.1 d22117.2.2.2.2.2.2.2.2.2.2.2.2.2.1.2.length then
 Option.bind (idxN d22117.2.2.2.2.2.2.2.2.2.2.2.2.2.1.2 (Int.toNat d22117.2.2.2.2.2.2.2.2.2.2.1)) fun (x22122 : T_29) =>
 bif !((decide (b19557.2.1.1 = d22117.2.2.2.2.2.2.2.2.2.2.2.1) && (decide (b19557.2.1.2 = x22122.1) && true))) then
 bif inB d22117.2.2.2.2.2.2.2.2.2.1 d22117.2.2.2.2.2.2.2.2.2.2.2.2.2.1.2.length then
 Option.bind (idxN d22117.2.2.2.2.2.2.2.2.2.2.2.2.2.1.2 (Int.toNat d22117.2.2.2.2.2.2.2.2.2.1)) fun (_ : T_29) =>
 some ((), ((), ((), ((), ((), ((), ((), ((), ((), ((Go.IntKind.wrap .i64 (d22117.2.2.2.2.2.2.2.2.2.1 + (1 : Int))), (d22117.2.2.2.2.2.2.2.2.2.2.2.1, (d22117.2.2.2.2.2.2.2.2.2.2.2.2.1, ((d22117.2.2.2.2.2.2.2.2.2.2.2.2.2.1.1, List.set d22117.2.2.2.2.2.2.2.2.2.2.2.2.2.1.2 (Int.toNat d22117.2.2.2.2.2.2.2.2.2.1) x22122), d22117.2.2.2.2.2.2.2.2.2.2.2.2.2.2)))))))))))))
 else
 none
 else
 some ((), ((), ((), ((), ((), ((), ((), ((), ((), (d22117.2.2.2.2.2.2.2.2.2.1, d22117.2.2.2.2.2.2.2.2.2.2.2))))))))))
 else
 none) fun (d22124 : T_1) =>
 some (Sum.inl ((), ((), ((), ((), ((), ((), ((), ((), ((), (d22124.2.2.2.2.2.2.2.2.2.1, ((Go.IntKind.wrap .i64 (d22117.2.2.2.2.2.2.2.2.2.2.1 + (1 : Int))), d22124.2.2.2.2.2.2.2.2.2.2))))))))))))
 else
 some (Sum.inr ((), ((), ((), ((), ((), ((), ((), ((), (d22117.2.2.2.2.2.2.2.2.2.1, d22117.2.2.2.2.2.2.2.2.2.2.2))))))))))
noncomputable def r16_L5 (d19556 : T_10) (b19557 : T_30) (d22203 : Int) : Option (Int ⊕ (Unit ⊕ Int)) :=
 bif decide (d22203 < (↑d19556.2.2.2.2.1.2.length : Int)) then
 bif inB d22203 d19556.2.2.2.2.1.2.length then
 Option.bind (idxN d19556.2.2.2.2.1.2 (Int.toNat d22203)) fun (x22204 : T_29) =>
 bif (decide (b19557.2.1.1 = d19556.2.2.1) && (decide (b19557.2.1.2 = x22204.1) && true)) then
 some (Sum.inr (Sum.inr d22203))
 else
 some (Sum.inl (Go.IntKind.wrap .i64 (d22203 + (1 : Int))))
 else
 none
 else
 some (Sum.inr (Sum.inl ()))
noncomputable def r16_L6 (b19557 : T_30) (d22217 : T_2) : Option (T_2 ⊕ T_6) :=
 bif decide (d22217.2.2.2.2.2.2.2.2.2.1 < (↑d22217.2.2.2.2.2.2.2.2.2.2.2.2.1.2.length : Int)) then
 Option.bind (
 bif inB d22217.2.2.2.2.2.2.2.2.2.1 d22217.2.2.2.2.2.2.2.2.2.2.2.2.1.2.length then
 Option.bind (idxN d22217.2.2.2.2.2.2.2.2.2.2.2.2.1.2 (Int.toNat d22217.2.2.2.2.2.2.2.2.2.1)) fun (x22222 : T_29) =>
 bif !((decide (b19557.2.1.1 = d22217.2.2.2.2.2.2.2.2.2.2.1) && (decide (b19557.2.1.2 = x22222.1) && true))) then
 bif inB d22217.2.2.2.2.2.2.2.2.1 d22217.2.2.2.2.2.2.2.2.2.2.2.2.1.2.length then
 Option.bind (idxN d22217.2.2.2.2.2.2.2.2.2.2.2.2.1.2 (Int.toNat d22217.2.2.2.2.2.2.2.2.1)) fun (_ : T_29) =>
 some ((), ((), ((), ((), ((), ((), ((), ((), ((Go.IntKind.wrap .i64 (d22217.2.2.2.2.2.2.2.2.1 + (1 : Int))), (d22217.2.2.2.2.2.2.2.2.2.2.1, (d22217.2.2.2.2.2.2.2.2.2.2.2.1, ((d22217.2.2.2.2.2.2.2.2.2.2.2.2.1.1, List.set d22217.2.2.2.2.2.2.2.2.2.2.2.2.1.2 (Int.toNat d22217.2.2.2.2.2.2.2.2.1) x22222), d22217.2.2.2.2.2.2.2.2.2.2.2.2.2))))))))))))
 else
 none
 else
 some ((), ((), ((), ((), ((), ((), ((), ((), (d22217.2.2.2.2.2.2.2.2.1, d22217.2.2.2.2.2.2.2.2.2.2)))))))))
 else
 none) fun (d22224 : T_4) =>
 some (Sum.inl ((), ((), ((), ((), ((), ((), ((), ((), (d22224.2.2.2.2.2.2.2.2.1, ((Go.IntKind.wrap .i64 (d22217.2.2.2.2.2.2.2.2.2.1 + (1 : Int))), d22224.2.2.2.2.2.2.2.2.2)))))))))))
 else
 some (Sum.inr ((), ((), ((), ((), ((), ((), ((), (d22217.2.2.2.2.2.2.2.2.1, d22217.2.2.2.2.2.2.2.2.2.2)))))))))
noncomputable def r16_L7 (a : T_28) (d19556 : T_10) : Option (T_10 ⊕ T_11) :=
 bif decide (d19556.2.1 < (↑a.2.2.length : Int)) then
 Option.bind (idxI a.2.2 d19556.2.1) fun (b19557 : T_30) =>
 Option.bind (
 bif decide (b19557.1 = (1 : Int)) then
 Option.bind (
 Option.bind (r30 (d19556.2.2.2.1, b19557.2.1, b19557.2.2.1, b19557.2.2.2.1, b19557.2.2.2.2.1)) fun (y21340 : T_25) =>
 
 some ((), (y21340.2, y21340.1))) fun (d21341 : T_22) =>
 bif decide (d21341.2.1 = (0 : Int)) then
 some ((), (d19556.2.2.1, (d21341.2.2, d19556.2.2.2.2)))
 else
 some ((), d19556.2.2)
 else
 bif decide (b19557.1 = (2 : Int)) then
 Option.bind (
 Option.bind (
 Option.bind (r19 (d19556.2.2.2.1, b19557.2.1, b19557.2.2.2.2.2.1)) fun (y21352 : T_25) =>
 
 some ((), (y21352.2, y21352.1))) fun (d21353 : T_22) =>
 bif decide (d21353.2.1 = (0 : Int)) then
 some ((), ((), (d19556.2.2.1, (d21353.2.2, d19556.2.2.2.2))))
 else
 some ((), ((), d19556.2.2))) fun (d21354 : T_9) =>
 Option.bind (loopR (r16_L1 d21354 b19557) ((), ((), ((), ((0 : Int), d21354.2.2))))) fun (q21377 : T_11) =>
 some ((), q21377.2)
 else
 bif decide (b19557.1 = (6 : Int)) then
 Option.bind (
 Option.bind (
 Option.bind (r19 (d19556.2.2.2.1, b19557.2.1, b19557.2.2.2.2.2.1)) fun (y21388 : T_25) =>
 
 some ((), (y21388.2, y21388.1))) fun (d21389 : T_22) =>
 bif decide (d21389.2.1 = (0 : Int)) then
 some ((), ((), (d19556.2.2.1, (d21389.2.2, d19556.2.2.2.2))))
 else
 some ((), ((), d19556.2.2))) fun (d21390 : T_9) =>
 Option.bind (
 
 bif roomOk false d21390.2.2.2.2.2.length 1 24 then
 some ((), (d21390.2.2.1, (d21390.2.2.2.1, (d21390.2.2.2.2.1, app d21390.2.2.2.2.2 [(b19557.2.1, (b19557.2.2.2.2.2.1, false))]))))
 else
 none) fun (d21391 : T_11) =>
 some ((), d21391.2)
 else
 bif decide (b19557.1 = (3 : Int)) then
 Option.bind (
 Option.bind (
 Option.bind (
 Option.bind (loopR (r16_L2 d19556 b19557) ((0 : Int), (↑d19556.2.2.2.2.1.2.length : Int))) fun (q21703 : Int) =>
 bif decide (q21703 < (↑d19556.2.2.2.2.1.2.length : Int)) then
 bif inB q21703 d19556.2.2.2.2.1.2.length then
 Option.bind (idxN d19556.2.2.2.2.1.2 (Int.toNat q21703)) fun (x21704 : T_29) =>
 some (q21703, decide ((Go.IntKind.wrap .i64 (x21704.1 - b19557.2.1.2)) = (0 : Int)))
 else
 none
 else
 some (q21703, false)) fun (d21705 : (Int × Bool)) =>
 
 some d21705) fun (d21706 : (Int × Bool)) =>
 Option.bind (
 bif !(d21706.2) then
 bif !(!(decide (b19557.2.1.1 = d19556.2.2.1))) then
 bif !(decide (d19556.2.2.2.2.1.1 ≤ b19557.2.1.2)) then
 bif !(decide ((↑b19557.2.2.2.2.2.2.length : Int) = (0 : Int))) then
 some (decide ((↑d19556.2.2.2.2.1.2.length : Int) = (6 : Int)))
 else
 some true
 else
 some true
 else
 some true
 else
 some true) fun (d21707 : Bool) =>
 bif d21707 then
 some (Sum.inr ((), d19556.2.2))
 else
 Option.bind (
 Option.bind (r98 b19557.2.2.2.2.2.2) fun (y21792 : List Int) =>
 
 Option.bind (r97 (d19556.2.2.2.2.1.2, d21706.1, [(b19557.2.1.2, ((3 : Int), ([], (y21792, ((0 : Int), (0 : Int))))))])) fun (y21793 : List (T_29)) =>
 some ((), (d19556.2.2.1, (d19556.2.2.2.1, ((d19556.2.2.2.2.1.1, y21793), d19556.2.2.2.2.2))))) fun (d21823 : T_11) =>
 some (Sum.inl ((), d21823.2))) fun (d21824 : (T_11 ⊕ T_11)) =>
 Sum.elim (fun (v21825 : T_11) =>
 some ((), v21825.2))
 (fun (v21826 : T_11) =>
 some ((), v21826.2)) d21824
 else
 bif decide (b19557.1 = (4 : Int)) then
 Option.bind (
 
 Option.bind (
 Option.bind (
 Option.bind (loopR (r16_L3 d19556 b19557) (0 : Int)) fun (q22105 : (Unit ⊕ Int)) =>
 Sum.elim (fun (_ : Unit) =>
 some (-1 : Int))
 (fun (v22107 : Int) =>
 some v22107) q22105) fun (d22108 : Int) =>
 bif decide (d22108 = (-1 : Int)) then
 some ((), ((), ((), ((), ((), ((), ((), ((), ((d19556.2.2.1, (d19556.2.2.2.1.1, (d19556.2.2.2.1.2.1, (d19556.2.2.2.1.2.2.1, (d19556.2.2.2.1.2.2.2, (d19556.2.2.2.2.1.1, ((), d19556.2.2.2.2.2))))))), d19556.2.2.2.2.1.2)))))))))
 else
 Option.bind (loopR (r16_L4 b19557) ((), ((), ((), ((), ((), ((), ((), ((), ((), (d22108, ((Go.IntKind.wrap .i64 (d22108 + (1 : Int))), d19556.2.2)))))))))))) fun (q22125 : T_4) =>
 bif okB (some q22125.2.2.2.2.2.2.2.2.1) none none q22125.2.2.2.2.2.2.2.2.2.2.2.1.2.length then
 bif okB none (some q22125.2.2.2.2.2.2.2.2.1) none ((((((q22125.2.2.2.2.2.2.2.2.2.1, (q22125.2.2.2.2.2.2.2.2.2.2.1, ((q22125.2.2.2.2.2.2.2.2.2.2.2.1.1, app (List.take (Int.toNat q22125.2.2.2.2.2.2.2.2.1) q22125.2.2.2.2.2.2.2.2.2.2.2.1.2) (app (List.replicate (q22125.2.2.2.2.2.2.2.2.2.2.2.1.2.length - (Int.toNat q22125.2.2.2.2.2.2.2.2.1)) ((0 : Int), ((0 : Int), ([], ([], ((0 : Int), (0 : Int))))))) (List.drop ((Int.toNat q22125.2.2.2.2.2.2.2.2.1) + (q22125.2.2.2.2.2.2.2.2.2.2.2.1.2.length - (Int.toNat q22125.2.2.2.2.2.2.2.2.1))) q22125.2.2.2.2.2.2.2.2.2.2.2.1.2))), q22125.2.2.2.2.2.2.2.2.2.2.2.2))).2).2).1).2).length) then
 some ((), ((), ((), ((), ((), ((), ((), ((), (((q22125.2.2.2.2.2.2.2.2.2.1, (q22125.2.2.2.2.2.2.2.2.2.2.1, ((q22125.2.2.2.2.2.2.2.2.2.2.2.1.1, app (List.take (Int.toNat q22125.2.2.2.2.2.2.2.2.1) q22125.2.2.2.2.2.2.2.2.2.2.2.1.2) (app (List.replicate (q22125.2.2.2.2.2.2.2.2.2.2.2.1.2.length - (Int.toNat q22125.2.2.2.2.2.2.2.2.1)) ((0 : Int), ((0 : Int), ([], ([], ((0 : Int), (0 : Int))))))) (List.drop ((Int.toNat q22125.2.2.2.2.2.2.2.2.1) + (q22125.2.2.2.2.2.2.2.2.2.2.2.1.2.length - (Int.toNat q22125.2.2.2.2.2.2.2.2.1))) q22125.2.2.2.2.2.2.2.2.2.2.2.1.2))), q22125.2.2.2.2.2.2.2.2.2.2.2.2))).1, ((((q22125.2.2.2.2.2.2.2.2.2.1, (q22125.2.2.2.2.2.2.2.2.2.2.1, ((q22125.2.2.2.2.2.2.2.2.2.2.2.1.1, app (List.take (Int.toNat q22125.2.2.2.2.2.2.2.2.1) q22125.2.2.2.2.2.2.2.2.2.2.2.1.2) (app (List.replicate (q22125.2.2.2.2.2.2.2.2.2.2.2.1.2.length - (Int.toNat q22125.2.2.2.2.2.2.2.2.1)) ((0 : Int), ((0 : Int), ([], ([], ((0 : Int), (0 : Int))))))) (List.drop ((Int.toNat q22125.2.2.2.2.2.2.2.2.1) + (q22125.2.2.2.2.2.2.2.2.2.2.2.1.2.length - (Int.toNat q22125.2.2.2.2.2.2.2.2.1))) q22125.2.2.2.2.2.2.2.2.2.2.2.1.2))), q22125.2.2.2.2.2.2.2.2.2.2.2.2))).2).1).1, (((((q22125.2.2.2.2.2.2.2.2.2.1, (q22125.2.2.2.2.2.2.2.2.2.2.1, ((q22125.2.2.2.2.2.2.2.2.2.2.2.1.1, app (List.take (Int.toNat q22125.2.2.2.2.2.2.2.2.1) q22125.2.2.2.2.2.2.2.2.2.2.2.1.2) (app (List.replicate (q22125.2.2.2.2.2.2.2.2.2.2.2.1.2.length - (Int.toNat q22125.2.2.2.2.2.2.2.2.1)) ((0 : Int), ((0 : Int), ([], ([], ((0 : Int), (0 : Int))))))) (List.drop ((Int.toNat q22125.2.2.2.2.2.2.2.2.1) + (q22125.2.2.2.2.2.2.2.2.2.2.2.1.2.length - (Int.toNat q22125.2.2.2.2.2.2.2.2.1))) q22125.2.2.2.2.2.2.2.2.2.2.2.1.2))), q22125.2.2.2.2.2.2.2.2.2.2.2.2))).2).1).2).1, ((((((q22125.2.2.2.2.2.2.2.2.2.1, (q22125.2.2.2.2.2.2.2.2.2.2.1, ((q22125.2.2.2.2.2.2.2.2.2.2.2.1.1, app (List.take (Int.toNat q22125.2.2.2.2.2.2.2.2.1) q22125.2.2.2.2.2.2.2.2.2.2.2.1.2) (app (List.replicate (q22125.2.2.2.2.2.2.2.2.2.2.2.1.2.length - (Int.toNat q22125.2.2.2.2.2.2.2.2.1)) ((0 : Int), ((0 : Int), ([], ([], ((0 : Int), (0 : Int))))))) (List.drop ((Int.toNat q22125.2.2.2.2.2.2.2.2.1) + (q22125.2.2.2.2.2.2.2.2.2.2.2.1.2.length - (Int.toNat q22125.2.2.2.2.2.2.2.2.1))) q22125.2.2.2.2.2.2.2.2.2.2.2.1.2))), q22125.2.2.2.2.2.2.2.2.2.2.2.2))).2).1).2).2).1, ((((((q22125.2.2.2.2.2.2.2.2.2.1, (q22125.2.2.2.2.2.2.2.2.2.2.1, ((q22125.2.2.2.2.2.2.2.2.2.2.2.1.1, app (List.take (Int.toNat q22125.2.2.2.2.2.2.2.2.1) q22125.2.2.2.2.2.2.2.2.2.2.2.1.2) (app (List.replicate (q22125.2.2.2.2.2.2.2.2.2.2.2.1.2.length - (Int.toNat q22125.2.2.2.2.2.2.2.2.1)) ((0 : Int), ((0 : Int), ([], ([], ((0 : Int), (0 : Int))))))) (List.drop ((Int.toNat q22125.2.2.2.2.2.2.2.2.1) + (q22125.2.2.2.2.2.2.2.2.2.2.2.1.2.length - (Int.toNat q22125.2.2.2.2.2.2.2.2.1))) q22125.2.2.2.2.2.2.2.2.2.2.2.1.2))), q22125.2.2.2.2.2.2.2.2.2.2.2.2))).2).1).2).2).2, (((((q22125.2.2.2.2.2.2.2.2.2.1, (q22125.2.2.2.2.2.2.2.2.2.2.1, ((q22125.2.2.2.2.2.2.2.2.2.2.2.1.1, app (List.take (Int.toNat q22125.2.2.2.2.2.2.2.2.1) q22125.2.2.2.2.2.2.2.2.2.2.2.1.2) (app (List.replicate (q22125.2.2.2.2.2.2.2.2.2.2.2.1.2.length - (Int.toNat q22125.2.2.2.2.2.2.2.2.1)) ((0 : Int), ((0 : Int), ([], ([], ((0 : Int), (0 : Int))))))) (List.drop ((Int.toNat q22125.2.2.2.2.2.2.2.2.1) + (q22125.2.2.2.2.2.2.2.2.2.2.2.1.2.length - (Int.toNat q22125.2.2.2.2.2.2.2.2.1))) q22125.2.2.2.2.2.2.2.2.2.2.2.1.2))), q22125.2.2.2.2.2.2.2.2.2.2.2.2))).2).2).1).1, ((), (((q22125.2.2.2.2.2.2.2.2.2.1, (q22125.2.2.2.2.2.2.2.2.2.2.1, ((q22125.2.2.2.2.2.2.2.2.2.2.2.1.1, app (List.take (Int.toNat q22125.2.2.2.2.2.2.2.2.1) q22125.2.2.2.2.2.2.2.2.2.2.2.1.2) (app (List.replicate (q22125.2.2.2.2.2.2.2.2.2.2.2.1.2.length - (Int.toNat q22125.2.2.2.2.2.2.2.2.1)) ((0 : Int), ((0 : Int), ([], ([], ((0 : Int), (0 : Int))))))) (List.drop ((Int.toNat q22125.2.2.2.2.2.2.2.2.1) + (q22125.2.2.2.2.2.2.2.2.2.2.2.1.2.length - (Int.toNat q22125.2.2.2.2.2.2.2.2.1))) q22125.2.2.2.2.2.2.2.2.2.2.2.1.2))), q22125.2.2.2.2.2.2.2.2.2.2.2.2))).2).2).2))))))), midL (((((q22125.2.2.2.2.2.2.2.2.2.1, (q22125.2.2.2.2.2.2.2.2.2.2.1, ((q22125.2.2.2.2.2.2.2.2.2.2.2.1.1, app (List.take (Int.toNat q22125.2.2.2.2.2.2.2.2.1) q22125.2.2.2.2.2.2.2.2.2.2.2.1.2) (app (List.replicate (q22125.2.2.2.2.2.2.2.2.2.2.2.1.2.length - (Int.toNat q22125.2.2.2.2.2.2.2.2.1)) ((0 : Int), ((0 : Int), ([], ([], ((0 : Int), (0 : Int))))))) (List.drop ((Int.toNat q22125.2.2.2.2.2.2.2.2.1) + (q22125.2.2.2.2.2.2.2.2.2.2.2.1.2.length - (Int.toNat q22125.2.2.2.2.2.2.2.2.1))) q22125.2.2.2.2.2.2.2.2.2.2.2.1.2))), q22125.2.2.2.2.2.2.2.2.2.2.2.2))).2).2).1).2) 0 (Int.toNat q22125.2.2.2.2.2.2.2.2.1))))))))))
 else
 none
 else
 none) fun (d22126 : T_3) =>
 some ((), (d22126.2.2.2.2.2.2.2.2.1.1, ((d22126.2.2.2.2.2.2.2.2.1.2.1, (d22126.2.2.2.2.2.2.2.2.1.2.2.1, (d22126.2.2.2.2.2.2.2.2.1.2.2.2.1, d22126.2.2.2.2.2.2.2.2.1.2.2.2.2.1))), ((d22126.2.2.2.2.2.2.2.2.1.2.2.2.2.2.1, d22126.2.2.2.2.2.2.2.2.2), d22126.2.2.2.2.2.2.2.2.1.2.2.2.2.2.2.2))))) fun (d22227 : T_11) =>
 some ((), d22227.2)
 else
 bif decide (b19557.1 = (5 : Int)) then
 bif decide (b19557.2.1.1 = d19556.2.2.1) then
 some ((), (d19556.2.2.1, (d19556.2.2.2.1, (((max d19556.2.2.2.2.1.1 (Go.IntKind.wrap .i64 (b19557.2.1.2 + (1 : Int)))), d19556.2.2.2.2.1.2), d19556.2.2.2.2.2))))
 else
 some ((), d19556.2.2)
 else
 some ((), d19556.2.2)) fun (d22228 : T_11) =>
 some (Sum.inl ((), ((Go.IntKind.wrap .i64 (d19556.2.1 + (1 : Int))), d22228.2)))
 else
 some (Sum.inr ((), d19556.2.2))
noncomputable def r16_L0q (a : T_28) : T_16 → Option (T_16 ⊕ (T_17 ⊕ T_15)) := fun d6 =>
 bif decide (d6.2.2.1 < (↑a.2.2.length : Int)) then
 Option.bind (idxI a.2.2 d6.2.2.1) fun (b7 : T_30) =>
 Option.bind (r35 (a.1, b7)) fun (y8 : Int) =>
 bif !(decide (y8 = (0 : Int))) then
 some (Sum.inr (Sum.inr ((), ((), ((), (y8, (([], ([], ([], []))), ((0 : Int), []))))))))
 else
 some (Sum.inl ((), ((), ((Go.IntKind.wrap .i64 (d6.2.2.1 + (1 : Int))), d6.2.2.2))))
 else
 some (Sum.inr (Sum.inl ((), ((), d6.2.2.2))))
theorem r16_L0e (a : T_28) : r16_L0q a = r16_L0 a := by unfold r16_L0q r16_L0; rfl
noncomputable def r16_L1q (d21354 : T_9) (b19557 : T_30) : T_7 → Option (T_7 ⊕ T_11) := fun d21366 =>
 bif decide (d21366.2.2.2.1 < (↑d21354.2.2.2.2.2.length : Int)) then
 Option.bind (
 bif inB d21366.2.2.2.1 d21366.2.2.2.2.2.2.2.length then
 Option.bind (idxN d21366.2.2.2.2.2.2.2 (Int.toNat d21366.2.2.2.1)) fun (x21373 : ((Int × Int) × (Bool × Bool))) =>
 Option.bind (
 bif (decide (x21373.1.1 = b19557.2.1.1) && (decide (x21373.1.2 = b19557.2.1.2) && true)) then
 some (!(decide (x21373.2.1 = b19557.2.2.2.2.2.1)))
 else
 some false) fun (d21374 : Bool) =>
 bif d21374 then
 bif inB d21366.2.2.2.1 d21366.2.2.2.2.2.2.2.length then
 Option.bind (idxN d21366.2.2.2.2.2.2.2 (Int.toNat d21366.2.2.2.1)) fun (x21375 : ((Int × Int) × (Bool × Bool))) =>
 some ((), ((), ((), (d21366.2.2.2.2.1, (d21366.2.2.2.2.2.1, (d21366.2.2.2.2.2.2.1, List.set d21366.2.2.2.2.2.2.2 (Int.toNat d21366.2.2.2.1) (x21375.1, (x21375.2.1, true))))))))
 else
 none
 else
 some ((), ((), ((), d21366.2.2.2.2)))
 else
 none) fun (d21376 : T_8) =>
 some (Sum.inl ((), ((), ((), ((Go.IntKind.wrap .i64 (d21366.2.2.2.1 + (1 : Int))), d21376.2.2.2)))))
 else
 some (Sum.inr ((), d21366.2.2.2.2))
theorem r16_L1e (d21354 : T_9) (b19557 : T_30) : r16_L1q d21354 b19557 = r16_L1 d21354 b19557 := by unfold r16_L1q r16_L1; rfl
noncomputable def r16_L2q (d19556 : T_10) (b19557 : T_30) : (Int × Int) → Option ((Int × Int) ⊕ Int) := fun d21701 =>
 bif decide (d21701.1 < d21701.2) then
 bif inB (Go.IntKind.wrap .i64 (Int.fdiv (Go.IntKind.wrap .u64 (Go.IntKind.wrap .i64 (d21701.1 + d21701.2))) (2 ^ 1))) d19556.2.2.2.2.1.2.length then
 Option.bind (idxN d19556.2.2.2.2.1.2 (Int.toNat (Go.IntKind.wrap .i64 (Int.fdiv (Go.IntKind.wrap .u64 (Go.IntKind.wrap .i64 (d21701.1 + d21701.2))) (2 ^ 1))))) fun (x21702 : T_29) =>
 bif decide ((Go.IntKind.wrap .i64 (x21702.1 - b19557.2.1.2)) < (0 : Int)) then
 some (Sum.inl ((Go.IntKind.wrap .i64 ((Go.IntKind.wrap .i64 (Int.fdiv (Go.IntKind.wrap .u64 (Go.IntKind.wrap .i64 (d21701.1 + d21701.2))) (2 ^ 1))) + (1 : Int))), d21701.2))
 else
 some (Sum.inl (d21701.1, (Go.IntKind.wrap .i64 (Int.fdiv (Go.IntKind.wrap .u64 (Go.IntKind.wrap .i64 (d21701.1 + d21701.2))) (2 ^ 1)))))
 else
 none
 else
 some (Sum.inr d21701.1)
theorem r16_L2e (d19556 : T_10) (b19557 : T_30) : r16_L2q d19556 b19557 = r16_L2 d19556 b19557 := by unfold r16_L2q r16_L2; rfl
noncomputable def r16_L3q (d19556 : T_10) (b19557 : T_30) : Int → Option (Int ⊕ (Unit ⊕ Int)) := fun d22103 =>
 bif decide (d22103 < (↑d19556.2.2.2.2.1.2.length : Int)) then
 bif inB d22103 d19556.2.2.2.2.1.2.length then
 Option.bind (idxN d19556.2.2.2.2.1.2 (Int.toNat d22103)) fun (x22104 : T_29) =>
 bif (decide (b19557.2.1.1 = d19556.2.2.1) && (decide (b19557.2.1.2 = x22104.1) && true)) then
 some (Sum.inr (Sum.inr d22103))
 else
 some (Sum.inl (Go.IntKind.wrap .i64 (d22103 + (1 : Int))))
 else
 none
 else
 some (Sum.inr (Sum.inl ()))
theorem r16_L3e (d19556 : T_10) (b19557 : T_30) : r16_L3q d19556 b19557 = r16_L3 d19556 b19557 := by unfold r16_L3q r16_L3; rfl
noncomputable def r16_L4q (b19557 : T_30) : T_0 → Option (T_0 ⊕ T_4) := fun d22117 =>
 bif decide (d22117.2.2.2.2.2.2.2.2.2.2.1 < (↑d22117.2.2.2.2.2.2.2.2.2.2.2.2.2.1.2.length : Int)) then
 Option.bind (
 bif inB d22117.2.2.2.2.2.2.2.2.2.2.1 d22117.2.2.2.2.2.2.2.2.2.2.2.2.2.1.2.length then
 Option.bind (idxN d22117.2.2.2.2.2.2.2.2.2.2.2.2.2.1.2 (Int.toNat d22117.2.2.2.2.2.2.2.2.2.2.1)) fun (x22122 : T_29) =>
 bif !((decide (b19557.2.1.1 = d22117.2.2.2.2.2.2.2.2.2.2.2.1) && (decide (b19557.2.1.2 = x22122.1) && true))) then
 bif inB d22117.2.2.2.2.2.2.2.2.2.1 d22117.2.2.2.2.2.2.2.2.2.2.2.2.2.1.2.length then
 Option.bind (idxN d22117.2.2.2.2.2.2.2.2.2.2.2.2.2.1.2 (Int.toNat d22117.2.2.2.2.2.2.2.2.2.1)) fun (_ : T_29) =>
 some ((), ((), ((), ((), ((), ((), ((), ((), ((), ((Go.IntKind.wrap .i64 (d22117.2.2.2.2.2.2.2.2.2.1 + (1 : Int))), (d22117.2.2.2.2.2.2.2.2.2.2.2.1, (d22117.2.2.2.2.2.2.2.2.2.2.2.2.1, ((d22117.2.2.2.2.2.2.2.2.2.2.2.2.2.1.1, List.set d22117.2.2.2.2.2.2.2.2.2.2.2.2.2.1.2 (Int.toNat d22117.2.2.2.2.2.2.2.2.2.1) x22122), d22117.2.2.2.2.2.2.2.2.2.2.2.2.2.2)))))))))))))
 else
 none
 else
 some ((), ((), ((), ((), ((), ((), ((), ((), ((), (d22117.2.2.2.2.2.2.2.2.2.1, d22117.2.2.2.2.2.2.2.2.2.2.2))))))))))
 else
 none) fun (d22124 : T_1) =>
 some (Sum.inl ((), ((), ((), ((), ((), ((), ((), ((), ((), (d22124.2.2.2.2.2.2.2.2.2.1, ((Go.IntKind.wrap .i64 (d22117.2.2.2.2.2.2.2.2.2.2.1 + (1 : Int))), d22124.2.2.2.2.2.2.2.2.2.2))))))))))))
 else
 some (Sum.inr ((), ((), ((), ((), ((), ((), ((), ((), (d22117.2.2.2.2.2.2.2.2.2.1, d22117.2.2.2.2.2.2.2.2.2.2.2))))))))))
theorem r16_L4e (b19557 : T_30) : r16_L4q b19557 = r16_L4 b19557 := by unfold r16_L4q r16_L4; rfl
noncomputable def r16_L5q (d19556 : T_10) (b19557 : T_30) : Int → Option (Int ⊕ (Unit ⊕ Int)) := fun d22203 =>
 bif decide (d22203 < (↑d19556.2.2.2.2.1.2.length : Int)) then
 bif inB d22203 d19556.2.2.2.2.1.2.length then
 Option.bind (idxN d19556.2.2.2.2.1.2 (Int.toNat d22203)) fun (x22204 : T_29) =>
 bif (decide (b19557.2.1.1 = d19556.2.2.1) && (decide (b19557.2.1.2 = x22204.1) && true)) then
 some (Sum.inr (Sum.inr d22203))
 else
 some (Sum.inl (Go.IntKind.wrap .i64 (d22203 + (1 : Int))))
 else
 none
 else
 some (Sum.inr (Sum.inl ()))
theorem r16_L5e (d19556 : T_10) (b19557 : T_30) : r16_L5q d19556 b19557 = r16_L5 d19556 b19557 := by unfold r16_L5q r16_L5; rfl
noncomputable def r16_L6q (b19557 : T_30) : T_2 → Option (T_2 ⊕ T_6) := fun d22217 =>
 bif decide (d22217.2.2.2.2.2.2.2.2.2.1 < (↑d22217.2.2.2.2.2.2.2.2.2.2.2.2.1.2.length : Int)) then
 Option.bind (
 bif inB d22217.2.2.2.2.2.2.2.2.2.1 d22217.2.2.2.2.2.2.2.2.2.2.2.2.1.2.length then
 Option.bind (idxN d22217.2.2.2.2.2.2.2.2.2.2.2.2.1.2 (Int.toNat d22217.2.2.2.2.2.2.2.2.2.1)) fun (x22222 : T_29) =>
 bif !((decide (b19557.2.1.1 = d22217.2.2.2.2.2.2.2.2.2.2.1) && (decide (b19557.2.1.2 = x22222.1) && true))) then
 bif inB d22217.2.2.2.2.2.2.2.2.1 d22217.2.2.2.2.2.2.2.2.2.2.2.2.1.2.length then
 Option.bind (idxN d22217.2.2.2.2.2.2.2.2.2.2.2.2.1.2 (Int.toNat d22217.2.2.2.2.2.2.2.2.1)) fun (_ : T_29) =>
 some ((), ((), ((), ((), ((), ((), ((), ((), ((Go.IntKind.wrap .i64 (d22217.2.2.2.2.2.2.2.2.1 + (1 : Int))), (d22217.2.2.2.2.2.2.2.2.2.2.1, (d22217.2.2.2.2.2.2.2.2.2.2.2.1, ((d22217.2.2.2.2.2.2.2.2.2.2.2.2.1.1, List.set d22217.2.2.2.2.2.2.2.2.2.2.2.2.1.2 (Int.toNat d22217.2.2.2.2.2.2.2.2.1) x22222), d22217.2.2.2.2.2.2.2.2.2.2.2.2.2))))))))))))
 else
 none
 else
 some ((), ((), ((), ((), ((), ((), ((), ((), (d22217.2.2.2.2.2.2.2.2.1, d22217.2.2.2.2.2.2.2.2.2.2)))))))))
 else
 none) fun (d22224 : T_4) =>
 some (Sum.inl ((), ((), ((), ((), ((), ((), ((), ((), (d22224.2.2.2.2.2.2.2.2.1, ((Go.IntKind.wrap .i64 (d22217.2.2.2.2.2.2.2.2.2.1 + (1 : Int))), d22224.2.2.2.2.2.2.2.2.2)))))))))))
 else
 some (Sum.inr ((), ((), ((), ((), ((), ((), ((), (d22217.2.2.2.2.2.2.2.2.1, d22217.2.2.2.2.2.2.2.2.2.2)))))))))
theorem r16_L6e (b19557 : T_30) : r16_L6q b19557 = r16_L6 b19557 := by unfold r16_L6q r16_L6; rfl
noncomputable def r16_L7q (a : T_28) : T_10 → Option (T_10 ⊕ T_11) := fun d19556 =>
 bif decide (d19556.2.1 < (↑a.2.2.length : Int)) then
 Option.bind (idxI a.2.2 d19556.2.1) fun (b19557 : T_30) =>
 Option.bind (
 bif decide (b19557.1 = (1 : Int)) then
 Option.bind (
 Option.bind (r30 (d19556.2.2.2.1, b19557.2.1, b19557.2.2.1, b19557.2.2.2.1, b19557.2.2.2.2.1)) fun (y21340 : T_25) =>
 sameR (
 some ((), (y21340.2, y21340.1)))
 (
 sameR (
 some ((), (y21340.2, y21340.1)))
 (
 some ((), (y21340.2, y21340.1))))) fun (d21341 : T_22) =>
 bif decide (d21341.2.1 = (0 : Int)) then
 some ((), (d19556.2.2.1, (d21341.2.2, d19556.2.2.2.2)))
 else
 some ((), d19556.2.2)
 else
 bif decide (b19557.1 = (2 : Int)) then
 Option.bind (
 Option.bind (
 Option.bind (r19 (d19556.2.2.2.1, b19557.2.1, b19557.2.2.2.2.2.1)) fun (y21352 : T_25) =>
 sameR (
 some ((), (y21352.2, y21352.1)))
 (
 sameR (
 some ((), (y21352.2, y21352.1)))
 (
 some ((), (y21352.2, y21352.1))))) fun (d21353 : T_22) =>
 bif decide (d21353.2.1 = (0 : Int)) then
 some ((), ((), (d19556.2.2.1, (d21353.2.2, d19556.2.2.2.2))))
 else
 some ((), ((), d19556.2.2))) fun (d21354 : T_9) =>
 Option.bind (loopR (r16_L1q d21354 b19557) ((), ((), ((), ((0 : Int), d21354.2.2))))) fun (q21377 : T_11) =>
 some ((), q21377.2)
 else
 bif decide (b19557.1 = (6 : Int)) then
 Option.bind (
 Option.bind (
 Option.bind (r19 (d19556.2.2.2.1, b19557.2.1, b19557.2.2.2.2.2.1)) fun (y21388 : T_25) =>
 sameR (
 some ((), (y21388.2, y21388.1)))
 (
 sameR (
 some ((), (y21388.2, y21388.1)))
 (
 some ((), (y21388.2, y21388.1))))) fun (d21389 : T_22) =>
 bif decide (d21389.2.1 = (0 : Int)) then
 some ((), ((), (d19556.2.2.1, (d21389.2.2, d19556.2.2.2.2))))
 else
 some ((), ((), d19556.2.2))) fun (d21390 : T_9) =>
 Option.bind (
 sameR (
 bif roomOk false d21390.2.2.2.2.2.length 1 24 then
 some ((), (d21390.2.2.1, (d21390.2.2.2.1, (d21390.2.2.2.2.1, app d21390.2.2.2.2.2 [(b19557.2.1, (b19557.2.2.2.2.2.1, false))]))))
 else
 none)
 (
 sameR (
 bif roomOk false d21390.2.2.2.2.2.length 1 24 then
 some ((), (d21390.2.2.1, (d21390.2.2.2.1, (d21390.2.2.2.2.1, app d21390.2.2.2.2.2 [(b19557.2.1, (b19557.2.2.2.2.2.1, false))]))))
 else
 none)
 (
 bif roomOk false d21390.2.2.2.2.2.length 1 24 then
 some ((), (d21390.2.2.1, (d21390.2.2.2.1, (d21390.2.2.2.2.1, app d21390.2.2.2.2.2 [(b19557.2.1, (b19557.2.2.2.2.2.1, false))]))))
 else
 none))) fun (d21391 : T_11) =>
 some ((), d21391.2)
 else
 bif decide (b19557.1 = (3 : Int)) then
 Option.bind (
 Option.bind (
 Option.bind (
 Option.bind (loopR (r16_L2q d19556 b19557) ((0 : Int), (↑d19556.2.2.2.2.1.2.length : Int))) fun (q21703 : Int) =>
 bif decide (q21703 < (↑d19556.2.2.2.2.1.2.length : Int)) then
 bif inB q21703 d19556.2.2.2.2.1.2.length then
 Option.bind (idxN d19556.2.2.2.2.1.2 (Int.toNat q21703)) fun (x21704 : T_29) =>
 some (q21703, decide ((Go.IntKind.wrap .i64 (x21704.1 - b19557.2.1.2)) = (0 : Int)))
 else
 none
 else
 some (q21703, false)) fun (d21705 : (Int × Bool)) =>
 sameR (
 some d21705)
 (
 sameR (
 some d21705)
 (
 some d21705))) fun (d21706 : (Int × Bool)) =>
 Option.bind (
 bif !(d21706.2) then
 bif !(!(decide (b19557.2.1.1 = d19556.2.2.1))) then
 bif !(decide (d19556.2.2.2.2.1.1 ≤ b19557.2.1.2)) then
 bif !(decide ((↑b19557.2.2.2.2.2.2.length : Int) = (0 : Int))) then
 some (decide ((↑d19556.2.2.2.2.1.2.length : Int) = (6 : Int)))
 else
 some true
 else
 some true
 else
 some true
 else
 some true) fun (d21707 : Bool) =>
 bif d21707 then
 some (Sum.inr ((), d19556.2.2))
 else
 Option.bind (
 Option.bind (r98 b19557.2.2.2.2.2.2) fun (y21792 : List Int) =>
 sameR (
 Option.bind (r97 (d19556.2.2.2.2.1.2, d21706.1, [(b19557.2.1.2, ((3 : Int), ([], (y21792, ((0 : Int), (0 : Int))))))])) fun (y21793 : List (T_29)) =>
 some ((), (d19556.2.2.1, (d19556.2.2.2.1, ((d19556.2.2.2.2.1.1, y21793), d19556.2.2.2.2.2)))))
 (
 sameR (
 Option.bind (r97 (d19556.2.2.2.2.1.2, d21706.1, [(b19557.2.1.2, ((3 : Int), ([], (y21792, ((0 : Int), (0 : Int))))))])) fun (y21794 : List (T_29)) =>
 some ((), (d19556.2.2.1, (d19556.2.2.2.1, ((d19556.2.2.2.2.1.1, y21794), d19556.2.2.2.2.2)))))
 (
 sameR (
 Option.bind (r97 (d19556.2.2.2.2.1.2, d21706.1, [(b19557.2.1.2, ((3 : Int), ([], (y21792, ((0 : Int), (0 : Int))))))])) fun (y21795 : List (T_29)) =>
 some ((), (d19556.2.2.1, (d19556.2.2.2.1, ((d19556.2.2.2.2.1.1, y21795), d19556.2.2.2.2.2)))))
 (
 sameR (
 Option.bind (r97 (d19556.2.2.2.2.1.2, d21706.1, [(b19557.2.1.2, ((3 : Int), ([], (y21792, ((0 : Int), (0 : Int))))))])) fun (y21796 : List (T_29)) =>
 some ((), (d19556.2.2.1, (d19556.2.2.2.1, ((d19556.2.2.2.2.1.1, y21796), d19556.2.2.2.2.2)))))
 (
 sameR (
 Option.bind (r97 (d19556.2.2.2.2.1.2, d21706.1, [(b19557.2.1.2, ((3 : Int), ([], (y21792, ((0 : Int), (0 : Int))))))])) fun (y21797 : List (T_29)) =>
 some ((), (d19556.2.2.1, (d19556.2.2.2.1, ((d19556.2.2.2.2.1.1, y21797), d19556.2.2.2.2.2)))))
 (
 sameR (
 Option.bind (r97 (d19556.2.2.2.2.1.2, d21706.1, [(b19557.2.1.2, ((3 : Int), ([], (y21792, ((0 : Int), (0 : Int))))))])) fun (y21798 : List (T_29)) =>
 some ((), (d19556.2.2.1, (d19556.2.2.2.1, ((d19556.2.2.2.2.1.1, y21798), d19556.2.2.2.2.2)))))
 (
 sameR (
 Option.bind (r97 (d19556.2.2.2.2.1.2, d21706.1, [(b19557.2.1.2, ((3 : Int), ([], (y21792, ((0 : Int), (0 : Int))))))])) fun (y21799 : List (T_29)) =>
 some ((), (d19556.2.2.1, (d19556.2.2.2.1, ((d19556.2.2.2.2.1.1, y21799), d19556.2.2.2.2.2)))))
 (
 sameR (
 Option.bind (r97 (d19556.2.2.2.2.1.2, d21706.1, [(b19557.2.1.2, ((3 : Int), ([], (y21792, ((0 : Int), (0 : Int))))))])) fun (y21800 : List (T_29)) =>
 some ((), (d19556.2.2.1, (d19556.2.2.2.1, ((d19556.2.2.2.2.1.1, y21800), d19556.2.2.2.2.2)))))
 (
 sameR (
 Option.bind (r97 (d19556.2.2.2.2.1.2, d21706.1, [(b19557.2.1.2, ((3 : Int), ([], (y21792, ((0 : Int), (0 : Int))))))])) fun (y21801 : List (T_29)) =>
 some ((), (d19556.2.2.1, (d19556.2.2.2.1, ((d19556.2.2.2.2.1.1, y21801), d19556.2.2.2.2.2)))))
 (
 sameR (
 Option.bind (r97 (d19556.2.2.2.2.1.2, d21706.1, [(b19557.2.1.2, ((3 : Int), ([], (y21792, ((0 : Int), (0 : Int))))))])) fun (y21802 : List (T_29)) =>
 some ((), (d19556.2.2.1, (d19556.2.2.2.1, ((d19556.2.2.2.2.1.1, y21802), d19556.2.2.2.2.2)))))
 (
 sameR (
 sameR (
 Option.bind (r97 (d19556.2.2.2.2.1.2, d21706.1, [(b19557.2.1.2, ((3 : Int), ([], (y21792, ((0 : Int), (0 : Int))))))])) fun (y21803 : List (T_29)) =>
 some ((), (d19556.2.2.1, (d19556.2.2.2.1, ((d19556.2.2.2.2.1.1, y21803), d19556.2.2.2.2.2)))))
 (
 Option.bind (r97 (d19556.2.2.2.2.1.2, d21706.1, [(b19557.2.1.2, ((3 : Int), ([], (y21792, ((0 : Int), (0 : Int))))))])) fun (y21804 : List (T_29)) =>
 some ((), (d19556.2.2.1, (d19556.2.2.2.1, ((d19556.2.2.2.2.1.1, y21804), d19556.2.2.2.2.2))))))
 (
 sameR (
 sameR (
 Option.bind (r97 (d19556.2.2.2.2.1.2, d21706.1, [(b19557.2.1.2, ((3 : Int), ([], (y21792, ((0 : Int), (0 : Int))))))])) fun (y21805 : List (T_29)) =>
 some ((), (d19556.2.2.1, (d19556.2.2.2.1, ((d19556.2.2.2.2.1.1, y21805), d19556.2.2.2.2.2)))))
 (
 Option.bind (r97 (d19556.2.2.2.2.1.2, d21706.1, [(b19557.2.1.2, ((3 : Int), ([], (y21792, ((0 : Int), (0 : Int))))))])) fun (y21806 : List (T_29)) =>
 some ((), (d19556.2.2.1, (d19556.2.2.2.1, ((d19556.2.2.2.2.1.1, y21806), d19556.2.2.2.2.2))))))
 (
 sameR (
 sameR (
 Option.bind (r97 (d19556.2.2.2.2.1.2, d21706.1, [(b19557.2.1.2, ((3 : Int), ([], (y21792, ((0 : Int), (0 : Int))))))])) fun (y21807 : List (T_29)) =>
 some ((), (d19556.2.2.1, (d19556.2.2.2.1, ((d19556.2.2.2.2.1.1, y21807), d19556.2.2.2.2.2)))))
 (
 Option.bind (r97 (d19556.2.2.2.2.1.2, d21706.1, [(b19557.2.1.2, ((3 : Int), ([], (y21792, ((0 : Int), (0 : Int))))))])) fun (y21808 : List (T_29)) =>
 some ((), (d19556.2.2.1, (d19556.2.2.2.1, ((d19556.2.2.2.2.1.1, y21808), d19556.2.2.2.2.2))))))
 (
 sameR (
 sameR (
 Option.bind (r97 (d19556.2.2.2.2.1.2, d21706.1, [(b19557.2.1.2, ((3 : Int), ([], (y21792, ((0 : Int), (0 : Int))))))])) fun (y21809 : List (T_29)) =>
 some ((), (d19556.2.2.1, (d19556.2.2.2.1, ((d19556.2.2.2.2.1.1, y21809), d19556.2.2.2.2.2)))))
 (
 Option.bind (r97 (d19556.2.2.2.2.1.2, d21706.1, [(b19557.2.1.2, ((3 : Int), ([], (y21792, ((0 : Int), (0 : Int))))))])) fun (y21810 : List (T_29)) =>
 some ((), (d19556.2.2.1, (d19556.2.2.2.1, ((d19556.2.2.2.2.1.1, y21810), d19556.2.2.2.2.2))))))
 (
 sameR (
 sameR (
 Option.bind (r97 (d19556.2.2.2.2.1.2, d21706.1, [(b19557.2.1.2, ((3 : Int), ([], (y21792, ((0 : Int), (0 : Int))))))])) fun (y21811 : List (T_29)) =>
 some ((), (d19556.2.2.1, (d19556.2.2.2.1, ((d19556.2.2.2.2.1.1, y21811), d19556.2.2.2.2.2)))))
 (
 Option.bind (r97 (d19556.2.2.2.2.1.2, d21706.1, [(b19557.2.1.2, ((3 : Int), ([], (y21792, ((0 : Int), (0 : Int))))))])) fun (y21812 : List (T_29)) =>
 some ((), (d19556.2.2.1, (d19556.2.2.2.1, ((d19556.2.2.2.2.1.1, y21812), d19556.2.2.2.2.2))))))
 (
 sameR (
 sameR (
 Option.bind (r97 (d19556.2.2.2.2.1.2, d21706.1, [(b19557.2.1.2, ((3 : Int), ([], (y21792, ((0 : Int), (0 : Int))))))])) fun (y21813 : List (T_29)) =>
 some ((), (d19556.2.2.1, (d19556.2.2.2.1, ((d19556.2.2.2.2.1.1, y21813), d19556.2.2.2.2.2)))))
 (
 Option.bind (r97 (d19556.2.2.2.2.1.2, d21706.1, [(b19557.2.1.2, ((3 : Int), ([], (y21792, ((0 : Int), (0 : Int))))))])) fun (y21814 : List (T_29)) =>
 some ((), (d19556.2.2.1, (d19556.2.2.2.1, ((d19556.2.2.2.2.1.1, y21814), d19556.2.2.2.2.2))))))
 (
 sameR (
 sameR (
 Option.bind (r97 (d19556.2.2.2.2.1.2, d21706.1, [(b19557.2.1.2, ((3 : Int), ([], (y21792, ((0 : Int), (0 : Int))))))])) fun (y21815 : List (T_29)) =>
 some ((), (d19556.2.2.1, (d19556.2.2.2.1, ((d19556.2.2.2.2.1.1, y21815), d19556.2.2.2.2.2)))))
 (
 Option.bind (r97 (d19556.2.2.2.2.1.2, d21706.1, [(b19557.2.1.2, ((3 : Int), ([], (y21792, ((0 : Int), (0 : Int))))))])) fun (y21816 : List (T_29)) =>
 some ((), (d19556.2.2.1, (d19556.2.2.2.1, ((d19556.2.2.2.2.1.1, y21816), d19556.2.2.2.2.2))))))
 (
 sameR (
 sameR (
 Option.bind (r97 (d19556.2.2.2.2.1.2, d21706.1, [(b19557.2.1.2, ((3 : Int), ([], (y21792, ((0 : Int), (0 : Int))))))])) fun (y21817 : List (T_29)) =>
 some ((), (d19556.2.2.1, (d19556.2.2.2.1, ((d19556.2.2.2.2.1.1, y21817), d19556.2.2.2.2.2)))))
 (
 Option.bind (r97 (d19556.2.2.2.2.1.2, d21706.1, [(b19557.2.1.2, ((3 : Int), ([], (y21792, ((0 : Int), (0 : Int))))))])) fun (y21818 : List (T_29)) =>
 some ((), (d19556.2.2.1, (d19556.2.2.2.1, ((d19556.2.2.2.2.1.1, y21818), d19556.2.2.2.2.2))))))
 (
 sameR (
 sameR (
 Option.bind (r97 (d19556.2.2.2.2.1.2, d21706.1, [(b19557.2.1.2, ((3 : Int), ([], (y21792, ((0 : Int), (0 : Int))))))])) fun (y21819 : List (T_29)) =>
 some ((), (d19556.2.2.1, (d19556.2.2.2.1, ((d19556.2.2.2.2.1.1, y21819), d19556.2.2.2.2.2)))))
 (
 Option.bind (r97 (d19556.2.2.2.2.1.2, d21706.1, [(b19557.2.1.2, ((3 : Int), ([], (y21792, ((0 : Int), (0 : Int))))))])) fun (y21820 : List (T_29)) =>
 some ((), (d19556.2.2.1, (d19556.2.2.2.1, ((d19556.2.2.2.2.1.1, y21820), d19556.2.2.2.2.2))))))
 (
 sameR (
 Option.bind (r97 (d19556.2.2.2.2.1.2, d21706.1, [(b19557.2.1.2, ((3 : Int), ([], (y21792, ((0 : Int), (0 : Int))))))])) fun (y21821 : List (T_29)) =>
 some ((), (d19556.2.2.1, (d19556.2.2.2.1, ((d19556.2.2.2.2.1.1, y21821), d19556.2.2.2.2.2)))))
 (
 Option.bind (r97 (d19556.2.2.2.2.1.2, d21706.1, [(b19557.2.1.2, ((3 : Int), ([], (y21792, ((0 : Int), (0 : Int))))))])) fun (y21822 : List (T_29)) =>
 some ((), (d19556.2.2.1, (d19556.2.2.2.1, ((d19556.2.2.2.2.1.1, y21822), d19556.2.2.2.2.2))))))))))))))))))))))))) fun (d21823 : T_11) =>
 some (Sum.inl ((), d21823.2))) fun (d21824 : (T_11 ⊕ T_11)) =>
 Sum.elim (fun (v21825 : T_11) =>
 some ((), v21825.2))
 (fun (v21826 : T_11) =>
 some ((), v21826.2)) d21824
 else
 bif decide (b19557.1 = (4 : Int)) then
 Option.bind (
 sameR (
 Option.bind (
 Option.bind (
 Option.bind (loopR (r16_L3q d19556 b19557) (0 : Int)) fun (q22105 : (Unit ⊕ Int)) =>
 Sum.elim (fun (_ : Unit) =>
 some (-1 : Int))
 (fun (v22107 : Int) =>
 some v22107) q22105) fun (d22108 : Int) =>
 bif decide (d22108 = (-1 : Int)) then
 some ((), ((), ((), ((), ((), ((), ((), ((), ((d19556.2.2.1, (d19556.2.2.2.1.1, (d19556.2.2.2.1.2.1, (d19556.2.2.2.1.2.2.1, (d19556.2.2.2.1.2.2.2, (d19556.2.2.2.2.1.1, ((), d19556.2.2.2.2.2))))))), d19556.2.2.2.2.1.2)))))))))
 else
 Option.bind (loopR (r16_L4q b19557) ((), ((), ((), ((), ((), ((), ((), ((), ((), (d22108, ((Go.IntKind.wrap .i64 (d22108 + (1 : Int))), d19556.2.2)))))))))))) fun (q22125 : T_4) =>
 bif okB (some q22125.2.2.2.2.2.2.2.2.1) none none q22125.2.2.2.2.2.2.2.2.2.2.2.1.2.length then
 bif okB none (some q22125.2.2.2.2.2.2.2.2.1) none ((((((q22125.2.2.2.2.2.2.2.2.2.1, (q22125.2.2.2.2.2.2.2.2.2.2.1, ((q22125.2.2.2.2.2.2.2.2.2.2.2.1.1, app (List.take (Int.toNat q22125.2.2.2.2.2.2.2.2.1) q22125.2.2.2.2.2.2.2.2.2.2.2.1.2) (app (List.replicate (q22125.2.2.2.2.2.2.2.2.2.2.2.1.2.length - (Int.toNat q22125.2.2.2.2.2.2.2.2.1)) ((0 : Int), ((0 : Int), ([], ([], ((0 : Int), (0 : Int))))))) (List.drop ((Int.toNat q22125.2.2.2.2.2.2.2.2.1) + (q22125.2.2.2.2.2.2.2.2.2.2.2.1.2.length - (Int.toNat q22125.2.2.2.2.2.2.2.2.1))) q22125.2.2.2.2.2.2.2.2.2.2.2.1.2))), q22125.2.2.2.2.2.2.2.2.2.2.2.2))).2).2).1).2).length) then
 some ((), ((), ((), ((), ((), ((), ((), ((), (((q22125.2.2.2.2.2.2.2.2.2.1, (q22125.2.2.2.2.2.2.2.2.2.2.1, ((q22125.2.2.2.2.2.2.2.2.2.2.2.1.1, app (List.take (Int.toNat q22125.2.2.2.2.2.2.2.2.1) q22125.2.2.2.2.2.2.2.2.2.2.2.1.2) (app (List.replicate (q22125.2.2.2.2.2.2.2.2.2.2.2.1.2.length - (Int.toNat q22125.2.2.2.2.2.2.2.2.1)) ((0 : Int), ((0 : Int), ([], ([], ((0 : Int), (0 : Int))))))) (List.drop ((Int.toNat q22125.2.2.2.2.2.2.2.2.1) + (q22125.2.2.2.2.2.2.2.2.2.2.2.1.2.length - (Int.toNat q22125.2.2.2.2.2.2.2.2.1))) q22125.2.2.2.2.2.2.2.2.2.2.2.1.2))), q22125.2.2.2.2.2.2.2.2.2.2.2.2))).1, ((((q22125.2.2.2.2.2.2.2.2.2.1, (q22125.2.2.2.2.2.2.2.2.2.2.1, ((q22125.2.2.2.2.2.2.2.2.2.2.2.1.1, app (List.take (Int.toNat q22125.2.2.2.2.2.2.2.2.1) q22125.2.2.2.2.2.2.2.2.2.2.2.1.2) (app (List.replicate (q22125.2.2.2.2.2.2.2.2.2.2.2.1.2.length - (Int.toNat q22125.2.2.2.2.2.2.2.2.1)) ((0 : Int), ((0 : Int), ([], ([], ((0 : Int), (0 : Int))))))) (List.drop ((Int.toNat q22125.2.2.2.2.2.2.2.2.1) + (q22125.2.2.2.2.2.2.2.2.2.2.2.1.2.length - (Int.toNat q22125.2.2.2.2.2.2.2.2.1))) q22125.2.2.2.2.2.2.2.2.2.2.2.1.2))), q22125.2.2.2.2.2.2.2.2.2.2.2.2))).2).1).1, (((((q22125.2.2.2.2.2.2.2.2.2.1, (q22125.2.2.2.2.2.2.2.2.2.2.1, ((q22125.2.2.2.2.2.2.2.2.2.2.2.1.1, app (List.take (Int.toNat q22125.2.2.2.2.2.2.2.2.1) q22125.2.2.2.2.2.2.2.2.2.2.2.1.2) (app (List.replicate (q22125.2.2.2.2.2.2.2.2.2.2.2.1.2.length - (Int.toNat q22125.2.2.2.2.2.2.2.2.1)) ((0 : Int), ((0 : Int), ([], ([], ((0 : Int), (0 : Int))))))) (List.drop ((Int.toNat q22125.2.2.2.2.2.2.2.2.1) + (q22125.2.2.2.2.2.2.2.2.2.2.2.1.2.length - (Int.toNat q22125.2.2.2.2.2.2.2.2.1))) q22125.2.2.2.2.2.2.2.2.2.2.2.1.2))), q22125.2.2.2.2.2.2.2.2.2.2.2.2))).2).1).2).1, ((((((q22125.2.2.2.2.2.2.2.2.2.1, (q22125.2.2.2.2.2.2.2.2.2.2.1, ((q22125.2.2.2.2.2.2.2.2.2.2.2.1.1, app (List.take (Int.toNat q22125.2.2.2.2.2.2.2.2.1) q22125.2.2.2.2.2.2.2.2.2.2.2.1.2) (app (List.replicate (q22125.2.2.2.2.2.2.2.2.2.2.2.1.2.length - (Int.toNat q22125.2.2.2.2.2.2.2.2.1)) ((0 : Int), ((0 : Int), ([], ([], ((0 : Int), (0 : Int))))))) (List.drop ((Int.toNat q22125.2.2.2.2.2.2.2.2.1) + (q22125.2.2.2.2.2.2.2.2.2.2.2.1.2.length - (Int.toNat q22125.2.2.2.2.2.2.2.2.1))) q22125.2.2.2.2.2.2.2.2.2.2.2.1.2))), q22125.2.2.2.2.2.2.2.2.2.2.2.2))).2).1).2).2).1, ((((((q22125.2.2.2.2.2.2.2.2.2.1, (q22125.2.2.2.2.2.2.2.2.2.2.1, ((q22125.2.2.2.2.2.2.2.2.2.2.2.1.1, app (List.take (Int.toNat q22125.2.2.2.2.2.2.2.2.1) q22125.2.2.2.2.2.2.2.2.2.2.2.1.2) (app (List.replicate (q22125.2.2.2.2.2.2.2.2.2.2.2.1.2.length - (Int.toNat q22125.2.2.2.2.2.2.2.2.1)) ((0 : Int), ((0 : Int), ([], ([], ((0 : Int), (0 : Int))))))) (List.drop ((Int.toNat q22125.2.2.2.2.2.2.2.2.1) + (q22125.2.2.2.2.2.2.2.2.2.2.2.1.2.length - (Int.toNat q22125.2.2.2.2.2.2.2.2.1))) q22125.2.2.2.2.2.2.2.2.2.2.2.1.2))), q22125.2.2.2.2.2.2.2.2.2.2.2.2))).2).1).2).2).2, (((((q22125.2.2.2.2.2.2.2.2.2.1, (q22125.2.2.2.2.2.2.2.2.2.2.1, ((q22125.2.2.2.2.2.2.2.2.2.2.2.1.1, app (List.take (Int.toNat q22125.2.2.2.2.2.2.2.2.1) q22125.2.2.2.2.2.2.2.2.2.2.2.1.2) (app (List.replicate (q22125.2.2.2.2.2.2.2.2.2.2.2.1.2.length - (Int.toNat q22125.2.2.2.2.2.2.2.2.1)) ((0 : Int), ((0 : Int), ([], ([], ((0 : Int), (0 : Int))))))) (List.drop ((Int.toNat q22125.2.2.2.2.2.2.2.2.1) + (q22125.2.2.2.2.2.2.2.2.2.2.2.1.2.length - (Int.toNat q22125.2.2.2.2.2.2.2.2.1))) q22125.2.2.2.2.2.2.2.2.2.2.2.1.2))), q22125.2.2.2.2.2.2.2.2.2.2.2.2))).2).2).1).1, ((), (((q22125.2.2.2.2.2.2.2.2.2.1, (q22125.2.2.2.2.2.2.2.2.2.2.1, ((q22125.2.2.2.2.2.2.2.2.2.2.2.1.1, app (List.take (Int.toNat q22125.2.2.2.2.2.2.2.2.1) q22125.2.2.2.2.2.2.2.2.2.2.2.1.2) (app (List.replicate (q22125.2.2.2.2.2.2.2.2.2.2.2.1.2.length - (Int.toNat q22125.2.2.2.2.2.2.2.2.1)) ((0 : Int), ((0 : Int), ([], ([], ((0 : Int), (0 : Int))))))) (List.drop ((Int.toNat q22125.2.2.2.2.2.2.2.2.1) + (q22125.2.2.2.2.2.2.2.2.2.2.2.1.2.length - (Int.toNat q22125.2.2.2.2.2.2.2.2.1))) q22125.2.2.2.2.2.2.2.2.2.2.2.1.2))), q22125.2.2.2.2.2.2.2.2.2.2.2.2))).2).2).2))))))), midL (((((q22125.2.2.2.2.2.2.2.2.2.1, (q22125.2.2.2.2.2.2.2.2.2.2.1, ((q22125.2.2.2.2.2.2.2.2.2.2.2.1.1, app (List.take (Int.toNat q22125.2.2.2.2.2.2.2.2.1) q22125.2.2.2.2.2.2.2.2.2.2.2.1.2) (app (List.replicate (q22125.2.2.2.2.2.2.2.2.2.2.2.1.2.length - (Int.toNat q22125.2.2.2.2.2.2.2.2.1)) ((0 : Int), ((0 : Int), ([], ([], ((0 : Int), (0 : Int))))))) (List.drop ((Int.toNat q22125.2.2.2.2.2.2.2.2.1) + (q22125.2.2.2.2.2.2.2.2.2.2.2.1.2.length - (Int.toNat q22125.2.2.2.2.2.2.2.2.1))) q22125.2.2.2.2.2.2.2.2.2.2.2.1.2))), q22125.2.2.2.2.2.2.2.2.2.2.2.2))).2).2).1).2) 0 (Int.toNat q22125.2.2.2.2.2.2.2.2.1))))))))))
 else
 none
 else
 none) fun (d22126 : T_3) =>
 some ((), (d22126.2.2.2.2.2.2.2.2.1.1, ((d22126.2.2.2.2.2.2.2.2.1.2.1, (d22126.2.2.2.2.2.2.2.2.1.2.2.1, (d22126.2.2.2.2.2.2.2.2.1.2.2.2.1, d22126.2.2.2.2.2.2.2.2.1.2.2.2.2.1))), ((d22126.2.2.2.2.2.2.2.2.1.2.2.2.2.2.1, d22126.2.2.2.2.2.2.2.2.2), d22126.2.2.2.2.2.2.2.2.1.2.2.2.2.2.2.2)))))
 (
 Option.bind (
 Option.bind (
 Option.bind (loopR (r16_L5q d19556 b19557) (0 : Int)) fun (q22205 : (Unit ⊕ Int)) =>
 Sum.elim (fun (_ : Unit) =>
 some (-1 : Int))
 (fun (v22207 : Int) =>
 some v22207) q22205) fun (d22208 : Int) =>
 bif decide (d22208 = (-1 : Int)) then
 some ((), ((), ((), ((), ((), ((), ((), ((d19556.2.2.1, (d19556.2.2.2.1.1, (d19556.2.2.2.1.2.1, (d19556.2.2.2.1.2.2.1, (d19556.2.2.2.1.2.2.2, (d19556.2.2.2.2.1.1, ((), d19556.2.2.2.2.2))))))), d19556.2.2.2.2.1.2))))))))
 else
 Option.bind (loopR (r16_L6q b19557) ((), ((), ((), ((), ((), ((), ((), ((), (d22208, ((Go.IntKind.wrap .i64 (d22208 + (1 : Int))), d19556.2.2))))))))))) fun (q22225 : T_6) =>
 bif okB (some q22225.2.2.2.2.2.2.2.1) none none q22225.2.2.2.2.2.2.2.2.2.2.1.2.length then
 bif okB none (some q22225.2.2.2.2.2.2.2.1) none ((((((q22225.2.2.2.2.2.2.2.2.1, (q22225.2.2.2.2.2.2.2.2.2.1, ((q22225.2.2.2.2.2.2.2.2.2.2.1.1, app (List.take (Int.toNat q22225.2.2.2.2.2.2.2.1) q22225.2.2.2.2.2.2.2.2.2.2.1.2) (app (List.replicate (q22225.2.2.2.2.2.2.2.2.2.2.1.2.length - (Int.toNat q22225.2.2.2.2.2.2.2.1)) ((0 : Int), ((0 : Int), ([], ([], ((0 : Int), (0 : Int))))))) (List.drop ((Int.toNat q22225.2.2.2.2.2.2.2.1) + (q22225.2.2.2.2.2.2.2.2.2.2.1.2.length - (Int.toNat q22225.2.2.2.2.2.2.2.1))) q22225.2.2.2.2.2.2.2.2.2.2.1.2))), q22225.2.2.2.2.2.2.2.2.2.2.2))).2).2).1).2).length) then
 some ((), ((), ((), ((), ((), ((), ((), (((q22225.2.2.2.2.2.2.2.2.1, (q22225.2.2.2.2.2.2.2.2.2.1, ((q22225.2.2.2.2.2.2.2.2.2.2.1.1, app (List.take (Int.toNat q22225.2.2.2.2.2.2.2.1) q22225.2.2.2.2.2.2.2.2.2.2.1.2) (app (List.replicate (q22225.2.2.2.2.2.2.2.2.2.2.1.2.length - (Int.toNat q22225.2.2.2.2.2.2.2.1)) ((0 : Int), ((0 : Int), ([], ([], ((0 : Int), (0 : Int))))))) (List.drop ((Int.toNat q22225.2.2.2.2.2.2.2.1) + (q22225.2.2.2.2.2.2.2.2.2.2.1.2.length - (Int.toNat q22225.2.2.2.2.2.2.2.1))) q22225.2.2.2.2.2.2.2.2.2.2.1.2))), q22225.2.2.2.2.2.2.2.2.2.2.2))).1, ((((q22225.2.2.2.2.2.2.2.2.1, (q22225.2.2.2.2.2.2.2.2.2.1, ((q22225.2.2.2.2.2.2.2.2.2.2.1.1, app (List.take (Int.toNat q22225.2.2.2.2.2.2.2.1) q22225.2.2.2.2.2.2.2.2.2.2.1.2) (app (List.replicate (q22225.2.2.2.2.2.2.2.2.2.2.1.2.length - (Int.toNat q22225.2.2.2.2.2.2.2.1)) ((0 : Int), ((0 : Int), ([], ([], ((0 : Int), (0 : Int))))))) (List.drop ((Int.toNat q22225.2.2.2.2.2.2.2.1) + (q22225.2.2.2.2.2.2.2.2.2.2.1.2.length - (Int.toNat q22225.2.2.2.2.2.2.2.1))) q22225.2.2.2.2.2.2.2.2.2.2.1.2))), q22225.2.2.2.2.2.2.2.2.2.2.2))).2).1).1, (((((q22225.2.2.2.2.2.2.2.2.1, (q22225.2.2.2.2.2.2.2.2.2.1, ((q22225.2.2.2.2.2.2.2.2.2.2.1.1, app (List.take (Int.toNat q22225.2.2.2.2.2.2.2.1) q22225.2.2.2.2.2.2.2.2.2.2.1.2) (app (List.replicate (q22225.2.2.2.2.2.2.2.2.2.2.1.2.length - (Int.toNat q22225.2.2.2.2.2.2.2.1)) ((0 : Int), ((0 : Int), ([], ([], ((0 : Int), (0 : Int))))))) (List.drop ((Int.toNat q22225.2.2.2.2.2.2.2.1) + (q22225.2.2.2.2.2.2.2.2.2.2.1.2.length - (Int.toNat q22225.2.2.2.2.2.2.2.1))) q22225.2.2.2.2.2.2.2.2.2.2.1.2))), q22225.2.2.2.2.2.2.2.2.2.2.2))).2).1).2).1, ((((((q22225.2.2.2.2.2.2.2.2.1, (q22225.2.2.2.2.2.2.2.2.2.1, ((q22225.2.2.2.2.2.2.2.2.2.2.1.1, app (List.take (Int.toNat q22225.2.2.2.2.2.2.2.1) q22225.2.2.2.2.2.2.2.2.2.2.1.2) (app (List.replicate (q22225.2.2.2.2.2.2.2.2.2.2.1.2.length - (Int.toNat q22225.2.2.2.2.2.2.2.1)) ((0 : Int), ((0 : Int), ([], ([], ((0 : Int), (0 : Int))))))) (List.drop ((Int.toNat q22225.2.2.2.2.2.2.2.1) + (q22225.2.2.2.2.2.2.2.2.2.2.1.2.length - (Int.toNat q22225.2.2.2.2.2.2.2.1))) q22225.2.2.2.2.2.2.2.2.2.2.1.2))), q22225.2.2.2.2.2.2.2.2.2.2.2))).2).1).2).2).1, ((((((q22225.2.2.2.2.2.2.2.2.1, (q22225.2.2.2.2.2.2.2.2.2.1, ((q22225.2.2.2.2.2.2.2.2.2.2.1.1, app (List.take (Int.toNat q22225.2.2.2.2.2.2.2.1) q22225.2.2.2.2.2.2.2.2.2.2.1.2) (app (List.replicate (q22225.2.2.2.2.2.2.2.2.2.2.1.2.length - (Int.toNat q22225.2.2.2.2.2.2.2.1)) ((0 : Int), ((0 : Int), ([], ([], ((0 : Int), (0 : Int))))))) (List.drop ((Int.toNat q22225.2.2.2.2.2.2.2.1) + (q22225.2.2.2.2.2.2.2.2.2.2.1.2.length - (Int.toNat q22225.2.2.2.2.2.2.2.1))) q22225.2.2.2.2.2.2.2.2.2.2.1.2))), q22225.2.2.2.2.2.2.2.2.2.2.2))).2).1).2).2).2, (((((q22225.2.2.2.2.2.2.2.2.1, (q22225.2.2.2.2.2.2.2.2.2.1, ((q22225.2.2.2.2.2.2.2.2.2.2.1.1, app (List.take (Int.toNat q22225.2.2.2.2.2.2.2.1) q22225.2.2.2.2.2.2.2.2.2.2.1.2) (app (List.replicate (q22225.2.2.2.2.2.2.2.2.2.2.1.2.length - (Int.toNat q22225.2.2.2.2.2.2.2.1)) ((0 : Int), ((0 : Int), ([], ([], ((0 : Int), (0 : Int))))))) (List.drop ((Int.toNat q22225.2.2.2.2.2.2.2.1) + (q22225.2.2.2.2.2.2.2.2.2.2.1.2.length - (Int.toNat q22225.2.2.2.2.2.2.2.1))) q22225.2.2.2.2.2.2.2.2.2.2.1.2))), q22225.2.2.2.2.2.2.2.2.2.2.2))).2).2).1).1, ((), (((q22225.2.2.2.2.2.2.2.2.1, (q22225.2.2.2.2.2.2.2.2.2.1, ((q22225.2.2.2.2.2.2.2.2.2.2.1.1, app (List.take (Int.toNat q22225.2.2.2.2.2.2.2.1) q22225.2.2.2.2.2.2.2.2.2.2.1.2) (app (List.replicate (q22225.2.2.2.2.2.2.2.2.2.2.1.2.length - (Int.toNat q22225.2.2.2.2.2.2.2.1)) ((0 : Int), ((0 : Int), ([], ([], ((0 : Int), (0 : Int))))))) (List.drop ((Int.toNat q22225.2.2.2.2.2.2.2.1) + (q22225.2.2.2.2.2.2.2.2.2.2.1.2.length - (Int.toNat q22225.2.2.2.2.2.2.2.1))) q22225.2.2.2.2.2.2.2.2.2.2.1.2))), q22225.2.2.2.2.2.2.2.2.2.2.2))).2).2).2))))))), midL (((((q22225.2.2.2.2.2.2.2.2.1, (q22225.2.2.2.2.2.2.2.2.2.1, ((q22225.2.2.2.2.2.2.2.2.2.2.1.1, app (List.take (Int.toNat q22225.2.2.2.2.2.2.2.1) q22225.2.2.2.2.2.2.2.2.2.2.1.2) (app (List.replicate (q22225.2.2.2.2.2.2.2.2.2.2.1.2.length - (Int.toNat q22225.2.2.2.2.2.2.2.1)) ((0 : Int), ((0 : Int), ([], ([], ((0 : Int), (0 : Int))))))) (List.drop ((Int.toNat q22225.2.2.2.2.2.2.2.1) + (q22225.2.2.2.2.2.2.2.2.2.2.1.2.length - (Int.toNat q22225.2.2.2.2.2.2.2.1))) q22225.2.2.2.2.2.2.2.2.2.2.1.2))), q22225.2.2.2.2.2.2.2.2.2.2.2))).2).2).1).2) 0 (Int.toNat q22225.2.2.2.2.2.2.2.1)))))))))
 else
 none
 else
 none) fun (d22226 : T_5) =>
 some ((), (d22226.2.2.2.2.2.2.2.1.1, ((d22226.2.2.2.2.2.2.2.1.2.1, (d22226.2.2.2.2.2.2.2.1.2.2.1, (d22226.2.2.2.2.2.2.2.1.2.2.2.1, d22226.2.2.2.2.2.2.2.1.2.2.2.2.1))), ((d22226.2.2.2.2.2.2.2.1.2.2.2.2.2.1, d22226.2.2.2.2.2.2.2.2), d22226.2.2.2.2.2.2.2.1.2.2.2.2.2.2.2)))))) fun (d22227 : T_11) =>
 some ((), d22227.2)
 else
 bif decide (b19557.1 = (5 : Int)) then
 bif decide (b19557.2.1.1 = d19556.2.2.1) then
 some ((), (d19556.2.2.1, (d19556.2.2.2.1, (((max d19556.2.2.2.2.1.1 (Go.IntKind.wrap .i64 (b19557.2.1.2 + (1 : Int)))), d19556.2.2.2.2.1.2), d19556.2.2.2.2.2))))
 else
 some ((), d19556.2.2)
 else
 some ((), d19556.2.2)) fun (d22228 : T_11) =>
 some (Sum.inl ((), ((Go.IntKind.wrap .i64 (d19556.2.1 + (1 : Int))), d22228.2)))
 else
 some (Sum.inr ((), d19556.2.2))
theorem bind_condR {α β : Type} (b : Bool) (x y : Option α) (f : α → Option β) : Option.bind (bif b then x else y) f = bif b then Option.bind x f else Option.bind y f := by cases b <;> rfl
theorem map_condR {α β : Type} (b : Bool) (x y : Option α) (f : α → β) : Option.map f (bif b then x else y) = bif b then Option.map f x else Option.map f y := by cases b <;> rfl
theorem map_bindR {α β γ : Type} (x : Option α) (g : α → Option β) (f : β → γ) : Option.map f (Option.bind x g) = Option.bind x fun a => Option.map f (g a) := by cases x <;> rfl

theorem r16_L6m (b : T_30) (y : T_2) : loopR (r16_L6 b) y = (loopR (r16_L4 b) ((), y)).map Prod.snd := by
  refine (loopR_map (f := r16_L4 b) (g := r16_L6 b) Prod.snd Prod.snd (fun d => ?_) ((), y)).symm
  unfold r16_L4 r16_L6
  simp only [map_condR, map_bindR, bind_condR, Option.map_some, Option.map_none, Option.bind_some, Option.bind_none, Option.bind_assoc, Sum.map_inl, Sum.map_inr]

theorem r16_L5m : r16_L5 = r16_L3 := rfl

theorem r16_L7e (a : T_28) : r16_L7q a = r16_L7 a := by
  unfold r16_L7q r16_L7
  simp only [sameR_self, r16_L1e, r16_L2e, r16_L3e, r16_L4e, r16_L5e, r16_L6e, r16_L5m, r16_L6m, Option.bind_map, Function.comp_def, Option.bind_assoc, bind_condR, Option.bind_some, Option.bind_none]
def sg16 : Sig := ⟨[⟨true, .bo, E_45⟩, ⟨false, .bo, (.int .i64)⟩, ⟨false, .bo, (.sl E_41)⟩], [⟨true, .ro, E_37⟩, ⟨true, .ro, E_38⟩, ⟨false, .own, (.sl E_46)⟩, ⟨false, .own, (.int .i64)⟩]⟩
noncomputable def r16 (a : T_28) : Option T_13 :=
 Option.bind (r34 a.1) fun (y1 : Int) =>
 bif !(decide (y1 = (0 : Int))) then
 some (([], ([], ([], []))), (((0 : Int), []), ([], y1)))
 else
 Option.bind (
 bif !(decide (a.2.1 < (0 : Int))) then
 some (decide (a.1.1 ≤ a.2.1))
 else
 some true) fun (d2 : Bool) =>
 bif d2 then
 some (([], ([], ([], []))), (((0 : Int), []), ([], (2 : Int))))
 else
 Option.bind (loopR (r16_L0 a) ((), ((), ((0 : Int), (([], ([], ([], []))), ((0 : Int), [])))))) fun (q9 : (T_17 ⊕ T_15)) =>
 Sum.elim (fun (_ : T_17) =>
 Option.bind (loopR (r16_L7 a) ((), ((0 : Int), (a.2.1, (([], ([], ([], []))), (((1 : Int), []), [])))))) fun (q22229 : T_11) =>
 Option.bind (
 
 some ((), ((), ((), ((0 : Int), q22229.2.2))))) fun (d22230 : T_8) =>
 some (d22230.2.2.2.2.1, (d22230.2.2.2.2.2.1, (d22230.2.2.2.2.2.2, d22230.2.2.2.1))))
 (fun (v11 : T_15) =>
 some (v11.2.2.2.2.1, (v11.2.2.2.2.2, ([], v11.2.2.2.1)))) q9
noncomputable def r16q : T_28 → Option T_13 := fun a =>
 Option.bind (r34 a.1) fun (y1 : Int) =>
 bif !(decide (y1 = (0 : Int))) then
 some (([], ([], ([], []))), (((0 : Int), []), ([], y1)))
 else
 Option.bind (
 bif !(decide (a.2.1 < (0 : Int))) then
 some (decide (a.1.1 ≤ a.2.1))
 else
 some true) fun (d2 : Bool) =>
 bif d2 then
 some (([], ([], ([], []))), (((0 : Int), []), ([], (2 : Int))))
 else
 Option.bind (loopR (r16_L0q a) ((), ((), ((0 : Int), (([], ([], ([], []))), ((0 : Int), [])))))) fun (q9 : (T_17 ⊕ T_15)) =>
 Sum.elim (fun (_ : T_17) =>
 Option.bind (loopR (r16_L7q a) ((), ((0 : Int), (a.2.1, (([], ([], ([], []))), (((1 : Int), []), [])))))) fun (q22229 : T_11) =>
 Option.bind (
 sameR (
 some ((), ((), ((), ((0 : Int), q22229.2.2)))))
 (
 sameR (
 sameR (
 some ((), ((), ((), ((0 : Int), q22229.2.2)))))
 (
 some ((), ((), ((), ((0 : Int), q22229.2.2))))))
 (
 sameR (
 sameR (
 some ((), ((), ((), ((0 : Int), q22229.2.2)))))
 (
 sameR (
 some ((), ((), ((), ((0 : Int), q22229.2.2)))))
 (
 some ((), ((), ((), ((0 : Int), q22229.2.2)))))))
 (
 sameR (
 sameR (
 some ((), ((), ((), ((0 : Int), q22229.2.2)))))
 (
 sameR (
 some ((), ((), ((), ((0 : Int), q22229.2.2)))))
 (
 sameR (
 some ((), ((), ((), ((0 : Int), q22229.2.2)))))
 (
 some ((), ((), ((), ((0 : Int), q22229.2.2))))))))
 (
 sameR (
 sameR (
 some ((), ((), ((), ((0 : Int), q22229.2.2)))))
 (
 sameR (
 some ((), ((), ((), ((0 : Int), q22229.2.2)))))
 (
 sameR (
 some ((), ((), ((), ((0 : Int), q22229.2.2)))))
 (
 sameR (
 some ((), ((), ((), ((0 : Int), q22229.2.2)))))
 (
 some ((), ((), ((), ((0 : Int), q22229.2.2)))))))))
 (
 sameR (
 some ((), ((), ((), ((0 : Int), q22229.2.2)))))
 (
 sameR (
 sameR (
 some ((), ((), ((), ((0 : Int), q22229.2.2)))))
 (
 some ((), ((), ((), ((0 : Int), q22229.2.2))))))
 (
 sameR (
 sameR (
 some ((), ((), ((), ((0 : Int), q22229.2.2)))))
 (
 sameR (
 some ((), ((), ((), ((0 : Int), q22229.2.2)))))
 (
 some ((), ((), ((), ((0 : Int), q22229.2.2)))))))
 (
 sameR (
 sameR (
 some ((), ((), ((), ((0 : Int), q22229.2.2)))))
 (
 sameR (
 some ((), ((), ((), ((0 : Int), q22229.2.2)))))
 (
 sameR (
 some ((), ((), ((), ((0 : Int), q22229.2.2)))))
 (
 some ((), ((), ((), ((0 : Int), q22229.2.2))))))))
 (
 sameR (
 sameR (
 some ((), ((), ((), ((0 : Int), q22229.2.2)))))
 (
 sameR (
 some ((), ((), ((), ((0 : Int), q22229.2.2)))))
 (
 sameR (
 some ((), ((), ((), ((0 : Int), q22229.2.2)))))
 (
 sameR (
 some ((), ((), ((), ((0 : Int), q22229.2.2)))))
 (
 some ((), ((), ((), ((0 : Int), q22229.2.2)))))))))
 (
 sameR (
 some ((), ((), ((), ((0 : Int), q22229.2.2)))))
 (
 sameR (
 sameR (
 some ((), ((), ((), ((0 : Int), q22229.2.2)))))
 (
 some ((), ((), ((), ((0 : Int), q22229.2.2))))))
 (
 sameR (
 sameR (
 some ((), ((), ((), ((0 : Int), q22229.2.2)))))
 (
 sameR (
 some ((), ((), ((), ((0 : Int), q22229.2.2)))))
 (
 some ((), ((), ((), ((0 : Int), q22229.2.2)))))))
 (
 sameR (
 sameR (
 some ((), ((), ((), ((0 : Int), q22229.2.2)))))
 (
 sameR (
 some ((), ((), ((), ((0 : Int), q22229.2.2)))))
 (
 sameR (
 some ((), ((), ((), ((0 : Int), q22229.2.2)))))
 (
 some ((), ((), ((), ((0 : Int), q22229.2.2))))))))
 (
 sameR (
 sameR (
 some ((), ((), ((), ((0 : Int), q22229.2.2)))))
 (
 sameR (
 some ((), ((), ((), ((0 : Int), q22229.2.2)))))
 (
 sameR (
 some ((), ((), ((), ((0 : Int), q22229.2.2)))))
 (
 sameR (
 some ((), ((), ((), ((0 : Int), q22229.2.2)))))
 (
 some ((), ((), ((), ((0 : Int), q22229.2.2)))))))))
 (
 sameR (
 some ((), ((), ((), ((0 : Int), q22229.2.2)))))
 (
 sameR (
 sameR (
 some ((), ((), ((), ((0 : Int), q22229.2.2)))))
 (
 some ((), ((), ((), ((0 : Int), q22229.2.2))))))
 (
 sameR (
 sameR (
 some ((), ((), ((), ((0 : Int), q22229.2.2)))))
 (
 sameR (
 some ((), ((), ((), ((0 : Int), q22229.2.2)))))
 (
 some ((), ((), ((), ((0 : Int), q22229.2.2)))))))
 (
 sameR (
 sameR (
 some ((), ((), ((), ((0 : Int), q22229.2.2)))))
 (
 sameR (
 some ((), ((), ((), ((0 : Int), q22229.2.2)))))
 (
 sameR (
 some ((), ((), ((), ((0 : Int), q22229.2.2)))))
 (
 some ((), ((), ((), ((0 : Int), q22229.2.2))))))))
 (
 sameR (
 sameR (
 some ((), ((), ((), ((0 : Int), q22229.2.2)))))
 (
 sameR (
 some ((), ((), ((), ((0 : Int), q22229.2.2)))))
 (
 sameR (
 some ((), ((), ((), ((0 : Int), q22229.2.2)))))
 (
 sameR (
 some ((), ((), ((), ((0 : Int), q22229.2.2)))))
 (
 some ((), ((), ((), ((0 : Int), q22229.2.2)))))))))
 (
 sameR (
 some ((), ((), ((), ((0 : Int), q22229.2.2)))))
 (
 sameR (
 sameR (
 some ((), ((), ((), ((0 : Int), q22229.2.2)))))
 (
 some ((), ((), ((), ((0 : Int), q22229.2.2))))))
 (
 sameR (
 sameR (
 some ((), ((), ((), ((0 : Int), q22229.2.2)))))
 (
 sameR (
 some ((), ((), ((), ((0 : Int), q22229.2.2)))))
 (
 some ((), ((), ((), ((0 : Int), q22229.2.2)))))))
 (
 sameR (
 sameR (
 some ((), ((), ((), ((0 : Int), q22229.2.2)))))
 (
 sameR (
 some ((), ((), ((), ((0 : Int), q22229.2.2)))))
 (
 sameR (
 some ((), ((), ((), ((0 : Int), q22229.2.2)))))
 (
 some ((), ((), ((), ((0 : Int), q22229.2.2))))))))
 (
 sameR (
 some ((), ((), ((), ((0 : Int), q22229.2.2)))))
 (
 sameR (
 some ((), ((), ((), ((0 : Int), q22229.2.2)))))
 (
 sameR (
 some ((), ((), ((), ((0 : Int), q22229.2.2)))))
 (
 sameR (
 some ((), ((), ((), ((0 : Int), q22229.2.2)))))
 (
 some ((), ((), ((), ((0 : Int), q22229.2.2))))))))))))))))))))))))))))))))) fun (d22230 : T_8) =>
 some (d22230.2.2.2.2.1, (d22230.2.2.2.2.2.1, (d22230.2.2.2.2.2.2, d22230.2.2.2.1))))
 (fun (v11 : T_15) =>
 some (v11.2.2.2.2.1, (v11.2.2.2.2.2, ([], v11.2.2.2.1)))) q9
theorem r16e : r16q = r16 := by unfold r16q r16; simp only [sameR_self, r16_L0e, r16_L7e]
def an16 : Ann := .two (.leaf) (.two (.two (.leaf) (.two (.leaf) (.two (.two (.leaf) (.leaf)) (.leaf)))) (.two (.two (.join [1, 2, 3, 6, 7] [3, 6, 7] [⟨.normal, [], [.tmp 31 (.bool)]⟩] (.leaf)) (.two (.two (.leaf) (.leaf)) (.leaf))) (.two (.two (.leaf) (.one (.loop [1, 2, 3, 34, 35] [3] [] [.tmp 6 (.pt 6 [(0, 0)] 0 0 4), .tmp 7 (.pt 7 [(0, 0)] 0 0 2), .tmp 36 (.int .i64), .box 6 [.sl .own E_47, .sl .own E_44, .sl .own E_48, .sl .own (.pair (.int .i64) (.int .i64))], .box 7 [.int .i64, .sl .own E_40]] [⟨.exit 0, [], [.tmp 6 (.pt 6 [(0, 0)] 0 0 4), .tmp 7 (.pt 7 [(0, 0)] 0 0 2), .box 6 [.sl .own E_47, .sl .own E_44, .sl .own E_48, .sl .own (.pair (.int .i64) (.int .i64))], .box 7 [.int .i64, .sl .own E_40]]⟩, ⟨.ret, [], [.tmp 6 (.pt 6 [(0, 0)] 0 0 4), .tmp 7 (.pt 7 [(0, 0)] 0 0 2), .tmp 8 (.nil), .tmp 9 (.int .i64), .box 6 [.sl .own E_47, .sl .own E_44, .sl .own E_48, .sl .own (.pair (.int .i64) (.int .i64))], .box 7 [.int .i64, .sl .own E_40]]⟩] (.two (.leaf) (.two (.two (.leaf) (.leaf)) (.two (.one (.two (.leaf) (.two (.leaf) (.two (.leaf) (.two (.two (.leaf) (.leaf)) (.leaf)))))) (.leaf))))))) (.two (.leaf) (.two (.two (.leaf) (.one (.clsPre [(52, ([(0, 0)], E_34))] (.loop [6, 7, 53, 54] [6, 7] [(14, E_34)] [.tmp 14 (.pt 14 [(0, 0)] 0 0 8), .tmp 55 (.int .i64), .row 14 [.pt .own E_34]] [⟨.exit 2, [], [.tmp 14 (.pt 14 [(0, 0)] 0 0 8), .row 14 [.pt .own E_34]]⟩] (.two (.leaf) (.two (.two (.leaf) (.leaf)) (.two (.one (.two (.leaf) (.inl 2 75 (.join [6, 7, 53, 54, 55] [6, 7] [⟨.normal, [], [.tmp 14 (.pt 77 [(0, 0), (0, 0)] 0 0 8), .box 77 [.pt .own E_34]]⟩] (.two (.leaf) (.two (.leaf) (.one (.two (.leaf) (.two (.two (.join [6, 7, 14, 53, 54, 55, 77] [6, 7, 77] [⟨.normal, [], [.tmp 79 (.pt 79 [(0, 0)] 0 0 4), .tmp 80 (.int .i64), .box 79 [.sl .own E_47, .sl .own E_44, .sl .own E_48, .sl .own (.pair (.int .i64) (.int .i64))]]⟩] (.drawT [0, 1, 2, 3, 4, 5, 6, 7, 8, 9, 10, 11, 12, 13, 14, 15, 16] [15])) (.two (.leaf) (.two (.leaf) (.leaf)))) (.two (.leaf) (.two (.two (.inl 5 211 (.join [6, 7, 53, 54, 55, 78] [6, 7, 78] [⟨.normal, [], [.tmp 14 (.pt 77 [(0, 0), (0, 0)] 0 0 8), .tmp 77 (.pt 77 [(0, 0)] 0 0 1), .box 77 [.pt .own E_34]]⟩] (.two (.leaf) (.two (.join [6, 7, 14, 53, 54, 55, 77, 78, 211] [6, 7, 77, 78] [⟨.normal, [], [.tmp 217 (.pt 217 [(0, 0)] 0 0 4), .tmp 218 (.int .i64), .box 217 [.sl .own E_47, .sl .own E_44, .sl .own E_48, .sl .own (.pair (.int .i64) (.int .i64))]]⟩] (.drawT [0, 1, 2, 3, 4, 5, 6, 7, 8, 9, 10] [9])) (.two (.leaf) (.two (.leaf) (.leaf)))))) (.leaf)) (.two (.leaf) (.one (.loop [6, 7, 53, 54, 55, 78, 121] [6, 7, 78] [] [.tmp 14 (.pt 77 [(0, 0), (0, 0)] 0 0 8), .tmp 77 (.pt 77 [(0, 0)] 0 0 1), .tmp 120 (.own 77 [(0, 0), (0, 0), (0, 7)] E_46), .tmp 122 (.int .i64), .box 77 [.pt .own E_34]] [⟨.exit 1, [], [.tmp 14 (.pt 77 [(0, 0), (0, 0)] 0 0 8), .box 77 [.pt .own E_34]]⟩] (.two (.leaf) (.two (.two (.leaf) (.leaf)) (.two (.join [6, 7, 53, 54, 55, 78, 121, 122] [6, 7, 78] [⟨.normal, [], [.tmp 14 (.pt 77 [(0, 0), (0, 0)] 0 0 8), .tmp 77 (.pt 77 [(0, 0)] 0 0 1), .tmp 120 (.own 77 [(0, 0), (0, 0), (0, 7)] E_46), .box 77 [.pt .own E_34]]⟩] (.one (.two (.leaf) (.two (.join [6, 7, 14, 53, 54, 55, 77, 78, 81, 120, 121, 122] [6, 7, 77, 78] [⟨.normal, [], [.tmp 138 (.bool)]⟩] (.leaf)) (.two (.leaf) (.leaf)))))) (.leaf)))))))) (.two (.leaf) (.two (.two (.inl 5 235 (.join [6, 7, 53, 54, 55, 78] [6, 7, 78] [⟨.normal, [], [.tmp 14 (.pt 77 [(0, 0), (0, 0)] 0 0 8), .tmp 77 (.pt 77 [(0, 0)] 0 0 1), .box 77 [.pt .own E_34]]⟩] (.two (.leaf) (.two (.join [6, 7, 14, 53, 54, 55, 77, 78, 235] [6, 7, 77, 78] [⟨.normal, [], [.tmp 241 (.pt 241 [(0, 0)] 0 0 4), .tmp 242 (.int .i64), .box 241 [.sl .own E_47, .sl .own E_44, .sl .own E_48, .sl .own (.pair (.int .i64) (.int .i64))]]⟩] (.drawT [0, 1, 2, 3, 4, 5, 6, 7, 8, 9, 10] [9])) (.two (.leaf) (.two (.leaf) (.leaf)))))) (.leaf)) (.join [6, 7, 53, 54, 55] [6, 7] [⟨.normal, [], [.tmp 14 (.pt 77 [(0, 0), (0, 0)] 0 0 8), .box 77 [.pt .own E_34]]⟩] (.drawT [0, 1, 2, 3, 4, 5, 6, 7, 8, 9, 10] [0]))) (.two (.leaf) (.two (.inl 2 259 (.join [6, 7, 53, 54, 55] [6, 7] [⟨.normal, [], [.tmp 14 (.pt 77 [(0, 0), (0, 0)] 0 0 8), .box 77 [.pt .own E_34]]⟩, ⟨.ret, [], [.tmp 14 (.pt 77 [(0, 0), (0, 0)] 0 0 8), .box 77 [.pt .own E_34]]⟩] (.two (.leaf) (.two (.leaf) (.two (.join [6, 7, 14, 53, 54, 55, 259, 262, 263] [6, 7, 77, 262] [⟨.normal, [], [.tmp 264 (.int .i64), .tmp 265 (.bool)]⟩] (.stagesI [0, 1, 2, 3, 4, 5, 6, 10] 7 332 (.join [6, 7, 14, 53, 54, 55, 259, 262, 263, 270, 271, 272, 274, 275] [6, 7, 77, 262] [⟨.ret, [], [.tmp 338 (.int .i64), .tmp 339 (.bool)]⟩] (.two (.leaf) (.two (.leaf) (.two (.leaf) (.two (.one (.loop [6, 7, 14, 53, 54, 55, 259, 262, 263, 270, 271, 272, 274, 275, 332, 333, 334, 340] [6, 7, 77, 262] [] [.tmp 341 (.int .i64), .tmp 342 (.int .i64)] [⟨.exit 0, [], [.tmp 341 (.int .i64)]⟩] (.two (.two (.leaf) (.two (.leaf) (.leaf))) (.one (.two (.leaf) (.two (.inl 6 381 (.two (.leaf) (.two (.leaf) (.leaf))) (.leaf)) (.two (.leaf) (.leaf)))))))) (.two (.inl 11 390 (.two (.leaf) (.two (.leaf) (.leaf))) (.leaf)) (.leaf))))))))) (.two (.two (.join [6, 7, 14, 53, 54, 55, 262, 263, 264] [6, 7, 77, 262] [⟨.normal, [], [.tmp 314 (.bool)]⟩] (.draw 19)) (.two (.leaf) (.leaf))) (.join [6, 7, 53, 54, 55] [6, 7] [⟨.normal, [], [.tmp 14 (.pt 77 [(0, 0), (0, 0)] 0 0 8), .box 77 [.pt .own E_34]]⟩] (.stages [0, 1, 2, 3, 4, 5, 6, 7, 8, 9, 10, 11, 12]))))))) (.leaf)) (.two (.leaf) (.two (.join [6, 7, 53, 54, 55] [6, 7] [⟨.normal, [], [.tmp 14 (.pt 77 [(0, 0), (0, 0)] 0 0 8), .box 77 [.pt .own E_34]]⟩] (.stagesI [0, 1, 2, 3, 4, 5, 6] 7 399 (.has 176 (.join [6, 7, 53, 54, 55, 78] [6, 7, 78] [⟨.ret, [(403, E_40)], [.tmp 14 (.pt 77 [(0, 0), (0, 0)] 0 0 8), .tmp 77 (.pt 77 [(0, 0)] 0 0 1), .tmp 176 (.pt 77 [(0, 0), (0, 0)] 0 0 0), .tmp 177 (.pt 77 [(0, 0), (0, 0)] 0 0 0), .tmp 178 (.pt 77 [(0, 0), (0, 0)] 0 0 0), .tmp 179 (.pt 77 [(0, 0), (0, 0)] 0 5 0), .tmp 180 (.pt 77 [(0, 0), (0, 0)] 0 6 0), .tmp 403 (.own 403 [(0, 0)] E_40), .nest 77 (some E_34) [.int .i64, .sl .own E_47, .sl .own E_44, .sl .own E_48, .sl .own (.pair (.int .i64) (.int .i64)), .int .i64, .dead, .sl .own E_46], .row 403 [.sl .own E_40]]⟩] (.two (.leaf) (.two (.inl 2 441 (.join [6, 7, 14, 53, 54, 55, 77, 78, 176, 177, 178, 179, 180, 399, 400] [6, 7, 77, 78] [⟨.ret, [], [.tmp 445 (.int .i64)]⟩] (.two (.leaf) (.two (.two (.leaf) (.one (.loop [6, 7, 14, 53, 54, 55, 77, 78, 176, 177, 178, 179, 180, 399, 400, 441, 442, 448] [6, 7, 77, 78] [] [.tmp 449 (.int .i64)] [⟨.exit 0, [], []⟩, ⟨.ret, [], [.tmp 445 (.int .i64)]⟩] (.two (.leaf) (.two (.two (.leaf) (.leaf)) (.two (.one (.two (.leaf) (.two (.inl 5 460 (.two (.leaf) (.two (.draw 9) (.leaf))) (.leaf)) (.two (.two (.leaf) (.leaf)) (.leaf))))) (.leaf))))))) (.two (.leaf) (.leaf))))) (.leaf)) (.two (.two (.leaf) (.two (.two (.leaf) (.leaf)) (.leaf))) (.two (.two (.leaf) (.one (.loop [6, 7, 53, 54, 55, 78] [6, 7, 78] [] [.tmp 14 (.pt 77 [(0, 0), (0, 0)] 0 0 8), .tmp 77 (.pt 77 [(0, 0)] 0 0 1), .tmp 176 (.pt 77 [(0, 0), (0, 0)] 0 0 0), .tmp 177 (.pt 77 [(0, 0), (0, 0)] 0 0 0), .tmp 178 (.pt 77 [(0, 0), (0, 0)] 0 0 0), .tmp 179 (.pt 77 [(0, 0), (0, 0)] 0 5 0), .tmp 180 (.pt 77 [(0, 0), (0, 0)] 0 6 0), .tmp 399 (.own 77 [(0, 0), (0, 0), (0, 6)] E_40), .tmp 400 (.fnp 72 [(78, [(0, 0)]), (77, [(0, 0)])]), .tmp 404 (.int .i64), .tmp 405 (.int .i64), .box 77 [.pt .own E_34]] [⟨.exit 0, [], [.tmp 14 (.pt 77 [(0, 0), (0, 0)] 0 0 8), .tmp 77 (.pt 77 [(0, 0)] 0 0 1), .tmp 176 (.pt 77 [(0, 0), (0, 0)] 0 0 0), .tmp 177 (.pt 77 [(0, 0), (0, 0)] 0 0 0), .tmp 178 (.pt 77 [(0, 0), (0, 0)] 0 0 0), .tmp 179 (.pt 77 [(0, 0), (0, 0)] 0 5 0), .tmp 180 (.pt 77 [(0, 0), (0, 0)] 0 6 0), .tmp 399 (.own 77 [(0, 0), (0, 0), (0, 6)] E_40), .tmp 404 (.int .i64), .box 77 [.pt .own E_34]]⟩] (.two (.two (.leaf) (.two (.leaf) (.leaf))) (.two (.join [6, 7, 53, 54, 55, 78, 405] [6, 7, 78] [⟨.normal, [], [.tmp 14 (.pt 77 [(0, 0), (0, 0)] 0 0 8), .tmp 77 (.pt 77 [(0, 0)] 0 0 1), .tmp 176 (.pt 77 [(0, 0), (0, 0)] 0 0 0), .tmp 177 (.pt 77 [(0, 0), (0, 0)] 0 0 0), .tmp 178 (.pt 77 [(0, 0), (0, 0)] 0 0 0), .tmp 179 (.pt 77 [(0, 0), (0, 0)] 0 5 0), .tmp 180 (.pt 77 [(0, 0), (0, 0)] 0 6 0), .tmp 399 (.own 77 [(0, 0), (0, 0), (0, 6)] E_40), .tmp 400 (.fnp 72 [(78, [(0, 0)]), (77, [(0, 0)])]), .tmp 404 (.int .i64), .box 77 [.pt .own E_34]]⟩] (.one (.two (.leaf) (.two (.inl 2 475 (.two (.leaf) (.two (.draw 9) (.leaf))) (.leaf)) (.two (.two (.leaf) (.leaf)) (.leaf)))))) (.leaf)))))) (.two (.leaf) (.two (.leaf) (.leaf)))))))) (.join [6, 7, 53, 54, 55, 78] [6, 7, 78] [⟨.ret, [(403, E_40)], [.tmp 14 (.pt 77 [(0, 0), (0, 0)] 0 0 8), .tmp 77 (.pt 77 [(0, 0)] 0 0 1), .tmp 177 (.pt 77 [(0, 0), (0, 0)] 0 0 0), .tmp 178 (.pt 77 [(0, 0), (0, 0)] 0 0 0), .tmp 179 (.pt 77 [(0, 0), (0, 0)] 0 5 0), .tmp 180 (.pt 77 [(0, 0), (0, 0)] 0 6 0), .tmp 403 (.own 403 [(0, 0)] E_40), .nest 77 (some E_34) [.int .i64, .sl .own E_47, .sl .own E_44, .sl .own E_48, .sl .own (.pair (.int .i64) (.int .i64)), .int .i64, .dead, .sl .own E_46], .row 403 [.sl .own E_40]]⟩] (.two (.leaf) (.two (.inl 2 441 (.join [6, 7, 14, 53, 54, 55, 77, 78, 177, 178, 179, 180, 399, 400] [6, 7, 77, 78] [⟨.ret, [], [.tmp 445 (.int .i64)]⟩] (.two (.leaf) (.two (.two (.leaf) (.one (.loop [6, 7, 14, 53, 54, 55, 77, 78, 177, 178, 179, 180, 399, 400, 441, 442, 448] [6, 7, 77, 78] [] [.tmp 449 (.int .i64)] [⟨.exit 0, [], []⟩, ⟨.ret, [], [.tmp 445 (.int .i64)]⟩] (.two (.leaf) (.two (.two (.leaf) (.leaf)) (.two (.one (.two (.leaf) (.two (.inl 5 460 (.two (.leaf) (.two (.draw 9) (.leaf))) (.leaf)) (.two (.two (.leaf) (.leaf)) (.leaf))))) (.leaf))))))) (.two (.leaf) (.leaf))))) (.leaf)) (.two (.two (.leaf) (.two (.two (.leaf) (.leaf)) (.leaf))) (.two (.two (.leaf) (.one (.loop [6, 7, 53, 54, 55, 78] [6, 7, 78] [] [.tmp 14 (.pt 77 [(0, 0), (0, 0)] 0 0 8), .tmp 77 (.pt 77 [(0, 0)] 0 0 1), .tmp 177 (.pt 77 [(0, 0), (0, 0)] 0 0 0), .tmp 178 (.pt 77 [(0, 0), (0, 0)] 0 0 0), .tmp 179 (.pt 77 [(0, 0), (0, 0)] 0 5 0), .tmp 180 (.pt 77 [(0, 0), (0, 0)] 0 6 0), .tmp 399 (.own 77 [(0, 0), (0, 0), (0, 6)] E_40), .tmp 400 (.fnp 72 [(78, [(0, 0)]), (77, [(0, 0)])]), .tmp 404 (.int .i64), .tmp 405 (.int .i64), .box 77 [.pt .own E_34]] [⟨.exit 0, [], [.tmp 14 (.pt 77 [(0, 0), (0, 0)] 0 0 8), .tmp 77 (.pt 77 [(0, 0)] 0 0 1), .tmp 177 (.pt 77 [(0, 0), (0, 0)] 0 0 0), .tmp 178 (.pt 77 [(0, 0), (0, 0)] 0 0 0), .tmp 179 (.pt 77 [(0, 0), (0, 0)] 0 5 0), .tmp 180 (.pt 77 [(0, 0), (0, 0)] 0 6 0), .tmp 399 (.own 77 [(0, 0), (0, 0), (0, 6)] E_40), .tmp 404 (.int .i64), .box 77 [.pt .own E_34]]⟩] (.two (.two (.leaf) (.two (.leaf) (.leaf))) (.two (.join [6, 7, 53, 54, 55, 78, 405] [6, 7, 78] [⟨.normal, [], [.tmp 14 (.pt 77 [(0, 0), (0, 0)] 0 0 8), .tmp 77 (.pt 77 [(0, 0)] 0 0 1), .tmp 177 (.pt 77 [(0, 0), (0, 0)] 0 0 0), .tmp 178 (.pt 77 [(0, 0), (0, 0)] 0 0 0), .tmp 179 (.pt 77 [(0, 0), (0, 0)] 0 5 0), .tmp 180 (.pt 77 [(0, 0), (0, 0)] 0 6 0), .tmp 399 (.own 77 [(0, 0), (0, 0), (0, 6)] E_40), .tmp 400 (.fnp 72 [(78, [(0, 0)]), (77, [(0, 0)])]), .tmp 404 (.int .i64), .box 77 [.pt .own E_34]]⟩] (.one (.two (.leaf) (.two (.inl 2 475 (.two (.leaf) (.two (.draw 9) (.leaf))) (.leaf)) (.two (.two (.leaf) (.leaf)) (.leaf)))))) (.leaf)))))) (.two (.leaf) (.two (.leaf) (.leaf))))))))))) (.two (.leaf) (.two (.two (.draw 7) (.two (.draw 11) (.leaf))) (.leaf))))))))))))))))) (.leaf)))) (.leaf)))))))) (.two (.join [] [] [⟨.normal, [(8, E_46)], [.tmp 6 (.pt 6 [(0, 0)] 0 0 4), .tmp 7 (.pt 7 [(0, 0)] 0 0 2), .tmp 8 (.own 8 [(0, 0)] E_46), .tmp 9 (.int .i64), .box 6 [.sl .own E_47, .sl .own E_44, .sl .own E_48, .sl .own (.pair (.int .i64) (.int .i64))], .box 7 [.int .i64, .sl .own E_40], .row 8 [.sl .own E_46]]⟩] (.stages [0, 1, 2, 3, 4, 5, 6, 7, 8, 9, 10, 11])) (.leaf)))))))
theorem s16 : SoundF cx.P cx.G 16 sg16 r16 := by
  have e : denF cx [(19, ⟨sg19, r19⟩), (30, ⟨sg30, r30⟩), (34, ⟨sg34, r34⟩), (35, ⟨sg35, r35⟩), (97, ⟨sg97, r97⟩), (98, ⟨sg98, r98⟩)] an16 Tryd.f16.ntmps (Tryd.f16.body.getD .skip) Tryd.f16.results.toList sg16 = r16q := by kernel_rfl
  rw [← r16e, ← e]
  exact sound_of_den (c := cx) (Known.cons (.ofF s19 (by kernel_rfl)) Tryd.func19 (by kernel_rfl) (by kernel_rfl) (Known.cons (.ofF s30 (by kernel_rfl)) Tryd.func30 (by kernel_rfl) (by kernel_rfl) (Known.cons (.ofF s34 (by kernel_rfl)) Tryd.func34 (by kernel_rfl) (by kernel_rfl) (Known.cons (.ofF s35 (by kernel_rfl)) Tryd.func35 (by kernel_rfl) (by kernel_rfl) (Known.cons (.ofD s97 (by kernel_rfl)) Tryd.func97 (by kernel_rfl) (by kernel_rfl) (Known.cons (.ofF s98 (by kernel_rfl)) Tryd.func98 (by kernel_rfl) (by kernel_rfl) (Known.nil))))))) Tryd.func16 (by kernel_rfl) (Nat.le_of_ble_eq_true (by kernel_rfl)) rfl

/-! reredos/store.Writes -/
noncomputable def r17_L0 (a : T_23) (d2 : (Int × Int)) : Option ((Int × Int) ⊕ Int) :=
 bif decide (d2.2 < (↑a.1.2.1.length : Int)) then
 Option.bind (
 Option.bind (idxI a.1.2.1 d2.2) fun (b7 : T_31) =>
 Option.bind (
 bif (decide (b7.1.1 = a.2.1) && (decide (b7.1.2 = a.2.2) && true)) then
 some b7.2.2.1
 else
 some false) fun (d8 : Bool) =>
 bif d8 then
 some (Go.IntKind.wrap .i64 (d2.1 + (1 : Int)))
 else
 some d2.1) fun (d9 : Int) =>
 some (Sum.inl (d9, (Go.IntKind.wrap .i64 (d2.2 + (1 : Int)))))
 else
 some (Sum.inr d2.1)
def sg17 : Sig := ⟨[⟨true, .bo, E_37⟩, ⟨true, .bo, (.pair (.int .i64) (.int .i64))⟩], [⟨false, .own, (.int .i64)⟩, ⟨false, .own, (.int .i64)⟩]⟩
noncomputable def r17 (a : T_23) : Option (Int × Int) :=
 Option.bind (r37 (a.1, a.2, (0 : Int))) fun (y1 : Int) =>
 bif !(decide (y1 = (0 : Int))) then
 some ((0 : Int), y1)
 else
 Option.bind (loopR (r17_L0 a) ((0 : Int), (0 : Int))) fun (q10 : Int) =>
 some (q10, (0 : Int))
def an17 : Ann := .two (.leaf) (.two (.two (.leaf) (.two (.leaf) (.two (.two (.leaf) (.leaf)) (.leaf)))) (.two (.leaf) (.two (.two (.leaf) (.one (.loop [3, 17, 18] [3] [] [.tmp 7 (.int .i64), .tmp 19 (.int .i64)] [⟨.exit 0, [], [.tmp 7 (.int .i64)]⟩] (.two (.leaf) (.two (.two (.leaf) (.leaf)) (.two (.join [3, 17, 18, 19] [3] [⟨.normal, [], [.tmp 7 (.int .i64)]⟩] (.one (.two (.leaf) (.two (.join [3, 7, 17, 18, 19] [3] [⟨.normal, [], [.tmp 30 (.bool)]⟩] (.leaf)) (.two (.leaf) (.leaf)))))) (.leaf))))))) (.two (.leaf) (.leaf)))))
theorem s17 : SoundF cx.P cx.G 17 sg17 r17 := by
  have e : denF cx [(37, ⟨sg37, r37⟩)] an17 Tryd.f17.ntmps (Tryd.f17.body.getD .skip) Tryd.f17.results.toList sg17 = r17 := by kernel_rfl
  rw [← e]
  exact sound_of_den (c := cx) (Known.cons (.ofF s37 (by kernel_rfl)) Tryd.func37 (by kernel_rfl) (by kernel_rfl) (Known.nil)) Tryd.func17 (by kernel_rfl) (Nat.le_of_ble_eq_true (by kernel_rfl)) rfl

/-! reredos/reredoskeep.RebuildOn -/
def sg3 : Sig := ⟨[⟨false, .bo, (.int .i64)⟩, ⟨false, .bo, (.sl E_43)⟩, ⟨false, .bo, (.int .i64)⟩, ⟨false, .bo, (.int .i64)⟩], [⟨false, .own, .bool⟩]⟩
noncomputable def r3 (a : (Int × (List ((Int × (Int × (Int × (Int × (Int × Int)))))) × (Int × Int)))) : Option Bool :=
 Option.bind (r13 a.1) fun (y1 : T_32) =>
 Option.bind (r14 (y1, a.2.2.1, a.2.2.2)) fun (y2 : (Int × Int)) =>
 Option.bind (r15 (y1, a.2.1, (30 : Int))) fun (y4 : List (T_30)) =>
 bif roomOk false 1 y4.length 80 then
 Option.bind (r16 (y1, (0 : Int), app [((2 : Int), (y2, ((0 : Int), ((0 : Int), ((0 : Int), (true, []))))))] y4)) fun (y5 : T_13) =>
 Option.bind (r17 (y5.1, y2)) fun (y6 : (Int × Int)) =>
 bif decide (y5.2.2.2 = (0 : Int)) then
 bif decide (y6.2 = (0 : Int)) then
 bif decide (y6.1 = (0 : Int)) then
 bif decide ((0 : Int) < (↑y5.1.2.2.2.length : Int)) then
 Option.bind (idxI y5.1.2.2.2 (0 : Int)) fun (b8 : (Int × Int)) =>
 some (decide (b8.1 = y2.1) && (decide (b8.2 = y2.2) && true))
 else
 some false
 else
 some false
 else
 some false
 else
 some false
 else
 none
def an3 : Ann := .two (.leaf) (.two (.leaf) (.two (.leaf) (.two (.draw 6) (.two (.leaf) (.two (.leaf) (.two (.draw 22) (.leaf)))))))
theorem s3 : SoundF cx.P cx.G 3 sg3 r3 := by
  have e : denF cx [(13, ⟨sg13, r13⟩), (14, ⟨sg14, r14⟩), (15, ⟨sg15, r15⟩), (16, ⟨sg16, r16⟩), (17, ⟨sg17, r17⟩)] an3 Tryd.f3.ntmps (Tryd.f3.body.getD .skip) Tryd.f3.results.toList sg3 = r3 := by kernel_rfl
  rw [← e]
  exact sound_of_den (c := cx) (Known.cons (.ofF s13 (by kernel_rfl)) Tryd.func13 (by kernel_rfl) (by kernel_rfl) (Known.cons (.ofF s14 (by kernel_rfl)) Tryd.func14 (by kernel_rfl) (by kernel_rfl) (Known.cons (.ofF s15 (by kernel_rfl)) Tryd.func15 (by kernel_rfl) (by kernel_rfl) (Known.cons (.ofF s16 (by kernel_rfl)) Tryd.func16 (by kernel_rfl) (by kernel_rfl) (Known.cons (.ofF s17 (by kernel_rfl)) Tryd.func17 (by kernel_rfl) (by kernel_rfl) (Known.nil)))))) Tryd.func3 (by kernel_rfl) (Nat.le_of_ble_eq_true (by kernel_rfl)) rfl


end Go.Hr
