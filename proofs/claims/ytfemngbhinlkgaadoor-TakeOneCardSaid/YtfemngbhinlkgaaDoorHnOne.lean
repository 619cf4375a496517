/- What the functions compute: written by gen.py. -/
import Derived.Test.YtfemngbhinlkgaaDoorLibI
import Derived.WalkKit
import Derived.Lib.Walk
import Derived.Lib.JoinLaws
import Derived.Test.YtfemngbhinlkgaaDoorLibJ
import Derived.Test.YtfemngbhinlkgaaDoorProg
import Derived.KernelRfl
namespace Go.Hn
open Go.RowKit Go.Proofs Go.V
def tys : List (Nat × TyInfo) := [
  (3, ⟨.int .i64, 1, 8, [.int .i64 0], false, [none], [none], (.int .i64)⟩),
  (4, ⟨.bool, 1, 1, [.bool false], false, [none], [none], .bool⟩),
  (22, ⟨.sl 3, 1, 24, [.slice none 0 0], false, [some (.int .i64)], [none], (.sl (.int .i64))⟩),
  (23, ⟨.sl 43, 1, 24, [.slice none 0 0], false, [some (.pair (.int .i64) (.pair (.int .i64) (.pair (.int .i64) (.pair (.int .i64) (.pair (.int .i64) (.int .i64))))))], [none], (.sl (.pair (.int .i64) (.pair (.int .i64) (.pair (.int .i64) (.pair (.int .i64) (.pair (.int .i64) (.int .i64)))))))⟩),
  (24, ⟨.sl 75, 1, 24, [.slice none 0 0], false, [some (.pair (.int .i64) (.int .i64))], [none], (.sl (.pair (.int .i64) (.int .i64)))⟩),
  (26, ⟨.st [(0, 3), (1, 24), (2, 3)], 3, 40, [.int .i64 0, .slice none 0 0, .int .i64 0], false, [none, some (.pair (.int .i64) (.int .i64)), none], [none, none, none], (.pair (.int .i64) (.pair (.rsl (.pair (.int .i64) (.int .i64))) (.int .i64)))⟩),
  (28, ⟨.sl 40, 1, 24, [.slice none 0 0], false, [some (.pair (.int .i64) (.pair (.int .i64) (.pair (.int .i64) (.pair (.pair (.int .i64) (.int .i64)) (.pair (.int .i64) (.pair (.int .i64) (.pair (.int .i64) (.pair (.int .i64) (.pair (.int .i64) (.pair .bool (.int .i64)))))))))))], [none], (.sl (.pair (.int .i64) (.pair (.int .i64) (.pair (.int .i64) (.pair (.pair (.int .i64) (.int .i64)) (.pair (.int .i64) (.pair (.int .i64) (.pair (.int .i64) (.pair (.int .i64) (.pair (.int .i64) (.pair .bool (.int .i64))))))))))))⟩),
  (30, ⟨.sl 28, 1, 24, [.slice none 0 0], false, [some (.sl (.pair (.int .i64) (.pair (.int .i64) (.pair (.int .i64) (.pair (.pair (.int .i64) (.int .i64)) (.pair (.int .i64) (.pair (.int .i64) (.pair (.int .i64) (.pair (.int .i64) (.pair (.int .i64) (.pair .bool (.int .i64))))))))))))], [none], (.sl (.sl (.pair (.int .i64) (.pair (.int .i64) (.pair (.int .i64) (.pair (.pair (.int .i64) (.int .i64)) (.pair (.int .i64) (.pair (.int .i64) (.pair (.int .i64) (.pair (.int .i64) (.pair (.int .i64) (.pair .bool (.int .i64)))))))))))))⟩),
  (31, ⟨.int .i64, 1, 8, [.int .i64 0], false, [none], [none], (.int .i64)⟩),
  (38, ⟨.st [(0, 3), (1, 3)], 2, 16, [.int .i64 0, .int .i64 0], true, [none, none], [none, none], (.pair (.int .i64) (.int .i64))⟩),
  (40, ⟨.st [(0, 3), (1, 3), (2, 3), (3, 38), (5, 3), (6, 3), (7, 3), (8, 3), (9, 3), (10, 4), (11, 31)], 12, 96, [.int .i64 0, .int .i64 0, .int .i64 0, .int .i64 0, .int .i64 0, .int .i64 0, .int .i64 0, .int .i64 0, .int .i64 0, .int .i64 0, .bool false, .int .i64 0], true, [none, none, none, none, none, none, none, none, none, none, none, none], [none, none, none, none, none, none, none, none, none, none, none, none], (.pair (.int .i64) (.pair (.int .i64) (.pair (.int .i64) (.pair (.pair (.int .i64) (.int .i64)) (.pair (.int .i64) (.pair (.int .i64) (.pair (.int .i64) (.pair (.int .i64) (.pair (.int .i64) (.pair .bool (.int .i64)))))))))))⟩),
  (43, ⟨.st [(0, 3), (1, 3), (2, 3), (3, 3), (4, 3), (5, 3)], 6, 48, [.int .i64 0, .int .i64 0, .int .i64 0, .int .i64 0, .int .i64 0, .int .i64 0], false, [none, none, none, none, none, none], [none, none, none, none, none, none], (.pair (.int .i64) (.pair (.int .i64) (.pair (.int .i64) (.pair (.int .i64) (.pair (.int .i64) (.int .i64))))))⟩),
  (75, ⟨.st [(0, 3), (1, 3)], 2, 16, [.int .i64 0, .int .i64 0], true, [none, none], [none, none], (.pair (.int .i64) (.int .i64))⟩),
  (81, ⟨.sl 31, 1, 24, [.slice none 0 0], false, [some (.int .i64)], [none], (.sl (.int .i64))⟩),
  (90, ⟨.st [(0, 4), (1, 4), (2, 4), (3, 4), (4, 4), (5, 4), (6, 4), (7, 4)], 8, 8, [.bool false, .bool false, .bool false, .bool false, .bool false, .bool false, .bool false, .bool false], false, [none, none, none, none, none, none, none, none], [none, none, none, none, none, none, none, none], (.pair .bool (.pair .bool (.pair .bool (.pair .bool (.pair .bool (.pair .bool (.pair .bool .bool)))))))⟩),
  (91, ⟨.arr 7 90, 56, 56, [.bool false, .bool false, .bool false, .bool false, .bool false, .bool false, .bool false, .bool false, .bool false, .bool false, .bool false, .bool false, .bool false, .bool false, .bool false, .bool false, .bool false, .bool false, .bool false, .bool false, .bool false, .bool false, .bool false, .bool false, .bool false, .bool false, .bool false, .bool false, .bool false, .bool false, .bool false, .bool false, .bool false, .bool false, .bool false, .bool false, .bool false, .bool false, .bool false, .bool false, .bool false, .bool false, .bool false, .bool false, .bool false, .bool false, .bool false, .bool false, .bool false, .bool false, .bool false, .bool false, .bool false, .bool false, .bool false, .bool false], false, [none, none, none, none, none, none, none, none, none, none, none, none, none, none, none, none, none, none, none, none, none, none, none, none, none, none, none, none, none, none, none, none, none, none, none, none, none, none, none, none, none, none, none, none, none, none, none, none, none, none, none, none, none, none, none, none], [none, none, none, none, none, none, none, none, none, none, none, none, none, none, none, none, none, none, none, none, none, none, none, none, none, none, none, none, none, none, none, none, none, none, none, none, none, none, none, none, none, none, none, none, none, none, none, none, none, none, none, none, none, none, none, none], .unit⟩),
  (102, ⟨.arr 10 90, 80, 80, [.bool false, .bool false, .bool false, .bool false, .bool false, .bool false, .bool false, .bool false, .bool false, .bool false, .bool false, .bool false, .bool false, .bool false, .bool false, .bool false, .bool false, .bool false, .bool false, .bool false, .bool false, .bool false, .bool false, .bool false, .bool false, .bool false, .bool false, .bool false, .bool false, .bool false, .bool false, .bool false, .bool false, .bool false, .bool false, .bool false, .bool false, .bool false, .bool false, .bool false, .bool false, .bool false, .bool false, .bool false, .bool false, .bool false, .bool false, .bool false, .bool false, .bool false, .bool false, .bool false, .bool false, .bool false, .bool false, .bool false, .bool false, .bool false, .bool false, .bool false, .bool false, .bool false, .bool false, .bool false, .bool false, .bool false, .bool false, .bool false, .bool false, .bool false, .bool false, .bool false, .bool false, .bool false, .bool false, .bool false, .bool false, .bool false, .bool false, .bool false], false, [none, none, none, none, none, none, none, none, none, none, none, none, none, none, none, none, none, none, none, none, none, none, none, none, none, none, none, none, none, none, none, none, none, none, none, none, none, none, none, none, none, none, none, none, none, none, none, none, none, none, none, none, none, none, none, none, none, none, none, none, none, none, none, none, none, none, none, none, none, none, none, none, none, none, none, none, none, none, none, none], [none, none, none, none, none, none, none, none, none, none, none, none, none, none, none, none, none, none, none, none, none, none, none, none, none, none, none, none, none, none, none, none, none, none, none, none, none, none, none, none, none, none, none, none, none, none, none, none, none, none, none, none, none, none, none, none, none, none, none, none, none, none, none, none, none, none, none, none, none, none, none, none, none, none, none, none, none, none, none, none], .unit⟩)]
theorem tysOk : TyOk Tryd.prog tys := tyOk_of fun e he => by
  simp only [tys, List.mem_cons, List.not_mem_nil, or_false] at he
  rcases he with rfl | rfl | rfl | rfl | rfl | rfl | rfl | rfl | rfl | rfl | rfl | rfl | rfl | rfl | rfl | rfl | rfl
  · exact ⟨by kernel_rfl, by kernel_rfl, fun h => nomatch h⟩
  · exact ⟨by kernel_rfl, by kernel_rfl, fun h => nomatch h⟩
  · exact ⟨by kernel_rfl, by kernel_rfl, fun h => nomatch h⟩
  · exact ⟨by kernel_rfl, by kernel_rfl, fun h => nomatch h⟩
  · exact ⟨by kernel_rfl, by kernel_rfl, fun h => nomatch h⟩
  · exact ⟨by kernel_rfl, by kernel_rfl, fun h => nomatch h⟩
  · exact ⟨by kernel_rfl, by kernel_rfl, fun h => nomatch h⟩
  · exact ⟨by kernel_rfl, by kernel_rfl, fun h => nomatch h⟩
  · exact ⟨by kernel_rfl, by kernel_rfl, fun h => nomatch h⟩
  · exact ⟨by kernel_rfl, by kernel_rfl, fun _ => ⟨by kernel_rfl, by kernel_rfl, by kernel_rfl⟩⟩
  · exact ⟨by kernel_rfl, by kernel_rfl, fun _ => ⟨by kernel_rfl, by kernel_rfl, by kernel_rfl⟩⟩
  · exact ⟨by kernel_rfl, by kernel_rfl, fun h => nomatch h⟩
  · exact ⟨by kernel_rfl, by kernel_rfl, fun _ => ⟨by kernel_rfl, by kernel_rfl, by kernel_rfl⟩⟩
  · exact ⟨by kernel_rfl, by kernel_rfl, fun h => nomatch h⟩
  · exact ⟨by kernel_rfl, by kernel_rfl, fun h => nomatch h⟩
  · exact ⟨by kernel_rfl, by kernel_rfl, fun h => nomatch h⟩
  · exact ⟨by kernel_rfl, by kernel_rfl, fun h => nomatch h⟩
def tab0 : List (Bool × (Bool × (Bool × (Bool × (Bool × (Bool × (Bool × Bool))))))) := [(false, (false, (false, (false, (false, (false, (false, false))))))),
  (false, (true, (true, (false, (true, (false, (false, false))))))),
  (false, (false, (false, (false, (false, (true, (false, false))))))),
  (false, (false, (false, (false, (false, (false, (false, true))))))),
  (false, (false, (false, (false, (false, (false, (false, false))))))),
  (false, (false, (false, (false, (false, (false, (false, false))))))),
  (false, (false, (false, (false, (false, (true, (false, false)))))))]
def tab1 : List (Bool × (Bool × (Bool × (Bool × (Bool × (Bool × (Bool × Bool))))))) := [(false, (false, (false, (false, (false, (false, (false, false))))))),
  (true, (true, (false, (false, (true, (false, (false, false))))))),
  (false, (true, (true, (false, (true, (false, (false, false))))))),
  (true, (true, (false, (true, (false, (false, (false, false))))))),
  (false, (false, (false, (false, (false, (true, (false, false))))))),
  (true, (true, (true, (true, (true, (false, (true, false))))))),
  (false, (true, (false, (false, (true, (false, (true, false))))))),
  (true, (true, (false, (true, (false, (true, (false, false))))))),
  (false, (false, (false, (false, (false, (false, (false, false))))))),
  (false, (false, (false, (false, (false, (false, (false, false)))))))]
noncomputable def inls : List (Nat × Go.Func) := []
theorem inlsOk : ∀ f fn, Go.V.look inls f = some fn → Tryd.prog.funcs[f]? = some fn ∧ (fn.name == "runtime.NumGoroutine") = false := inlOk_of fun e he => by
  cases he
noncomputable def cx : Ctx := ⟨Tryd.prog, tys, tysOk, [(1, .ga (.pair .bool (.pair .bool (.pair .bool (.pair .bool (.pair .bool (.pair .bool (.pair .bool .bool))))))) tab1)], 0, inls, inlsOk, by kernel_rfl⟩

/-! reredos/reredoskeep.picked -/
def sg18 : Sig := ⟨[⟨false, .bo, (.int .i64)⟩, ⟨false, .bo, (.int .i64)⟩], [⟨false, .own, (.int .i64)⟩]⟩
noncomputable def r18 (a : (Int × Int)) : Option Int :=
  Option.bind (
    bif decide (a.1 < (0 : Int)) then
      some (Go.IntKind.wrap .i64 (0 - (Go.IntKind.wrap .i64 (a.1 + (1 : Int)))))
    else
      some a.1) fun (d1 : Int) =>
    bif decide (a.2 = 0) then
      none
    else
      some (Int.tmod d1 a.2)
def an18 : Ann := .two (.leaf) (.two (.join [1] [] [⟨.normal, [], [.tmp 0 (.int .i64)]⟩] (.two (.leaf) (.two (.leaf) (.leaf)))) (.two (.leaf) (.leaf)))
theorem s18 : SoundF cx.P cx.G 18 sg18 r18 := by
  have e : denF cx [] an18 Tryd.f18.ntmps (Tryd.f18.body.getD .skip) Tryd.f18.results.toList sg18 = r18 := by kernel_rfl
  rw [← e]
  exact sound_of_den (c := cx) (Known.nil) Tryd.func18 (by kernel_rfl) (Nat.le_of_ble_eq_true (by kernel_rfl)) rfl

/-! reredos/reredoskeep.Lab -/
def sg31 : Sig := ⟨[⟨false, .bo, (.int .i64)⟩], [⟨true, .own, (.pair (.int .i64) (.int .i64))⟩]⟩
noncomputable def r31 (a : Int) : Option (Int × Int) :=
  Option.bind (r18 (a, (3 : Int))) fun (y1 : Int) =>
    Option.bind (r18 ((Go.IntKind.wrap .i64 (Int.tdiv a (3 : Int))), (4 : Int))) fun (y2 : Int) =>
      some (y1, y2)
def an31 : Ann := .two (.leaf) (.two (.leaf) (.leaf))
theorem s31 : SoundF cx.P cx.G 31 sg31 r31 := by
  have e : denF cx [(18, ⟨sg18, r18⟩)] an31 Tryd.f31.ntmps (Tryd.f31.body.getD .skip) Tryd.f31.results.toList sg31 = r31 := by kernel_rfl
  rw [← e]
  exact sound_of_den (c := cx) (Known.cons (.ofF s18 (by kernel_rfl)) Tryd.func18 (by kernel_rfl) (by kernel_rfl) (Known.nil)) Tryd.func31 (by kernel_rfl) (Nat.le_of_ble_eq_true (by kernel_rfl)) rfl

/-! reredos/reredoskeep.Config -/
noncomputable def r11_L0 (d30 : (Unit × (Int × (Int × (List ((Int × Int)) × Int))))) (y49 : (Int × Int)) (d50 : (Bool × Int)) : Option ((Bool × Int) ⊕ Bool) :=
  bif decide (d50.2 < (↑d30.2.2.2.1.length : Int)) then
    Option.bind (
      bif inB d50.2 d30.2.2.2.1.length then
        Option.bind (idxN d30.2.2.2.1 (Int.toNat d50.2)) fun (x53 : (Int × Int)) =>
          bif !(d50.1) then
            some (decide (x53.1 = y49.1) && (decide (x53.2 = y49.2) && true))
          else
            some true
      else
        none) fun (d54 : Bool) =>
      some (Sum.inl (d54, (Go.IntKind.wrap .i64 (d50.2 + (1 : Int)))))
  else
    some (Sum.inr d50.1)
noncomputable def r11_L1 (a : (Int × (List Int × Int))) (d30 : (Unit × (Int × (Int × (List ((Int × Int)) × Int))))) : Option ((Unit × (Int × (Int × (List ((Int × Int)) × Int)))) ⊕ (Unit × (Int × (List ((Int × Int)) × Int)))) :=
  Option.bind (
    bif decide (d30.2.1 < (↑a.2.1.length : Int)) then
      some (decide ((↑d30.2.2.2.1.length : Int) < (4 : Int)))
    else
      some false) fun (d31 : Bool) =>
    bif d31 then
      Option.bind (
        Option.bind (idxI a.2.1 d30.2.1) fun (b48 : Int) =>
          Option.bind (r31 b48) fun (y49 : (Int × Int)) =>
            Option.bind (loopR (r11_L0 d30 y49) (false, (0 : Int))) fun (q55 : Bool) =>
              bif !(q55) then
                bif roomOk false d30.2.2.2.1.length 1 16 then
                  some ((), (d30.2.2.1, (app d30.2.2.2.1 [y49], d30.2.2.2.2)))
                else
                  none
              else
                some ((), d30.2.2)) fun (d56 : (Unit × (Int × (List ((Int × Int)) × Int)))) =>
        some (Sum.inl ((), ((Go.IntKind.wrap .i64 (d30.2.1 + (1 : Int))), d56.2)))
    else
      some (Sum.inr ((), d30.2.2))
def sg11 : Sig := ⟨[⟨false, .bo, (.int .i64)⟩, ⟨false, .bo, (.sl (.int .i64))⟩, ⟨false, .bo, (.int .i64)⟩], [⟨true, .ro, (.pair (.int .i64) (.pair (.sl (.pair (.int .i64) (.int .i64))) (.int .i64)))⟩]⟩
noncomputable def r11 (a : (Int × (List Int × Int))) : Option (Int × (List ((Int × Int)) × Int)) :=
  Option.bind (r18 (a.1, (3 : Int))) fun (y1 : Int) =>
    Option.bind (r18 (a.2.2, (4 : Int))) fun (y2 : Int) =>
      Option.bind (loopR (r11_L1 a) ((), ((0 : Int), ((Go.IntKind.wrap .i64 ((1 : Int) + y1)), ([], (Go.IntKind.wrap .i64 ((1 : Int) + y2))))))) fun (q57 : (Unit × (Int × (List ((Int × Int)) × Int)))) =>
        Option.bind (
          bif decide ((↑q57.2.2.1.length : Int) = (0 : Int)) then
            some ((), (q57.2.1, ([((0 : Int), (0 : Int))], q57.2.2.2)))
          else
            some ((), q57.2)) fun (d58 : (Unit × (Int × (List ((Int × Int)) × Int)))) =>
          some d58.2
def an11 : Ann := .two (.leaf) (.two (.leaf) (.two (.two (.leaf) (.one (.loop [1, 6] [6] [] [.tmp 7 (.pt 7 [(0, 0)] 0 0 3), .tmp 8 (.int .i64), .box 7 [.int .i64, .sl .own (.pair (.int .i64) (.int .i64)), .int .i64]] [⟨.exit 0, [], [.tmp 7 (.pt 7 [(0, 0)] 0 0 3), .box 7 [.int .i64, .sl .own (.pair (.int .i64) (.int .i64)), .int .i64]]⟩] (.two (.two (.join [1, 6, 7, 8] [6, 7] [⟨.normal, [], [.tmp 29 (.bool)]⟩] (.leaf)) (.two (.leaf) (.leaf))) (.two (.join [1, 6, 8] [6] [⟨.normal, [], [.tmp 7 (.pt 7 [(0, 0)] 0 0 3), .box 7 [.int .i64, .sl .own (.pair (.int .i64) (.int .i64)), .int .i64]]⟩] (.one (.two (.leaf) (.two (.leaf) (.two (.two (.leaf) (.one (.loop [1, 6, 7, 8, 9, 38, 39] [6, 7, 9] [] [.tmp 10 (.bool), .tmp 40 (.int .i64)] [⟨.exit 2, [], [.tmp 10 (.bool)]⟩] (.two (.leaf) (.two (.two (.leaf) (.leaf)) (.two (.join [1, 6, 7, 8, 9, 38, 39, 40] [6, 7, 9] [⟨.normal, [], [.tmp 10 (.bool)]⟩] (.one (.two (.leaf) (.leaf)))) (.leaf))))))) (.two (.leaf) (.two (.leaf) (.leaf)))))))) (.leaf)))))) (.two (.join [6] [6] [⟨.normal, [], [.tmp 7 (.pt 7 [(0, 0)] 0 0 3), .box 7 [.int .i64, .sl .own (.pair (.int .i64) (.int .i64)), .int .i64]]⟩] (.two (.leaf) (.two (.leaf) (.leaf)))) (.two (.leaf) (.leaf)))))
theorem s11 : SoundF cx.P cx.G 11 sg11 r11 := by
  have e : denF cx [(18, ⟨sg18, r18⟩), (31, ⟨sg31, r31⟩)] an11 Tryd.f11.ntmps (Tryd.f11.body.getD .skip) Tryd.f11.results.toList sg11 = r11 := by kernel_rfl
  rw [← e]
  exact sound_of_den (c := cx) (Known.cons (.ofF s18 (by kernel_rfl)) Tryd.func18 (by kernel_rfl) (by kernel_rfl) (Known.cons (.ofF s31 (by kernel_rfl)) Tryd.func31 (by kernel_rfl) (by kernel_rfl) (Known.nil))) Tryd.func11 (by kernel_rfl) (Nat.le_of_ble_eq_true (by kernel_rfl)) rfl

/-! reredos/reredoskeep.Txn -/
def sg35 : Sig := ⟨[⟨true, .bo, (.pair (.int .i64) (.pair (.sl (.pair (.int .i64) (.int .i64))) (.int .i64)))⟩, ⟨false, .bo, (.int .i64)⟩, ⟨false, .bo, (.int .i64)⟩], [⟨true, .own, (.pair (.int .i64) (.int .i64))⟩]⟩
noncomputable def r35 (a : ((Int × (List ((Int × Int)) × Int)) × (Int × Int))) : Option (Int × Int) :=
  Option.bind (r18 (a.2.1, a.1.1)) fun (y1 : Int) =>
    Option.bind (r18 (a.2.2, (6 : Int))) fun (y2 : Int) =>
      some (y1, (Go.IntKind.wrap .i64 ((1 : Int) + y2)))
def an35 : Ann := .two (.leaf) (.two (.leaf) (.leaf))
theorem s35 : SoundF cx.P cx.G 35 sg35 r35 := by
  have e : denF cx [(18, ⟨sg18, r18⟩)] an35 Tryd.f35.ntmps (Tryd.f35.body.getD .skip) Tryd.f35.results.toList sg35 = r35 := by kernel_rfl
  rw [← e]
  exact sound_of_den (c := cx) (Known.cons (.ofF s18 (by kernel_rfl)) Tryd.func18 (by kernel_rfl) (by kernel_rfl) (Known.nil)) Tryd.func35 (by kernel_rfl) (Nat.le_of_ble_eq_true (by kernel_rfl)) rfl

/-! reredos/reredoskeep.Message -/
def sg17 : Sig := ⟨[⟨true, .bo, (.pair (.int .i64) (.pair (.sl (.pair (.int .i64) (.int .i64))) (.int .i64)))⟩, ⟨true, .bo, (.pair (.int .i64) (.pair (.int .i64) (.pair (.int .i64) (.pair (.int .i64) (.pair (.int .i64) (.int .i64))))))⟩], [⟨true, .own, (.pair (.int .i64) (.pair (.int .i64) (.pair (.int .i64) (.pair (.pair (.int .i64) (.int .i64)) (.pair (.int .i64) (.pair (.int .i64) (.pair (.int .i64) (.pair (.int .i64) (.pair (.int .i64) (.pair .bool (.int .i64)))))))))))⟩]⟩
noncomputable def r17 (a : ((Int × (List ((Int × Int)) × Int)) × (Int × (Int × (Int × (Int × (Int × Int))))))) : Option (Int × (Int × (Int × ((Int × Int) × (Int × (Int × (Int × (Int × (Int × (Bool × Int)))))))))) :=
  Option.bind (r18 (a.2.1, (9 : Int))) fun (y5 : Int) =>
    Option.bind (r18 (a.2.2.1, a.1.1)) fun (y6 : Int) =>
      Option.bind (r18 ((Go.IntKind.wrap .i64 (Int.tdiv a.2.2.1 (7 : Int))), a.1.1)) fun (y7 : Int) =>
        Option.bind (r35 (a.1, a.2.2.2.1, a.2.2.2.2.1)) fun (y8 : (Int × Int)) =>
          Option.bind (r18 (a.2.2.2.2.2.2, (4 : Int))) fun (y9 : Int) =>
            bif inB y9 ([(0 : Int), (0 : Int), (11 : Int), (8 : Int)].length) then
              Option.bind (idxN [(0 : Int), (0 : Int), (11 : Int), (8 : Int)] (Int.toNat y9)) fun (x10 : Int) =>
                Option.bind (r18 (a.2.2.2.2.2.1, (↑a.1.2.1.length : Int))) fun (y11 : Int) =>
                  Option.bind (r18 ((Go.IntKind.wrap .i64 (Int.tdiv a.2.2.2.2.2.1 (5 : Int))), (8 : Int))) fun (y12 : Int) =>
                    Option.bind (
                      bif decide ((Go.IntKind.wrap .i64 ((1 : Int) + y5)) = (1 : Int)) then
                        Option.bind (r18 (a.2.2.2.2.2.2, (9 : Int))) fun (y35 : Int) =>
                          some ((), ((Go.IntKind.wrap .i64 ((1 : Int) + y5)), (y6, (y7, (y8.1, (y8.2, (y11, (y12, ((0 : Int), ((0 : Int), (y35, (false, (0 : Int)))))))))))))
                      else
                        bif decide ((Go.IntKind.wrap .i64 ((1 : Int) + y5)) = (2 : Int)) then
                          Option.bind (r18 (a.2.2.2.2.2.2, (1073741824 : Int))) fun (y36 : Int) =>
                            Option.bind (r18 ((Go.IntKind.wrap .i64 (Int.tdiv a.2.2.2.2.2.2 (3 : Int))), (9 : Int))) fun (y37 : Int) =>
                              some ((), ((Go.IntKind.wrap .i64 ((1 : Int) + y5)), (y6, (y7, (y8.1, (y8.2, ((0 : Int), (y12, (y36, ((0 : Int), (y37, (false, (0 : Int)))))))))))))
                        else
                          bif decide ((Go.IntKind.wrap .i64 ((1 : Int) + y5)) = (3 : Int)) then
                            Option.bind (r18 (a.2.2.2.2.2.2, (4 : Int))) fun (y38 : Int) =>
                              some ((), ((Go.IntKind.wrap .i64 ((1 : Int) + y5)), (y6, (y7, (y8.1, (y8.2, (y11, (y12, ((0 : Int), (y38, ((0 : Int), (false, (0 : Int)))))))))))))
                          else
                            bif decide ((Go.IntKind.wrap .i64 ((1 : Int) + y5)) = (4 : Int)) then
                              Option.bind (r18 (a.2.2.2.2.2.2, (2 : Int))) fun (y39 : Int) =>
                                some ((), ((Go.IntKind.wrap .i64 ((1 : Int) + y5)), (y6, (y7, (y8.1, (y8.2, ((0 : Int), ((0 : Int), ((0 : Int), ((0 : Int), ((0 : Int), (decide (y39 = (1 : Int)), (0 : Int)))))))))))))
                            else
                              bif decide ((Go.IntKind.wrap .i64 ((1 : Int) + y5)) = (5 : Int)) then
                                Option.bind (r18 ((Go.IntKind.wrap .i64 (Int.tdiv a.2.2.2.2.2.2 (4 : Int))), (9 : Int))) fun (y40 : Int) =>
                                  bif decide (x10 = (0 : Int)) then
                                    Option.bind (r18 (a.2.2.2.2.2.2, (99 : Int))) fun (y41 : Int) =>
                                      Option.bind (r18 (a.2.2.2.2.2.2, (5 : Int))) fun (y42 : Int) =>
                                        some ((), ((Go.IntKind.wrap .i64 ((1 : Int) + y5)), (y6, (y7, (y8.1, (y8.2, (y11, (y12, (y41, (y42, (y40, (false, x10))))))))))))
                                  else
                                    some ((), ((Go.IntKind.wrap .i64 ((1 : Int) + y5)), (y6, (y7, (y8.1, (y8.2, (y11, (y12, ((0 : Int), ((0 : Int), (y40, (false, x10))))))))))))
                              else
                                bif decide ((Go.IntKind.wrap .i64 ((1 : Int) + y5)) = (6 : Int)) then
                                  Option.bind (r18 ((Go.IntKind.wrap .i64 (Int.tdiv a.2.2.2.2.2.2 (4 : Int))), (9 : Int))) fun (y43 : Int) =>
                                    some ((), ((Go.IntKind.wrap .i64 ((1 : Int) + y5)), (y6, (y7, (y8.1, (y8.2, ((0 : Int), (y12, ((0 : Int), ((0 : Int), (y43, (false, x10))))))))))))
                                else
                                  bif decide ((Go.IntKind.wrap .i64 ((1 : Int) + y5)) = (7 : Int)) then
                                    Option.bind (r18 (a.2.2.2.2.2.2, (4 : Int))) fun (y44 : Int) =>
                                      Option.bind (r18 (a.2.2.2.2.2.2, (2 : Int))) fun (y45 : Int) =>
                                        some ((), ((Go.IntKind.wrap .i64 ((1 : Int) + y5)), (y6, (y7, (y8.1, (y8.2, (y11, (y12, ((0 : Int), (y44, ((0 : Int), (decide (y45 = (1 : Int)), (0 : Int)))))))))))))
                                  else
                                    some ((), ((Go.IntKind.wrap .i64 ((1 : Int) + y5)), (y6, (y7, (y8.1, (y8.2, ((0 : Int), ((0 : Int), ((0 : Int), ((0 : Int), ((0 : Int), (false, (0 : Int)))))))))))))) fun (d46 : (Unit × (Int × (Int × (Int × (Int × (Int × (Int × (Int × (Int × (Int × (Int × (Bool × Int))))))))))))) =>
                      some (d46.2.1, (d46.2.2.1, (d46.2.2.2.1, ((d46.2.2.2.2.1, d46.2.2.2.2.2.1), d46.2.2.2.2.2.2))))
            else
              none
def an17 : Ann := .two (.leaf) (.two (.draw 23) (.two (.leaf) (.two (.leaf) (.two (.leaf) (.two (.join [4] [4] [⟨.normal, [], [.tmp 5 (.pt 5 [(0, 0)] 0 0 12), .box 5 [.int .i64, .int .i64, .int .i64, .int .i64, .int .i64, .int .i64, .int .i64, .int .i64, .int .i64, .int .i64, .bool, .int .i64]]⟩] (.two (.leaf) (.one (.two (.leaf) (.two (.two (.leaf) (.two (.leaf) (.leaf))) (.two (.leaf) (.two (.two (.leaf) (.two (.leaf) (.leaf))) (.two (.leaf) (.two (.two (.leaf) (.two (.leaf) (.leaf))) (.two (.leaf) (.two (.leaf) (.two (.leaf) (.two (.two (.leaf) (.two (.leaf) (.two (.leaf) (.two (.leaf) (.two (.leaf) (.two (.two (.leaf) (.leaf)) (.leaf))))))) (.two (.leaf) (.two (.two (.leaf) (.two (.leaf) (.leaf))) (.two (.leaf) (.two (.two (.leaf) (.two (.leaf) (.two (.leaf) (.leaf)))) (.leaf)))))))))))))))))) (.two (.leaf) (.leaf)))))))
theorem s17 : SoundF cx.P cx.G 17 sg17 r17 := by
  have e : denF cx [(18, ⟨sg18, r18⟩), (35, ⟨sg35, r35⟩)] an17 Tryd.f17.ntmps (Tryd.f17.body.getD .skip) Tryd.f17.results.toList sg17 = r17 := by kernel_rfl
  rw [← e]
  exact sound_of_den (c := cx) (Known.cons (.ofF s18 (by kernel_rfl)) Tryd.func18 (by kernel_rfl) (by kernel_rfl) (Known.cons (.ofF s35 (by kernel_rfl)) Tryd.func35 (by kernel_rfl) (by kernel_rfl) (Known.nil))) Tryd.func17 (by kernel_rfl) (Nat.le_of_ble_eq_true (by kernel_rfl)) rfl

/-! reredos/reredoskeep.messages -/
noncomputable def r12_L0 (a : ((Int × (List ((Int × Int)) × Int)) × (List ((Int × (Int × (Int × (Int × (Int × Int)))))) × Int))) (d7 : (Unit × (Int × List ((Int × (Int × (Int × ((Int × Int) × (Int × (Int × (Int × (Int × (Int × (Bool × Int)))))))))))))) : Option ((Unit × (Int × List ((Int × (Int × (Int × ((Int × Int) × (Int × (Int × (Int × (Int × (Int × (Bool × Int))))))))))))) ⊕ (Unit × List ((Int × (Int × (Int × ((Int × Int) × (Int × (Int × (Int × (Int × (Int × (Bool × Int))))))))))))) :=
  Option.bind (
    bif decide (d7.2.1 < (↑a.2.1.length : Int)) then
      some (decide (d7.2.1 < a.2.2))
    else
      some false) fun (d8 : Bool) =>
    bif d8 then
      Option.bind (idxI a.2.1 d7.2.1) fun (b11 : (Int × (Int × (Int × (Int × (Int × Int)))))) =>
        Option.bind (r17 (a.1, b11)) fun (y12 : (Int × (Int × (Int × ((Int × Int) × (Int × (Int × (Int × (Int × (Int × (Bool × Int))))))))))) =>
          bif roomOk false d7.2.2.length 1 96 then
            some (Sum.inl ((), ((Go.IntKind.wrap .i64 (d7.2.1 + (1 : Int))), app d7.2.2 [y12])))
          else
            none
    else
      some (Sum.inr ((), d7.2.2))
def sg12 : Sig := ⟨[⟨true, .bo, (.pair (.int .i64) (.pair (.sl (.pair (.int .i64) (.int .i64))) (.int .i64)))⟩, ⟨false, .bo, (.sl (.pair (.int .i64) (.pair (.int .i64) (.pair (.int .i64) (.pair (.int .i64) (.pair (.int .i64) (.int .i64)))))))⟩, ⟨false, .bo, (.int .i64)⟩], [⟨false, .own, (.sl (.pair (.int .i64) (.pair (.int .i64) (.pair (.int .i64) (.pair (.pair (.int .i64) (.int .i64)) (.pair (.int .i64) (.pair (.int .i64) (.pair (.int .i64) (.pair (.int .i64) (.pair (.int .i64) (.pair .bool (.int .i64))))))))))))⟩]⟩
noncomputable def r12 (a : ((Int × (List ((Int × Int)) × Int)) × (List ((Int × (Int × (Int × (Int × (Int × Int)))))) × Int))) : Option (List ((Int × (Int × (Int × ((Int × Int) × (Int × (Int × (Int × (Int × (Int × (Bool × Int)))))))))))) :=
  Option.bind (loopR (r12_L0 a) ((), ((0 : Int), []))) fun (q13 : (Unit × List ((Int × (Int × (Int × ((Int × Int) × (Int × (Int × (Int × (Int × (Int × (Bool × Int))))))))))))) =>
    some q13.2
def an12 : Ann := .two (.leaf) (.two (.leaf) (.two (.two (.leaf) (.one (.loop [1, 2, 3] [3] [(7, (.pair (.int .i64) (.pair (.int .i64) (.pair (.int .i64) (.pair (.pair (.int .i64) (.int .i64)) (.pair (.int .i64) (.pair (.int .i64) (.pair (.int .i64) (.pair (.int .i64) (.pair (.int .i64) (.pair .bool (.int .i64))))))))))))] [.tmp 7 (.own 7 [(0, 0)] (.pair (.int .i64) (.pair (.int .i64) (.pair (.int .i64) (.pair (.pair (.int .i64) (.int .i64)) (.pair (.int .i64) (.pair (.int .i64) (.pair (.int .i64) (.pair (.int .i64) (.pair (.int .i64) (.pair .bool (.int .i64)))))))))))), .tmp 8 (.int .i64), .row 7 [.sl .own (.pair (.int .i64) (.pair (.int .i64) (.pair (.int .i64) (.pair (.pair (.int .i64) (.int .i64)) (.pair (.int .i64) (.pair (.int .i64) (.pair (.int .i64) (.pair (.int .i64) (.pair (.int .i64) (.pair .bool (.int .i64)))))))))))]] [⟨.exit 0, [], [.tmp 7 (.own 7 [(0, 0)] (.pair (.int .i64) (.pair (.int .i64) (.pair (.int .i64) (.pair (.pair (.int .i64) (.int .i64)) (.pair (.int .i64) (.pair (.int .i64) (.pair (.int .i64) (.pair (.int .i64) (.pair (.int .i64) (.pair .bool (.int .i64)))))))))))), .row 7 [.sl .own (.pair (.int .i64) (.pair (.int .i64) (.pair (.int .i64) (.pair (.pair (.int .i64) (.int .i64)) (.pair (.int .i64) (.pair (.int .i64) (.pair (.int .i64) (.pair (.int .i64) (.pair (.int .i64) (.pair .bool (.int .i64)))))))))))]]⟩] (.two (.two (.join [1, 2, 3, 7, 8] [3, 7] [⟨.normal, [], [.tmp 18 (.bool)]⟩] (.leaf)) (.two (.leaf) (.leaf))) (.two (.one (.two (.draw 7) (.leaf))) (.leaf)))))) (.two (.leaf) (.leaf))))
theorem s12 : SoundF cx.P cx.G 12 sg12 r12 := by
  have e : denF cx [(17, ⟨sg17, r17⟩)] an12 Tryd.f12.ntmps (Tryd.f12.body.getD .skip) Tryd.f12.results.toList sg12 = r12 := by kernel_rfl
  rw [← e]
  exact sound_of_den (c := cx) (Known.cons (.ofF s17 (by kernel_rfl)) Tryd.func17 (by kernel_rfl) (by kernel_rfl) (Known.nil)) Tryd.func12 (by kernel_rfl) (Nat.le_of_ble_eq_true (by kernel_rfl)) rfl

/-! reredos/label.one -/
def sg45 : Sig := ⟨[⟨true, .bo, (.pair (.int .i64) (.int .i64))⟩], [⟨false, .own, .bool⟩]⟩
noncomputable def r45 (a : (Int × Int)) : Option Bool :=
  Option.bind (
    bif decide ((0 : Int) ≤ a.1) then
      some (decide (a.1 ≤ (9 : Int)))
    else
      some false) fun (g1 : Bool) =>
    Option.bind (
      bif g1 then
        some (decide ((0 : Int) ≤ a.2))
      else
        some false) fun (g2 : Bool) =>
      bif g2 then
        some (decide (a.2 ≤ (15 : Int)))
      else
        some false
def an45 : Ann := .two (.leaf) (.two (.segs [(8, ([1], ([1], [.tmp 10 (.bool)]))), (5, ([1], ([1], [.tmp 15 (.bool)])))]) (.leaf))
theorem s45 : SoundF cx.P cx.G 45 sg45 r45 := by
  have e : denF cx [] an45 Tryd.f45.ntmps (Tryd.f45.body.getD .skip) Tryd.f45.results.toList sg45 = r45 := by kernel_rfl
  rw [← e]
  exact sound_of_den (c := cx) (Known.nil) Tryd.func45 (by kernel_rfl) (Nat.le_of_ble_eq_true (by kernel_rfl)) rfl

/-! reredos/label.Check -/
noncomputable def r32_L0 (d3 : Int) (a : (Int × (List ((Int × Int)) × Int))) (b4 : (Int × Int)) (d6 : Int) : Option (Int ⊕ (Unit ⊕ Int)) :=
  bif decide (d6 < (↑((List.take (Int.toNat d3) a.2.1).length) : Int)) then
    Option.bind (idxI (List.take (Int.toNat d3) a.2.1) d6) fun (b7 : (Int × Int)) =>
      bif (decide (b7.1 = b4.1) && (decide (b7.2 = b4.2) && true)) then
        some (Sum.inr (Sum.inr (7 : Int)))
      else
        some (Sum.inl (Go.IntKind.wrap .i64 (d6 + (1 : Int))))
  else
    some (Sum.inr (Sum.inl ()))
noncomputable def r32_L1 (a : (Int × (List ((Int × Int)) × Int))) (d3 : Int) : Option (Int ⊕ (Unit ⊕ Int)) :=
  bif decide (d3 < (↑a.2.1.length : Int)) then
    Option.bind (idxI a.2.1 d3) fun (b4 : (Int × Int)) =>
      Option.bind (r45 b4) fun (y5 : Bool) =>
        bif !(y5) then
          some (Sum.inr (Sum.inr (2 : Int)))
        else
          bif okB none (some d3) none a.2.1.length then
            Option.bind (loopR (r32_L0 d3 a b4) (0 : Int)) fun (q8 : (Unit ⊕ Int)) =>
              Sum.elim (fun (v9 : Unit) =>
                  some (Sum.inl (Go.IntKind.wrap .i64 (d3 + (1 : Int)))))
                (fun (v10 : Int) =>
                  some (Sum.inr (Sum.inr v10))) q8
          else
            none
  else
    some (Sum.inr (Sum.inl ()))
def sg32 : Sig := ⟨[⟨true, .bo, (.pair (.int .i64) (.pair (.sl (.pair (.int .i64) (.int .i64))) (.int .i64)))⟩], [⟨false, .own, (.int .i64)⟩]⟩
noncomputable def r32 (a : (Int × (List ((Int × Int)) × Int))) : Option Int :=
  Option.bind (
    bif !(decide (a.1 < (1 : Int))) then
      some (decide ((4 : Int) < a.1))
    else
      some true) fun (d1 : Bool) =>
    bif d1 then
      some (2 : Int)
    else
      Option.bind (
        bif !(decide ((↑a.2.1.length : Int) < (1 : Int))) then
          some (decide ((6 : Int) < (↑a.2.1.length : Int)))
        else
          some true) fun (d2 : Bool) =>
        bif d2 then
          some (1 : Int)
        else
          Option.bind (loopR (r32_L1 a) (0 : Int)) fun (q11 : (Unit ⊕ Int)) =>
            Sum.elim (fun (v12 : Unit) =>
                Option.bind (
                  bif !(decide (a.2.2 < (1 : Int))) then
                    some (decide ((1048576 : Int) < a.2.2))
                  else
                    some true) fun (d14 : Bool) =>
                  bif d14 then
                    some (2 : Int)
                  else
                    some (0 : Int))
              (fun (v13 : Int) =>
                some v13) q11
def an32 : Ann := .two (.leaf) (.two (.two (.join [1] [1] [⟨.normal, [], [.tmp 14 (.bool)]⟩] (.leaf)) (.two (.two (.leaf) (.leaf)) (.leaf))) (.two (.two (.join [1] [1] [⟨.normal, [], [.tmp 24 (.bool)]⟩] (.leaf)) (.two (.two (.leaf) (.leaf)) (.leaf))) (.two (.two (.leaf) (.one (.loop [1, 26, 27] [1] [] [.tmp 28 (.int .i64)] [⟨.exit 0, [], []⟩, ⟨.ret, [], [.tmp 2 (.int .i64)]⟩] (.two (.leaf) (.two (.two (.leaf) (.leaf)) (.two (.one (.two (.leaf) (.two (.two (.leaf) (.two (.two (.leaf) (.leaf)) (.leaf))) (.two (.leaf) (.one (.loop [1, 4, 26, 27, 28, 39, 40] [1, 4] [] [.tmp 41 (.int .i64)] [⟨.exit 2, [], []⟩, ⟨.ret, [], [.tmp 2 (.int .i64)]⟩] (.two (.leaf) (.two (.two (.leaf) (.leaf)) (.two (.one (.two (.leaf) (.two (.leaf) (.two (.two (.leaf) (.leaf)) (.leaf))))) (.leaf)))))))))) (.leaf))))))) (.two (.two (.join [] [] [⟨.normal, [], [.tmp 57 (.bool)]⟩] (.leaf)) (.two (.two (.leaf) (.leaf)) (.leaf))) (.two (.leaf) (.leaf))))))
theorem s32 : SoundF cx.P cx.G 32 sg32 r32 := by
  have e : denF cx [(45, ⟨sg45, r45⟩)] an32 Tryd.f32.ntmps (Tryd.f32.body.getD .skip) Tryd.f32.results.toList sg32 = r32 := by kernel_rfl
  rw [← e]
  exact sound_of_den (c := cx) (Known.cons (.ofF s45 (by kernel_rfl)) Tryd.func45 (by kernel_rfl) (by kernel_rfl) (Known.nil)) Tryd.func32 (by kernel_rfl) (Nat.le_of_ble_eq_true (by kernel_rfl)) rfl

/-! reredos/net.Empty -/
def sg13 : Sig := ⟨[⟨true, .bo, (.pair (.int .i64) (.pair (.sl (.pair (.int .i64) (.int .i64))) (.int .i64)))⟩], [⟨false, .own, (.sl (.sl (.pair (.int .i64) (.pair (.int .i64) (.pair (.int .i64) (.pair (.pair (.int .i64) (.int .i64)) (.pair (.int .i64) (.pair (.int .i64) (.pair (.int .i64) (.pair (.int .i64) (.pair (.int .i64) (.pair .bool (.int .i64)))))))))))))⟩, ⟨false, .own, (.int .i64)⟩]⟩
noncomputable def r13 (a : (Int × (List ((Int × Int)) × Int))) : Option (List (List ((Int × (Int × (Int × ((Int × Int) × (Int × (Int × (Int × (Int × (Int × (Bool × Int)))))))))))) × Int) :=
  Option.bind (r32 a) fun (y1 : Int) =>
    bif !(decide (y1 = (0 : Int))) then
      some ([], y1)
    else
      bif (decide (0 ≤ (Go.IntKind.wrap .i64 (a.1 * a.1))) && (decide ((Go.IntKind.wrap .i64 (a.1 * a.1)) ≤ (Go.IntKind.wrap .i64 (a.1 * a.1))) && (decide ((24 : Int) * (Go.IntKind.wrap .i64 (a.1 * a.1)) ≤ 281474976710656) && decide ((Go.IntKind.wrap .i64 (a.1 * a.1)) ≤ 9223372036854775807)))) then
        some (List.replicate (Int.toNat (Go.IntKind.wrap .i64 (a.1 * a.1))) [], (0 : Int))
      else
        none
def an13 : Ann := .two (.leaf) (.two (.two (.leaf) (.two (.leaf) (.two (.two (.leaf) (.leaf)) (.leaf)))) (.two (.leaf) (.leaf)))
theorem s13 : SoundF cx.P cx.G 13 sg13 r13 := by
  have e : denF cx [(32, ⟨sg32, r32⟩)] an13 Tryd.f13.ntmps (Tryd.f13.body.getD .skip) Tryd.f13.results.toList sg13 = r13 := by kernel_rfl
  rw [← e]
  exact sound_of_den (c := cx) (Known.cons (.ofF s32 (by kernel_rfl)) Tryd.func32 (by kernel_rfl) (by kernel_rfl) (Known.nil)) Tryd.func13 (by kernel_rfl) (Nat.le_of_ble_eq_true (by kernel_rfl)) rfl

/-! reredos/wire.txn -/
def sg46 : Sig := ⟨[⟨true, .bo, (.pair (.int .i64) (.pair (.sl (.pair (.int .i64) (.int .i64))) (.int .i64)))⟩, ⟨true, .bo, (.pair (.int .i64) (.int .i64))⟩], [⟨false, .own, .bool⟩]⟩
noncomputable def r46 (a : ((Int × (List ((Int × Int)) × Int)) × (Int × Int))) : Option Bool :=
  Option.bind (
    bif decide ((0 : Int) ≤ a.2.1) then
      some (decide (a.2.1 < a.1.1))
    else
      some false) fun (g1 : Bool) =>
    Option.bind (
      bif g1 then
        some (decide ((1 : Int) ≤ a.2.2))
      else
        some false) fun (g2 : Bool) =>
      bif g2 then
        some (decide (a.2.2 ≤ (1048576 : Int)))
      else
        some false
def an46 : Ann := .two (.leaf) (.two (.segs [(10, ([3], ([3], [.tmp 14 (.bool)]))), (5, ([3], ([3], [.tmp 19 (.bool)])))]) (.leaf))
theorem s46 : SoundF cx.P cx.G 46 sg46 r46 := by
  have e : denF cx [] an46 Tryd.f46.ntmps (Tryd.f46.body.getD .skip) Tryd.f46.results.toList sg46 = r46 := by kernel_rfl
  rw [← e]
  exact sound_of_den (c := cx) (Known.nil) Tryd.func46 (by kernel_rfl) (Nat.le_of_ble_eq_true (by kernel_rfl)) rfl

/-! reredos/wire.key -/
def sg47 : Sig := ⟨[⟨false, .bo, (.int .i64)⟩], [⟨false, .own, .bool⟩]⟩
noncomputable def r47 (a : Int) : Option Bool :=
  bif decide ((0 : Int) ≤ a) then
    some (decide (a < (8 : Int)))
  else
    some false
def an47 : Ann := .two (.leaf) (.two (.leaf) (.leaf))
theorem s47 : SoundF cx.P cx.G 47 sg47 r47 := by
  have e : denF cx [] an47 Tryd.f47.ntmps (Tryd.f47.body.getD .skip) Tryd.f47.results.toList sg47 = r47 := by kernel_rfl
  rw [← e]
  exact sound_of_den (c := cx) (Known.nil) Tryd.func47 (by kernel_rfl) (Nat.le_of_ble_eq_true (by kernel_rfl)) rfl

/-! reredos/wire.value -/
def sg48 : Sig := ⟨[⟨false, .bo, (.int .i64)⟩], [⟨false, .own, .bool⟩]⟩
noncomputable def r48 (a : Int) : Option Bool :=
  bif decide ((0 : Int) ≤ a) then
    some (decide (a ≤ (1073741824 : Int)))
  else
    some false
def an48 : Ann := .two (.leaf) (.two (.leaf) (.leaf))
theorem s48 : SoundF cx.P cx.G 48 sg48 r48 := by
  have e : denF cx [] an48 Tryd.f48.ntmps (Tryd.f48.body.getD .skip) Tryd.f48.results.toList sg48 = r48 := by kernel_rfl
  rw [← e]
  exact sound_of_den (c := cx) (Known.nil) Tryd.func48 (by kernel_rfl) (Nat.le_of_ble_eq_true (by kernel_rfl)) rfl

/-! reredos/wire.ask -/
def sg49 : Sig := ⟨[⟨false, .bo, (.int .i64)⟩], [⟨false, .own, .bool⟩]⟩
noncomputable def r49 (a : Int) : Option Bool :=
  bif decide ((0 : Int) ≤ a) then
    some (decide (a ≤ (1048576 : Int)))
  else
    some false
def an49 : Ann := .two (.leaf) (.two (.leaf) (.leaf))
theorem s49 : SoundF cx.P cx.G 49 sg49 r49 := by
  have e : denF cx [] an49 Tryd.f49.ntmps (Tryd.f49.body.getD .skip) Tryd.f49.results.toList sg49 = r49 := by kernel_rfl
  rw [← e]
  exact sound_of_den (c := cx) (Known.nil) Tryd.func49 (by kernel_rfl) (Nat.le_of_ble_eq_true (by kernel_rfl)) rfl

/-! reredos/wire.code -/
def sg50 : Sig := ⟨[⟨false, .bo, (.int .i64)⟩], [⟨false, .own, .bool⟩]⟩
noncomputable def r50 (a : Int) : Option Bool :=
  Option.bind (
    bif !(decide (a = (0 : Int))) then
      some (decide (a = (11 : Int)))
    else
      some true) fun (g1 : Bool) =>
    bif !(g1) then
      some (decide (a = (8 : Int)))
    else
      some true
def an50 : Ann := .two (.leaf) (.two (.segs [(6, ([0], ([], [.tmp 8 (.bool)])))]) (.leaf))
theorem s50 : SoundF cx.P cx.G 50 sg50 r50 := by
  have e : denF cx [] an50 Tryd.f50.ntmps (Tryd.f50.body.getD .skip) Tryd.f50.results.toList sg50 = r50 := by kernel_rfl
  rw [← e]
  exact sound_of_den (c := cx) (Known.nil) Tryd.func50 (by kernel_rfl) (Nat.le_of_ble_eq_true (by kernel_rfl)) rfl

/-! reredos/wire.CheckMessage -/
def sg33 : Sig := ⟨[⟨true, .bo, (.pair (.int .i64) (.pair (.sl (.pair (.int .i64) (.int .i64))) (.int .i64)))⟩, ⟨true, .bo, (.pair (.int .i64) (.pair (.int .i64) (.pair (.int .i64) (.pair (.pair (.int .i64) (.int .i64)) (.pair (.int .i64) (.pair (.int .i64) (.pair (.int .i64) (.pair (.int .i64) (.pair (.int .i64) (.pair .bool (.int .i64)))))))))))⟩], [⟨false, .own, (.int .i64)⟩]⟩
noncomputable def r33 (a : ((Int × (List ((Int × Int)) × Int)) × (Int × (Int × (Int × ((Int × Int) × (Int × (Int × (Int × (Int × (Int × (Bool × Int)))))))))))) : Option Int :=
  Option.bind (r32 a.1) fun (y1 : Int) =>
    bif !(decide (y1 = (0 : Int))) then
      some y1
    else
      Option.bind (
        bif !(decide (a.2.1 < (1 : Int))) then
          some (decide ((9 : Int) < a.2.1))
        else
          some true) fun (d2 : Bool) =>
        bif d2 then
          some (3 : Int)
        else
          Option.bind (
            Option.bind (
              bif !(decide (a.2.2.1 < (0 : Int))) then
                some (decide (a.1.1 ≤ a.2.2.1))
              else
                some true) fun (g35 : Bool) =>
              Option.bind (
                bif !(g35) then
                  some (decide (a.2.2.2.1 < (0 : Int)))
                else
                  some true) fun (g36 : Bool) =>
                Option.bind (
                  bif !(g36) then
                    some (decide (a.1.1 ≤ a.2.2.2.1))
                  else
                    some true) fun (g37 : Bool) =>
                  Option.bind (
                    bif !(g37) then
                      Option.bind (r46 (a.1, a.2.2.2.2.1)) fun (y38 : Bool) =>
                        some !(y38)
                    else
                      some true) fun (g39 : Bool) =>
                    Option.bind (
                      bif !(g39) then
                        some (decide (a.2.2.2.2.2.1 < (0 : Int)))
                      else
                        some true) fun (g40 : Bool) =>
                      Option.bind (
                        bif !(g40) then
                          some (decide ((↑a.1.2.1.length : Int) ≤ a.2.2.2.2.2.1))
                        else
                          some true) fun (g41 : Bool) =>
                        Option.bind (
                          bif !(g41) then
                            Option.bind (r47 a.2.2.2.2.2.2.1) fun (y42 : Bool) =>
                              some !(y42)
                          else
                            some true) fun (g43 : Bool) =>
                          Option.bind (
                            bif !(g43) then
                              Option.bind (r48 a.2.2.2.2.2.2.2.1) fun (y44 : Bool) =>
                                some !(y44)
                            else
                              some true) fun (g45 : Bool) =>
                            Option.bind (
                              bif !(g45) then
                                some (decide (a.2.2.2.2.2.2.2.2.1 < (0 : Int)))
                              else
                                some true) fun (g46 : Bool) =>
                              Option.bind (
                                bif !(g46) then
                                  some (decide ((1048576 : Int) < a.2.2.2.2.2.2.2.2.1))
                                else
                                  some true) fun (g47 : Bool) =>
                                Option.bind (
                                  bif !(g47) then
                                    Option.bind (r49 a.2.2.2.2.2.2.2.2.2.1) fun (y48 : Bool) =>
                                      some !(y48)
                                  else
                                    some true) fun (g49 : Bool) =>
                                  bif !(g49) then
                                    Option.bind (r50 a.2.2.2.2.2.2.2.2.2.2.2) fun (y50 : Bool) =>
                                      some !(y50)
                                  else
                                    some true) fun (d51 : Bool) =>
            bif d51 then
              some (2 : Int)
            else
              Option.bind (idxI tab1 a.2.1) fun (b52 : (Bool × (Bool × (Bool × (Bool × (Bool × (Bool × (Bool × Bool)))))))) =>
                Option.bind (
                  Option.bind (
                    bif !(b52.1) then
                      some (!(decide (a.2.2.2.2.2.1 = (0 : Int))))
                    else
                      some false) fun (g67 : Bool) =>
                    Option.bind (
                      bif !(g67) then
                        bif !(b52.2.1) then
                          some (!(decide (a.2.2.2.2.2.2.1 = (0 : Int))))
                        else
                          some false
                      else
                        some true) fun (g68 : Bool) =>
                      Option.bind (
                        bif !(g68) then
                          bif !(b52.2.2.1) then
                            some (!(decide (a.2.2.2.2.2.2.2.1 = (0 : Int))))
                          else
                            some false
                        else
                          some true) fun (g69 : Bool) =>
                        Option.bind (
                          bif !(g69) then
                            bif !(b52.2.2.2.1) then
                              some (!(decide (a.2.2.2.2.2.2.2.2.1 = (0 : Int))))
                            else
                              some false
                          else
                            some true) fun (g70 : Bool) =>
                          Option.bind (
                            bif !(g70) then
                              bif !(b52.2.2.2.2.1) then
                                some (!(decide (a.2.2.2.2.2.2.2.2.2.1 = (0 : Int))))
                              else
                                some false
                            else
                              some true) fun (g71 : Bool) =>
                            Option.bind (
                              bif !(g71) then
                                bif !(b52.2.2.2.2.2.1) then
                                  some a.2.2.2.2.2.2.2.2.2.2.1
                                else
                                  some false
                              else
                                some true) fun (g72 : Bool) =>
                              Option.bind (
                                bif !(g72) then
                                  bif !(b52.2.2.2.2.2.2.1) then
                                    some (!(decide (a.2.2.2.2.2.2.2.2.2.2.2 = (0 : Int))))
                                  else
                                    some false
                                else
                                  some true) fun (g73 : Bool) =>
                                bif !(g73) then
                                  bif !(decide (a.2.2.2.2.2.2.2.2.2.2.2 = (0 : Int))) then
                                    some (!(decide ((Go.IntKind.wrap .i64 (a.2.2.2.2.2.2.2.1 + a.2.2.2.2.2.2.2.2.1)) = (0 : Int))))
                                  else
                                    some false
                                else
                                  some true) fun (d74 : Bool) =>
                  bif d74 then
                    some (4 : Int)
                  else
                    some (0 : Int)
def an33 : Ann := .two (.leaf) (.two (.two (.leaf) (.two (.leaf) (.two (.two (.leaf) (.leaf)) (.leaf)))) (.two (.two (.join [2, 3] [2, 3] [⟨.normal, [], [.tmp 19 (.bool)]⟩] (.leaf)) (.two (.two (.leaf) (.leaf)) (.leaf))) (.two (.two (.join [3] [3] [⟨.normal, [], [.tmp 95 (.bool)]⟩] (.segs [(10, ([2, 3], ([2, 3], [.tmp 29 (.bool)]))), (5, ([2, 3], ([2, 3], [.tmp 34 (.bool)]))), (7, ([2, 3], ([2, 3], [.tmp 41 (.bool)]))), (7, ([2, 3], ([2, 3], [.tmp 48 (.bool)]))), (5, ([2, 3], ([2, 3], [.tmp 53 (.bool)]))), (8, ([3], ([3], [.tmp 61 (.bool)]))), (6, ([3], ([3], [.tmp 67 (.bool)]))), (6, ([3], ([3], [.tmp 73 (.bool)]))), (5, ([3], ([3], [.tmp 78 (.bool)]))), (5, ([3], ([3], [.tmp 83 (.bool)]))), (6, ([3], ([3], [.tmp 89 (.bool)])))])) (.two (.two (.leaf) (.leaf)) (.leaf))) (.two (.leaf) (.two (.two (.join [] [] [⟨.normal, [], [.tmp 179 (.bool)]⟩] (.segs [(8, ([3, 6], ([3, 6], [.tmp 107 (.bool)]))), (10, ([3, 6], ([3, 6], [.tmp 117 (.bool)]))), (10, ([3, 6], ([3, 6], [.tmp 127 (.bool)]))), (10, ([3, 6], ([3, 6], [.tmp 137 (.bool)]))), (10, ([3, 6], ([3, 6], [.tmp 147 (.bool)]))), (9, ([3, 6], ([3, 6], [.tmp 156 (.bool)]))), (10, ([3], ([3], [.tmp 166 (.bool)])))])) (.two (.two (.leaf) (.leaf)) (.leaf))) (.two (.leaf) (.leaf)))))))
theorem s33 : SoundF cx.P cx.G 33 sg33 r33 := by
  have e : denF cx [(32, ⟨sg32, r32⟩), (46, ⟨sg46, r46⟩), (47, ⟨sg47, r47⟩), (48, ⟨sg48, r48⟩), (49, ⟨sg49, r49⟩), (50, ⟨sg50, r50⟩)] an33 Tryd.f33.ntmps (Tryd.f33.body.getD .skip) Tryd.f33.results.toList sg33 = r33 := by kernel_rfl
  rw [← e]
  exact sound_of_den (c := cx) (Known.cons (.ofF s32 (by kernel_rfl)) Tryd.func32 (by kernel_rfl) (by kernel_rfl) (Known.cons (.ofF s46 (by kernel_rfl)) Tryd.func46 (by kernel_rfl) (by kernel_rfl) (Known.cons (.ofF s47 (by kernel_rfl)) Tryd.func47 (by kernel_rfl) (by kernel_rfl) (Known.cons (.ofF s48 (by kernel_rfl)) Tryd.func48 (by kernel_rfl) (by kernel_rfl) (Known.cons (.ofF s49 (by kernel_rfl)) Tryd.func49 (by kernel_rfl) (by kernel_rfl) (Known.cons (.ofF s50 (by kernel_rfl)) Tryd.func50 (by kernel_rfl) (by kernel_rfl) (Known.nil))))))) Tryd.func33 (by kernel_rfl) (Nat.le_of_ble_eq_true (by kernel_rfl)) rfl

/-! reredos/net.Check -/
noncomputable def r16_L0 (b3 : List ((Int × (Int × (Int × ((Int × Int) × (Int × (Int × (Int × (Int × (Int × (Bool × Int)))))))))))) (a : ((Int × (List ((Int × Int)) × Int)) × List (List ((Int × (Int × (Int × ((Int × Int) × (Int × (Int × (Int × (Int × (Int × (Bool × Int)))))))))))))) (d2 : Int) (d4 : Int) : Option (Int ⊕ (Unit ⊕ Int)) :=
  bif decide (d4 < (↑b3.length : Int)) then
    Option.bind (idxI b3 d4) fun (b5 : (Int × (Int × (Int × ((Int × Int) × (Int × (Int × (Int × (Int × (Int × (Bool × Int))))))))))) =>
      Option.bind (
        Option.bind (r33 (a.1, b5)) fun (y11 : Int) =>
          bif !(!(decide (y11 = (0 : Int)))) then
            bif decide (a.1.1 = 0) then
              none
            else
              bif !(!(decide (b5.2.1 = (Go.IntKind.wrap .i64 (Int.tdiv d2 a.1.1))))) then
                bif decide (a.1.1 = 0) then
                  none
                else
                  some (!(decide (b5.2.2.1 = (Int.tmod d2 a.1.1))))
              else
                some true
          else
            some true) fun (d12 : Bool) =>
        bif d12 then
          some (Sum.inr (Sum.inr (9 : Int)))
        else
          some (Sum.inl (Go.IntKind.wrap .i64 (d4 + (1 : Int))))
  else
    some (Sum.inr (Sum.inl ()))
noncomputable def r16_L1 (a : ((Int × (List ((Int × Int)) × Int)) × List (List ((Int × (Int × (Int × ((Int × Int) × (Int × (Int × (Int × (Int × (Int × (Bool × Int)))))))))))))) (d2 : Int) : Option (Int ⊕ (Unit ⊕ Int)) :=
  bif decide (d2 < (↑a.2.length : Int)) then
    Option.bind (idxI a.2 d2) fun (b3 : List ((Int × (Int × (Int × ((Int × Int) × (Int × (Int × (Int × (Int × (Int × (Bool × Int)))))))))))) =>
      bif decide ((30 : Int) < (↑b3.length : Int)) then
        some (Sum.inr (Sum.inr (9 : Int)))
      else
        Option.bind (loopR (r16_L0 b3 a d2) (0 : Int)) fun (q13 : (Unit ⊕ Int)) =>
          Sum.elim (fun (v14 : Unit) =>
              some (Sum.inl (Go.IntKind.wrap .i64 (d2 + (1 : Int)))))
            (fun (v15 : Int) =>
              some (Sum.inr (Sum.inr v15))) q13
  else
    some (Sum.inr (Sum.inl ()))
def sg16 : Sig := ⟨[⟨true, .bo, (.pair (.int .i64) (.pair (.sl (.pair (.int .i64) (.int .i64))) (.int .i64)))⟩, ⟨false, .bo, (.sl (.sl (.pair (.int .i64) (.pair (.int .i64) (.pair (.int .i64) (.pair (.pair (.int .i64) (.int .i64)) (.pair (.int .i64) (.pair (.int .i64) (.pair (.int .i64) (.pair (.int .i64) (.pair (.int .i64) (.pair .bool (.int .i64)))))))))))))⟩], [⟨false, .own, (.int .i64)⟩]⟩
noncomputable def r16 (a : ((Int × (List ((Int × Int)) × Int)) × List (List ((Int × (Int × (Int × ((Int × Int) × (Int × (Int × (Int × (Int × (Int × (Bool × Int)))))))))))))) : Option Int :=
  Option.bind (r32 a.1) fun (y1 : Int) =>
    bif !(decide (y1 = (0 : Int))) then
      some y1
    else
      bif !(decide ((↑a.2.length : Int) = (Go.IntKind.wrap .i64 (a.1.1 * a.1.1)))) then
        some (9 : Int)
      else
        Option.bind (loopR (r16_L1 a) (0 : Int)) fun (q16 : (Unit ⊕ Int)) =>
          Sum.elim (fun (v17 : Unit) =>
              some (0 : Int))
            (fun (v18 : Int) =>
              some v18) q16
def an16 : Ann := .two (.leaf) (.two (.two (.leaf) (.two (.leaf) (.two (.two (.leaf) (.leaf)) (.leaf)))) (.two (.two (.leaf) (.two (.two (.leaf) (.leaf)) (.leaf))) (.two (.two (.leaf) (.one (.loop [2, 23, 24] [2] [] [.tmp 25 (.int .i64)] [⟨.exit 0, [], []⟩, ⟨.ret, [], [.tmp 4 (.int .i64)]⟩] (.two (.leaf) (.two (.two (.leaf) (.leaf)) (.two (.one (.two (.leaf) (.two (.two (.leaf) (.two (.two (.leaf) (.leaf)) (.leaf))) (.two (.leaf) (.one (.loop [2, 6, 23, 24, 25, 33, 34] [2] [] [.tmp 35 (.int .i64)] [⟨.exit 2, [], []⟩, ⟨.ret, [], [.tmp 4 (.int .i64)]⟩] (.two (.leaf) (.two (.two (.leaf) (.leaf)) (.two (.one (.two (.leaf) (.two (.join [2, 6, 23, 24, 25, 33, 34, 35] [2] [⟨.normal, [], [.tmp 60 (.bool)]⟩] (.draw 20)) (.two (.two (.leaf) (.leaf)) (.leaf))))) (.leaf)))))))))) (.leaf))))))) (.two (.leaf) (.leaf)))))
theorem s16 : SoundF cx.P cx.G 16 sg16 r16 := by
  have e : denF cx [(32, ⟨sg32, r32⟩), (33, ⟨sg33, r33⟩)] an16 Tryd.f16.ntmps (Tryd.f16.body.getD .skip) Tryd.f16.results.toList sg16 = r16 := by kernel_rfl
  rw [← e]
  exact sound_of_den (c := cx) (Known.cons (.ofF s32 (by kernel_rfl)) Tryd.func32 (by kernel_rfl) (by kernel_rfl) (Known.cons (.ofF s33 (by kernel_rfl)) Tryd.func33 (by kernel_rfl) (by kernel_rfl) (Known.nil))) Tryd.func16 (by kernel_rfl) (Nat.le_of_ble_eq_true (by kernel_rfl)) rfl

/-! slices.Clone[[]reredos/api.Message,reredos/api.Message] -/
def sg51 : Sig := ⟨[⟨false, .bo, (.sl (.pair (.int .i64) (.pair (.int .i64) (.pair (.int .i64) (.pair (.pair (.int .i64) (.int .i64)) (.pair (.int .i64) (.pair (.int .i64) (.pair (.int .i64) (.pair (.int .i64) (.pair (.int .i64) (.pair .bool (.int .i64))))))))))))⟩], [⟨false, .own, (.sl (.pair (.int .i64) (.pair (.int .i64) (.pair (.int .i64) (.pair (.pair (.int .i64) (.int .i64)) (.pair (.int .i64) (.pair (.int .i64) (.pair (.int .i64) (.pair (.int .i64) (.pair (.int .i64) (.pair .bool (.int .i64))))))))))))⟩]⟩
noncomputable def r51 (a : List ((Int × (Int × (Int × ((Int × Int) × (Int × (Int × (Int × (Int × (Int × (Bool × Int)))))))))))) : Option (List ((Int × (Int × (Int × ((Int × Int) × (Int × (Int × (Int × (Int × (Int × (Bool × Int)))))))))))) :=
  nilR a fun (n1 : Bool) =>
    bif n1 then
      some []
    else
      bif roomOk false 0 a.length 96 then
        some a
      else
        none
def an51 : Ann := .two (.leaf) (.two (.two (.leaf) (.two (.two (.leaf) (.leaf)) (.leaf))) (.two (.leaf) (.leaf)))
theorem s51 : SoundF cx.P cx.G 51 sg51 r51 := by
  have e : denF cx [] an51 Tryd.f51.ntmps (Tryd.f51.body.getD .skip) Tryd.f51.results.toList sg51 = r51 := by kernel_rfl
  rw [← e]
  exact sound_of_den (c := cx) (Known.nil) Tryd.func51 (by kernel_rfl) (Nat.le_of_ble_eq_true (by kernel_rfl)) rfl

/-! reredos/net.own -/
noncomputable def r34_L0 (a : List (List ((Int × (Int × (Int × ((Int × Int) × (Int × (Int × (Int × (Int × (Int × (Bool × Int))))))))))))) (d4 : (Unit × (Int × List (List ((Int × (Int × (Int × ((Int × Int) × (Int × (Int × (Int × (Int × (Int × (Bool × Int))))))))))))))) : Option ((Unit × (Int × List (List ((Int × (Int × (Int × ((Int × Int) × (Int × (Int × (Int × (Int × (Int × (Bool × Int)))))))))))))) ⊕ (Unit × List (List ((Int × (Int × (Int × ((Int × Int) × (Int × (Int × (Int × (Int × (Int × (Bool × Int)))))))))))))) :=
  bif decide (d4.2.1 < (↑a.length : Int)) then
    Option.bind (idxI a d4.2.1) fun (b5 : List ((Int × (Int × (Int × ((Int × Int) × (Int × (Int × (Int × (Int × (Int × (Bool × Int)))))))))))) =>
      Option.bind (r51 b5) fun (y6 : List ((Int × (Int × (Int × ((Int × Int) × (Int × (Int × (Int × (Int × (Int × (Bool × Int)))))))))))) =>
        bif roomOk false d4.2.2.length 1 24 then
          some (Sum.inl ((), ((Go.IntKind.wrap .i64 (d4.2.1 + (1 : Int))), app d4.2.2 [y6])))
        else
          none
  else
    some (Sum.inr ((), d4.2.2))
def sg34 : Sig := ⟨[⟨false, .bo, (.sl (.sl (.pair (.int .i64) (.pair (.int .i64) (.pair (.int .i64) (.pair (.pair (.int .i64) (.int .i64)) (.pair (.int .i64) (.pair (.int .i64) (.pair (.int .i64) (.pair (.int .i64) (.pair (.int .i64) (.pair .bool (.int .i64)))))))))))))⟩], [⟨false, .own, (.sl (.sl (.pair (.int .i64) (.pair (.int .i64) (.pair (.int .i64) (.pair (.pair (.int .i64) (.int .i64)) (.pair (.int .i64) (.pair (.int .i64) (.pair (.int .i64) (.pair (.int .i64) (.pair (.int .i64) (.pair .bool (.int .i64)))))))))))))⟩]⟩
noncomputable def r34 (a : List (List ((Int × (Int × (Int × ((Int × Int) × (Int × (Int × (Int × (Int × (Int × (Bool × Int))))))))))))) : Option (List (List ((Int × (Int × (Int × ((Int × Int) × (Int × (Int × (Int × (Int × (Int × (Bool × Int))))))))))))) :=
  Option.bind (loopR (r34_L0 a) ((), ((0 : Int), []))) fun (q7 : (Unit × List (List ((Int × (Int × (Int × ((Int × Int) × (Int × (Int × (Int × (Int × (Int × (Bool × Int)))))))))))))) =>
    some q7.2
def an34 : Ann := .two (.leaf) (.two (.leaf) (.two (.two (.leaf) (.one (.loop [6, 7] [] [(3, (.sl (.pair (.int .i64) (.pair (.int .i64) (.pair (.int .i64) (.pair (.pair (.int .i64) (.int .i64)) (.pair (.int .i64) (.pair (.int .i64) (.pair (.int .i64) (.pair (.int .i64) (.pair (.int .i64) (.pair .bool (.int .i64)))))))))))))] [.tmp 3 (.own 3 [(0, 0)] (.sl (.pair (.int .i64) (.pair (.int .i64) (.pair (.int .i64) (.pair (.pair (.int .i64) (.int .i64)) (.pair (.int .i64) (.pair (.int .i64) (.pair (.int .i64) (.pair (.int .i64) (.pair (.int .i64) (.pair .bool (.int .i64))))))))))))), .tmp 8 (.int .i64), .row 3 [.sl .own (.sl (.pair (.int .i64) (.pair (.int .i64) (.pair (.int .i64) (.pair (.pair (.int .i64) (.int .i64)) (.pair (.int .i64) (.pair (.int .i64) (.pair (.int .i64) (.pair (.int .i64) (.pair (.int .i64) (.pair .bool (.int .i64))))))))))))]] [⟨.exit 0, [], [.tmp 3 (.own 3 [(0, 0)] (.sl (.pair (.int .i64) (.pair (.int .i64) (.pair (.int .i64) (.pair (.pair (.int .i64) (.int .i64)) (.pair (.int .i64) (.pair (.int .i64) (.pair (.int .i64) (.pair (.int .i64) (.pair (.int .i64) (.pair .bool (.int .i64))))))))))))), .row 3 [.sl .own (.sl (.pair (.int .i64) (.pair (.int .i64) (.pair (.int .i64) (.pair (.pair (.int .i64) (.int .i64)) (.pair (.int .i64) (.pair (.int .i64) (.pair (.int .i64) (.pair (.int .i64) (.pair (.int .i64) (.pair .bool (.int .i64))))))))))))]]⟩] (.two (.leaf) (.two (.two (.leaf) (.leaf)) (.two (.one (.two (.leaf) (.leaf))) (.leaf))))))) (.two (.leaf) (.leaf))))
theorem s34 : SoundF cx.P cx.G 34 sg34 r34 := by
  have e : denF cx [(51, ⟨sg51, r51⟩)] an34 Tryd.f34.ntmps (Tryd.f34.body.getD .skip) Tryd.f34.results.toList sg34 = r34 := by kernel_rfl
  rw [← e]
  exact sound_of_den (c := cx) (Known.cons (.ofF s51 (by kernel_rfl)) Tryd.func51 (by kernel_rfl) (by kernel_rfl) (Known.nil)) Tryd.func34 (by kernel_rfl) (Nat.le_of_ble_eq_true (by kernel_rfl)) rfl

/-! reredos/net.Send -/
noncomputable def r14_L0 (a : ((Int × (List ((Int × Int)) × Int)) × (List (List ((Int × (Int × (Int × ((Int × Int) × (Int × (Int × (Int × (Int × (Int × (Bool × Int)))))))))))) × List ((Int × (Int × (Int × ((Int × Int) × (Int × (Int × (Int × (Int × (Int × (Bool × Int)))))))))))))) (d2 : Int) : Option (Int ⊕ (Unit ⊕ (Unit × Int))) :=
  bif decide (d2 < (↑a.2.2.length : Int)) then
    Option.bind (idxI a.2.2 d2) fun (b3 : (Int × (Int × (Int × ((Int × Int) × (Int × (Int × (Int × (Int × (Int × (Bool × Int))))))))))) =>
      Option.bind (r33 (a.1, b3)) fun (y4 : Int) =>
        bif !(decide (y4 = (0 : Int))) then
          some (Sum.inr (Sum.inr ((), y4)))
        else
          some (Sum.inl (Go.IntKind.wrap .i64 (d2 + (1 : Int))))
  else
    some (Sum.inr (Sum.inl ()))
noncomputable def r14_L1 (a : ((Int × (List ((Int × Int)) × Int)) × (List (List ((Int × (Int × (Int × ((Int × Int) × (Int × (Int × (Int × (Int × (Int × (Bool × Int)))))))))))) × List ((Int × (Int × (Int × ((Int × Int) × (Int × (Int × (Int × (Int × (Int × (Bool × Int)))))))))))))) (d161 : (Unit × (Int × List (List ((Int × (Int × (Int × ((Int × Int) × (Int × (Int × (Int × (Int × (Int × (Bool × Int))))))))))))))) : Option ((Unit × (Int × List (List ((Int × (Int × (Int × ((Int × Int) × (Int × (Int × (Int × (Int × (Int × (Bool × Int)))))))))))))) ⊕ (Unit × List (List ((Int × (Int × (Int × ((Int × Int) × (Int × (Int × (Int × (Int × (Int × (Bool × Int)))))))))))))) :=
  bif decide (d161.2.1 < (↑a.2.2.length : Int)) then
    Option.bind (
      Option.bind (idxI a.2.2 d161.2.1) fun (b262 : (Int × (Int × (Int × ((Int × Int) × (Int × (Int × (Int × (Int × (Int × (Bool × Int))))))))))) =>
        bif inB (Go.IntKind.wrap .i64 ((Go.IntKind.wrap .i64 (b262.2.1 * a.1.1)) + b262.2.2.1)) d161.2.2.length then
          Option.bind (idxN d161.2.2 (Int.toNat (Go.IntKind.wrap .i64 ((Go.IntKind.wrap .i64 (b262.2.1 * a.1.1)) + b262.2.2.1)))) fun (x263 : List ((Int × (Int × (Int × ((Int × Int) × (Int × (Int × (Int × (Int × (Int × (Bool × Int)))))))))))) =>
            Option.bind (idxN d161.2.2 (Int.toNat (Go.IntKind.wrap .i64 ((Go.IntKind.wrap .i64 (b262.2.1 * a.1.1)) + b262.2.2.1)))) fun (x264 : List ((Int × (Int × (Int × ((Int × Int) × (Int × (Int × (Int × (Int × (Int × (Bool × Int)))))))))))) =>
              bif decide ((↑x264.length : Int) < (30 : Int)) then
                Option.bind (
                  bif inB (Go.IntKind.wrap .i64 ((Go.IntKind.wrap .i64 (b262.2.1 * a.1.1)) + b262.2.2.1)) d161.2.2.length then
                    Option.bind (idxN d161.2.2 (Int.toNat (Go.IntKind.wrap .i64 ((Go.IntKind.wrap .i64 (b262.2.1 * a.1.1)) + b262.2.2.1)))) fun (x289 : List ((Int × (Int × (Int × ((Int × Int) × (Int × (Int × (Int × (Int × (Int × (Bool × Int)))))))))))) =>
                      
                        Option.bind (idxN d161.2.2 (Int.toNat (Go.IntKind.wrap .i64 ((Go.IntKind.wrap .i64 (b262.2.1 * a.1.1)) + b262.2.2.1)))) fun (x290 : List ((Int × (Int × (Int × ((Int × Int) × (Int × (Int × (Int × (Int × (Int × (Bool × Int)))))))))))) =>
                          bif roomOk false x290.length 1 96 then
                            bif inB (Go.IntKind.wrap .i64 ((Go.IntKind.wrap .i64 (b262.2.1 * a.1.1)) + b262.2.2.1)) d161.2.2.length then
                              Option.bind (idxN d161.2.2 (Int.toNat (Go.IntKind.wrap .i64 ((Go.IntKind.wrap .i64 (b262.2.1 * a.1.1)) + b262.2.2.1)))) fun (x291 : List ((Int × (Int × (Int × ((Int × Int) × (Int × (Int × (Int × (Int × (Int × (Bool × Int)))))))))))) =>
                                bif Nat.beq (Int.toNat (Go.IntKind.wrap .i64 ((Go.IntKind.wrap .i64 (b262.2.1 * a.1.1)) + b262.2.2.1))) (Int.toNat (Go.IntKind.wrap .i64 ((Go.IntKind.wrap .i64 (b262.2.1 * a.1.1)) + b262.2.2.1))) then
                                  some ((), List.set d161.2.2 (Int.toNat (Go.IntKind.wrap .i64 ((Go.IntKind.wrap .i64 (b262.2.1 * a.1.1)) + b262.2.2.1))) (app x290 [b262]))
                                else
                                  none
                            else
                              none
                          else
                            none
                  else
                    none) fun (d311 : (Unit × List (List ((Int × (Int × (Int × ((Int × Int) × (Int × (Int × (Int × (Int × (Int × (Bool × Int)))))))))))))) =>
                  some ((), d311.2)
              else
                some ((), d161.2.2)
        else
          none) fun (d312 : (Unit × List (List ((Int × (Int × (Int × ((Int × Int) × (Int × (Int × (Int × (Int × (Int × (Bool × Int)))))))))))))) =>
      some (Sum.inl ((), ((Go.IntKind.wrap .i64 (d161.2.1 + (1 : Int))), d312.2)))
  else
    some (Sum.inr ((), d161.2.2))
noncomputable def r14_L0q (a : ((Int × (List ((Int × Int)) × Int)) × (List (List ((Int × (Int × (Int × ((Int × Int) × (Int × (Int × (Int × (Int × (Int × (Bool × Int)))))))))))) × List ((Int × (Int × (Int × ((Int × Int) × (Int × (Int × (Int × (Int × (Int × (Bool × Int)))))))))))))) : Int → Option (Int ⊕ (Unit ⊕ (Unit × Int))) := fun d2 =>
  bif decide (d2 < (↑a.2.2.length : Int)) then
    Option.bind (idxI a.2.2 d2) fun (b3 : (Int × (Int × (Int × ((Int × Int) × (Int × (Int × (Int × (Int × (Int × (Bool × Int))))))))))) =>
      Option.bind (r33 (a.1, b3)) fun (y4 : Int) =>
        bif !(decide (y4 = (0 : Int))) then
          some (Sum.inr (Sum.inr ((), y4)))
        else
          some (Sum.inl (Go.IntKind.wrap .i64 (d2 + (1 : Int))))
  else
    some (Sum.inr (Sum.inl ()))
theorem r14_L0e (a : ((Int × (List ((Int × Int)) × Int)) × (List (List ((Int × (Int × (Int × ((Int × Int) × (Int × (Int × (Int × (Int × (Int × (Bool × Int)))))))))))) × List ((Int × (Int × (Int × ((Int × Int) × (Int × (Int × (Int × (Int × (Int × (Bool × Int)))))))))))))) : r14_L0q a = r14_L0 a := by unfold r14_L0q r14_L0; simp only [sameR_self]
noncomputable def r14_L1q (a : ((Int × (List ((Int × Int)) × Int)) × (List (List ((Int × (Int × (Int × ((Int × Int) × (Int × (Int × (Int × (Int × (Int × (Bool × Int)))))))))))) × List ((Int × (Int × (Int × ((Int × Int) × (Int × (Int × (Int × (Int × (Int × (Bool × Int)))))))))))))) : (Unit × (Int × List (List ((Int × (Int × (Int × ((Int × Int) × (Int × (Int × (Int × (Int × (Int × (Bool × Int)))))))))))))) → Option ((Unit × (Int × List (List ((Int × (Int × (Int × ((Int × Int) × (Int × (Int × (Int × (Int × (Int × (Bool × Int)))))))))))))) ⊕ (Unit × List (List ((Int × (Int × (Int × ((Int × Int) × (Int × (Int × (Int × (Int × (Int × (Bool × Int)))))))))))))) := fun d161 =>
  bif decide (d161.2.1 < (↑a.2.2.length : Int)) then
    Option.bind (
      Option.bind (idxI a.2.2 d161.2.1) fun (b262 : (Int × (Int × (Int × ((Int × Int) × (Int × (Int × (Int × (Int × (Int × (Bool × Int))))))))))) =>
        bif inB (Go.IntKind.wrap .i64 ((Go.IntKind.wrap .i64 (b262.2.1 * a.1.1)) + b262.2.2.1)) d161.2.2.length then
          Option.bind (idxN d161.2.2 (Int.toNat (Go.IntKind.wrap .i64 ((Go.IntKind.wrap .i64 (b262.2.1 * a.1.1)) + b262.2.2.1)))) fun (x263 : List ((Int × (Int × (Int × ((Int × Int) × (Int × (Int × (Int × (Int × (Int × (Bool × Int)))))))))))) =>
            Option.bind (idxN d161.2.2 (Int.toNat (Go.IntKind.wrap .i64 ((Go.IntKind.wrap .i64 (b262.2.1 * a.1.1)) + b262.2.2.1)))) fun (x264 : List ((Int × (Int × (Int × ((Int × Int) × (Int × (Int × (Int × (Int × (Int × (Bool × Int)))))))))))) =>
              bif decide ((↑x264.length : Int) < (30 : Int)) then
                Option.bind (
                  bif inB (Go.IntKind.wrap .i64 ((Go.IntKind.wrap .i64 (b262.2.1 * a.1.1)) + b262.2.2.1)) d161.2.2.length then
                    Option.bind (idxN d161.2.2 (Int.toNat (Go.IntKind.wrap .i64 ((Go.IntKind.wrap .i64 (b262.2.1 * a.1.1)) + b262.2.2.1)))) fun (x289 : List ((Int × (Int × (Int × ((Int × Int) × (Int × (Int × (Int × (Int × (Int × (Bool × Int)))))))))))) =>
                      sameR (
                        Option.bind (idxN d161.2.2 (Int.toNat (Go.IntKind.wrap .i64 ((Go.IntKind.wrap .i64 (b262.2.1 * a.1.1)) + b262.2.2.1)))) fun (x290 : List ((Int × (Int × (Int × ((Int × Int) × (Int × (Int × (Int × (Int × (Int × (Bool × Int)))))))))))) =>
                          bif roomOk false x290.length 1 96 then
                            bif inB (Go.IntKind.wrap .i64 ((Go.IntKind.wrap .i64 (b262.2.1 * a.1.1)) + b262.2.2.1)) d161.2.2.length then
                              Option.bind (idxN d161.2.2 (Int.toNat (Go.IntKind.wrap .i64 ((Go.IntKind.wrap .i64 (b262.2.1 * a.1.1)) + b262.2.2.1)))) fun (x291 : List ((Int × (Int × (Int × ((Int × Int) × (Int × (Int × (Int × (Int × (Int × (Bool × Int)))))))))))) =>
                                bif Nat.beq (Int.toNat (Go.IntKind.wrap .i64 ((Go.IntKind.wrap .i64 (b262.2.1 * a.1.1)) + b262.2.2.1))) (Int.toNat (Go.IntKind.wrap .i64 ((Go.IntKind.wrap .i64 (b262.2.1 * a.1.1)) + b262.2.2.1))) then
                                  some ((), List.set d161.2.2 (Int.toNat (Go.IntKind.wrap .i64 ((Go.IntKind.wrap .i64 (b262.2.1 * a.1.1)) + b262.2.2.1))) (app x290 [b262]))
                                else
                                  none
                            else
                              none
                          else
                            none)
 (
                        sameR (
                          sameR (
                            Option.bind (idxN d161.2.2 (Int.toNat (Go.IntKind.wrap .i64 ((Go.IntKind.wrap .i64 (b262.2.1 * a.1.1)) + b262.2.2.1)))) fun (x292 : List ((Int × (Int × (Int × ((Int × Int) × (Int × (Int × (Int × (Int × (Int × (Bool × Int)))))))))))) =>
                              bif roomOk false x292.length 1 96 then
                                bif inB (Go.IntKind.wrap .i64 ((Go.IntKind.wrap .i64 (b262.2.1 * a.1.1)) + b262.2.2.1)) d161.2.2.length then
                                  Option.bind (idxN d161.2.2 (Int.toNat (Go.IntKind.wrap .i64 ((Go.IntKind.wrap .i64 (b262.2.1 * a.1.1)) + b262.2.2.1)))) fun (x293 : List ((Int × (Int × (Int × ((Int × Int) × (Int × (Int × (Int × (Int × (Int × (Bool × Int)))))))))))) =>
                                    bif Nat.beq (Int.toNat (Go.IntKind.wrap .i64 ((Go.IntKind.wrap .i64 (b262.2.1 * a.1.1)) + b262.2.2.1))) (Int.toNat (Go.IntKind.wrap .i64 ((Go.IntKind.wrap .i64 (b262.2.1 * a.1.1)) + b262.2.2.1))) then
                                      some ((), List.set d161.2.2 (Int.toNat (Go.IntKind.wrap .i64 ((Go.IntKind.wrap .i64 (b262.2.1 * a.1.1)) + b262.2.2.1))) (app x292 [b262]))
                                    else
                                      none
                                else
                                  none
                              else
                                none)
 (
                            Option.bind (idxN d161.2.2 (Int.toNat (Go.IntKind.wrap .i64 ((Go.IntKind.wrap .i64 (b262.2.1 * a.1.1)) + b262.2.2.1)))) fun (x294 : List ((Int × (Int × (Int × ((Int × Int) × (Int × (Int × (Int × (Int × (Int × (Bool × Int)))))))))))) =>
                              bif roomOk false x294.length 1 96 then
                                bif inB (Go.IntKind.wrap .i64 ((Go.IntKind.wrap .i64 (b262.2.1 * a.1.1)) + b262.2.2.1)) d161.2.2.length then
                                  Option.bind (idxN d161.2.2 (Int.toNat (Go.IntKind.wrap .i64 ((Go.IntKind.wrap .i64 (b262.2.1 * a.1.1)) + b262.2.2.1)))) fun (x295 : List ((Int × (Int × (Int × ((Int × Int) × (Int × (Int × (Int × (Int × (Int × (Bool × Int)))))))))))) =>
                                    bif Nat.beq (Int.toNat (Go.IntKind.wrap .i64 ((Go.IntKind.wrap .i64 (b262.2.1 * a.1.1)) + b262.2.2.1))) (Int.toNat (Go.IntKind.wrap .i64 ((Go.IntKind.wrap .i64 (b262.2.1 * a.1.1)) + b262.2.2.1))) then
                                      some ((), List.set d161.2.2 (Int.toNat (Go.IntKind.wrap .i64 ((Go.IntKind.wrap .i64 (b262.2.1 * a.1.1)) + b262.2.2.1))) (app x294 [b262]))
                                    else
                                      none
                                else
                                  none
                              else
                                none))
 (
                          sameR (
                            sameR (
                              Option.bind (idxN d161.2.2 (Int.toNat (Go.IntKind.wrap .i64 ((Go.IntKind.wrap .i64 (b262.2.1 * a.1.1)) + b262.2.2.1)))) fun (x296 : List ((Int × (Int × (Int × ((Int × Int) × (Int × (Int × (Int × (Int × (Int × (Bool × Int)))))))))))) =>
                                bif roomOk false x296.length 1 96 then
                                  bif inB (Go.IntKind.wrap .i64 ((Go.IntKind.wrap .i64 (b262.2.1 * a.1.1)) + b262.2.2.1)) d161.2.2.length then
                                    Option.bind (idxN d161.2.2 (Int.toNat (Go.IntKind.wrap .i64 ((Go.IntKind.wrap .i64 (b262.2.1 * a.1.1)) + b262.2.2.1)))) fun (x297 : List ((Int × (Int × (Int × ((Int × Int) × (Int × (Int × (Int × (Int × (Int × (Bool × Int)))))))))))) =>
                                      bif Nat.beq (Int.toNat (Go.IntKind.wrap .i64 ((Go.IntKind.wrap .i64 (b262.2.1 * a.1.1)) + b262.2.2.1))) (Int.toNat (Go.IntKind.wrap .i64 ((Go.IntKind.wrap .i64 (b262.2.1 * a.1.1)) + b262.2.2.1))) then
                                        some ((), List.set d161.2.2 (Int.toNat (Go.IntKind.wrap .i64 ((Go.IntKind.wrap .i64 (b262.2.1 * a.1.1)) + b262.2.2.1))) (app x296 [b262]))
                                      else
                                        none
                                  else
                                    none
                                else
                                  none)
 (
                              Option.bind (idxN d161.2.2 (Int.toNat (Go.IntKind.wrap .i64 ((Go.IntKind.wrap .i64 (b262.2.1 * a.1.1)) + b262.2.2.1)))) fun (x298 : List ((Int × (Int × (Int × ((Int × Int) × (Int × (Int × (Int × (Int × (Int × (Bool × Int)))))))))))) =>
                                bif roomOk false x298.length 1 96 then
                                  bif inB (Go.IntKind.wrap .i64 ((Go.IntKind.wrap .i64 (b262.2.1 * a.1.1)) + b262.2.2.1)) d161.2.2.length then
                                    Option.bind (idxN d161.2.2 (Int.toNat (Go.IntKind.wrap .i64 ((Go.IntKind.wrap .i64 (b262.2.1 * a.1.1)) + b262.2.2.1)))) fun (x299 : List ((Int × (Int × (Int × ((Int × Int) × (Int × (Int × (Int × (Int × (Int × (Bool × Int)))))))))))) =>
                                      bif Nat.beq (Int.toNat (Go.IntKind.wrap .i64 ((Go.IntKind.wrap .i64 (b262.2.1 * a.1.1)) + b262.2.2.1))) (Int.toNat (Go.IntKind.wrap .i64 ((Go.IntKind.wrap .i64 (b262.2.1 * a.1.1)) + b262.2.2.1))) then
                                        some ((), List.set d161.2.2 (Int.toNat (Go.IntKind.wrap .i64 ((Go.IntKind.wrap .i64 (b262.2.1 * a.1.1)) + b262.2.2.1))) (app x298 [b262]))
                                      else
                                        none
                                  else
                                    none
                                else
                                  none))
 (
                            sameR (
                              sameR (
                                Option.bind (idxN d161.2.2 (Int.toNat (Go.IntKind.wrap .i64 ((Go.IntKind.wrap .i64 (b262.2.1 * a.1.1)) + b262.2.2.1)))) fun (x300 : List ((Int × (Int × (Int × ((Int × Int) × (Int × (Int × (Int × (Int × (Int × (Bool × Int)))))))))))) =>
                                  bif roomOk false x300.length 1 96 then
                                    bif inB (Go.IntKind.wrap .i64 ((Go.IntKind.wrap .i64 (b262.2.1 * a.1.1)) + b262.2.2.1)) d161.2.2.length then
                                      Option.bind (idxN d161.2.2 (Int.toNat (Go.IntKind.wrap .i64 ((Go.IntKind.wrap .i64 (b262.2.1 * a.1.1)) + b262.2.2.1)))) fun (x301 : List ((Int × (Int × (Int × ((Int × Int) × (Int × (Int × (Int × (Int × (Int × (Bool × Int)))))))))))) =>
                                        bif Nat.beq (Int.toNat (Go.IntKind.wrap .i64 ((Go.IntKind.wrap .i64 (b262.2.1 * a.1.1)) + b262.2.2.1))) (Int.toNat (Go.IntKind.wrap .i64 ((Go.IntKind.wrap .i64 (b262.2.1 * a.1.1)) + b262.2.2.1))) then
                                          some ((), List.set d161.2.2 (Int.toNat (Go.IntKind.wrap .i64 ((Go.IntKind.wrap .i64 (b262.2.1 * a.1.1)) + b262.2.2.1))) (app x300 [b262]))
                                        else
                                          none
                                    else
                                      none
                                  else
                                    none)
 (
                                Option.bind (idxN d161.2.2 (Int.toNat (Go.IntKind.wrap .i64 ((Go.IntKind.wrap .i64 (b262.2.1 * a.1.1)) + b262.2.2.1)))) fun (x302 : List ((Int × (Int × (Int × ((Int × Int) × (Int × (Int × (Int × (Int × (Int × (Bool × Int)))))))))))) =>
                                  bif roomOk false x302.length 1 96 then
                                    bif inB (Go.IntKind.wrap .i64 ((Go.IntKind.wrap .i64 (b262.2.1 * a.1.1)) + b262.2.2.1)) d161.2.2.length then
                                      Option.bind (idxN d161.2.2 (Int.toNat (Go.IntKind.wrap .i64 ((Go.IntKind.wrap .i64 (b262.2.1 * a.1.1)) + b262.2.2.1)))) fun (x303 : List ((Int × (Int × (Int × ((Int × Int) × (Int × (Int × (Int × (Int × (Int × (Bool × Int)))))))))))) =>
                                        bif Nat.beq (Int.toNat (Go.IntKind.wrap .i64 ((Go.IntKind.wrap .i64 (b262.2.1 * a.1.1)) + b262.2.2.1))) (Int.toNat (Go.IntKind.wrap .i64 ((Go.IntKind.wrap .i64 (b262.2.1 * a.1.1)) + b262.2.2.1))) then
                                          some ((), List.set d161.2.2 (Int.toNat (Go.IntKind.wrap .i64 ((Go.IntKind.wrap .i64 (b262.2.1 * a.1.1)) + b262.2.2.1))) (app x302 [b262]))
                                        else
                                          none
                                    else
                                      none
                                  else
                                    none))
 (
                              sameR (
                                sameR (
                                  Option.bind (idxN d161.2.2 (Int.toNat (Go.IntKind.wrap .i64 ((Go.IntKind.wrap .i64 (b262.2.1 * a.1.1)) + b262.2.2.1)))) fun (x304 : List ((Int × (Int × (Int × ((Int × Int) × (Int × (Int × (Int × (Int × (Int × (Bool × Int)))))))))))) =>
                                    bif roomOk false x304.length 1 96 then
                                      bif inB (Go.IntKind.wrap .i64 ((Go.IntKind.wrap .i64 (b262.2.1 * a.1.1)) + b262.2.2.1)) d161.2.2.length then
                                        Option.bind (idxN d161.2.2 (Int.toNat (Go.IntKind.wrap .i64 ((Go.IntKind.wrap .i64 (b262.2.1 * a.1.1)) + b262.2.2.1)))) fun (x305 : List ((Int × (Int × (Int × ((Int × Int) × (Int × (Int × (Int × (Int × (Int × (Bool × Int)))))))))))) =>
                                          bif Nat.beq (Int.toNat (Go.IntKind.wrap .i64 ((Go.IntKind.wrap .i64 (b262.2.1 * a.1.1)) + b262.2.2.1))) (Int.toNat (Go.IntKind.wrap .i64 ((Go.IntKind.wrap .i64 (b262.2.1 * a.1.1)) + b262.2.2.1))) then
                                            some ((), List.set d161.2.2 (Int.toNat (Go.IntKind.wrap .i64 ((Go.IntKind.wrap .i64 (b262.2.1 * a.1.1)) + b262.2.2.1))) (app x304 [b262]))
                                          else
                                            none
                                      else
                                        none
                                    else
                                      none)
 (
                                  Option.bind (idxN d161.2.2 (Int.toNat (Go.IntKind.wrap .i64 ((Go.IntKind.wrap .i64 (b262.2.1 * a.1.1)) + b262.2.2.1)))) fun (x306 : List ((Int × (Int × (Int × ((Int × Int) × (Int × (Int × (Int × (Int × (Int × (Bool × Int)))))))))))) =>
                                    bif roomOk false x306.length 1 96 then
                                      bif inB (Go.IntKind.wrap .i64 ((Go.IntKind.wrap .i64 (b262.2.1 * a.1.1)) + b262.2.2.1)) d161.2.2.length then
                                        Option.bind (idxN d161.2.2 (Int.toNat (Go.IntKind.wrap .i64 ((Go.IntKind.wrap .i64 (b262.2.1 * a.1.1)) + b262.2.2.1)))) fun (x307 : List ((Int × (Int × (Int × ((Int × Int) × (Int × (Int × (Int × (Int × (Int × (Bool × Int)))))))))))) =>
                                          bif Nat.beq (Int.toNat (Go.IntKind.wrap .i64 ((Go.IntKind.wrap .i64 (b262.2.1 * a.1.1)) + b262.2.2.1))) (Int.toNat (Go.IntKind.wrap .i64 ((Go.IntKind.wrap .i64 (b262.2.1 * a.1.1)) + b262.2.2.1))) then
                                            some ((), List.set d161.2.2 (Int.toNat (Go.IntKind.wrap .i64 ((Go.IntKind.wrap .i64 (b262.2.1 * a.1.1)) + b262.2.2.1))) (app x306 [b262]))
                                          else
                                            none
                                      else
                                        none
                                    else
                                      none))
 (
                                Option.bind (idxN d161.2.2 (Int.toNat (Go.IntKind.wrap .i64 ((Go.IntKind.wrap .i64 (b262.2.1 * a.1.1)) + b262.2.2.1)))) fun (x308 : List ((Int × (Int × (Int × ((Int × Int) × (Int × (Int × (Int × (Int × (Int × (Bool × Int)))))))))))) =>
                                  bif roomOk false x308.length 1 96 then
                                    sameR (
                                      bif inB (Go.IntKind.wrap .i64 ((Go.IntKind.wrap .i64 (b262.2.1 * a.1.1)) + b262.2.2.1)) d161.2.2.length then
                                        Option.bind (idxN d161.2.2 (Int.toNat (Go.IntKind.wrap .i64 ((Go.IntKind.wrap .i64 (b262.2.1 * a.1.1)) + b262.2.2.1)))) fun (x309 : List ((Int × (Int × (Int × ((Int × Int) × (Int × (Int × (Int × (Int × (Int × (Bool × Int)))))))))))) =>
                                          bif Nat.beq (Int.toNat (Go.IntKind.wrap .i64 ((Go.IntKind.wrap .i64 (b262.2.1 * a.1.1)) + b262.2.2.1))) (Int.toNat (Go.IntKind.wrap .i64 ((Go.IntKind.wrap .i64 (b262.2.1 * a.1.1)) + b262.2.2.1))) then
                                            some ((), List.set d161.2.2 (Int.toNat (Go.IntKind.wrap .i64 ((Go.IntKind.wrap .i64 (b262.2.1 * a.1.1)) + b262.2.2.1))) (app x308 [b262]))
                                          else
                                            none
                                      else
                                        none)
 (
                                      bif inB (Go.IntKind.wrap .i64 ((Go.IntKind.wrap .i64 (b262.2.1 * a.1.1)) + b262.2.2.1)) d161.2.2.length then
                                        Option.bind (idxN d161.2.2 (Int.toNat (Go.IntKind.wrap .i64 ((Go.IntKind.wrap .i64 (b262.2.1 * a.1.1)) + b262.2.2.1)))) fun (x310 : List ((Int × (Int × (Int × ((Int × Int) × (Int × (Int × (Int × (Int × (Int × (Bool × Int)))))))))))) =>
                                          bif Nat.beq (Int.toNat (Go.IntKind.wrap .i64 ((Go.IntKind.wrap .i64 (b262.2.1 * a.1.1)) + b262.2.2.1))) (Int.toNat (Go.IntKind.wrap .i64 ((Go.IntKind.wrap .i64 (b262.2.1 * a.1.1)) + b262.2.2.1))) then
                                            some ((), List.set d161.2.2 (Int.toNat (Go.IntKind.wrap .i64 ((Go.IntKind.wrap .i64 (b262.2.1 * a.1.1)) + b262.2.2.1))) (app x308 [b262]))
                                          else
                                            none
                                      else
                                        none)
                                  else
                                    none)))))
                  else
                    none) fun (d311 : (Unit × List (List ((Int × (Int × (Int × ((Int × Int) × (Int × (Int × (Int × (Int × (Int × (Bool × Int)))))))))))))) =>
                  some ((), d311.2)
              else
                some ((), d161.2.2)
        else
          none) fun (d312 : (Unit × List (List ((Int × (Int × (Int × ((Int × Int) × (Int × (Int × (Int × (Int × (Int × (Bool × Int)))))))))))))) =>
      some (Sum.inl ((), ((Go.IntKind.wrap .i64 (d161.2.1 + (1 : Int))), d312.2)))
  else
    some (Sum.inr ((), d161.2.2))
theorem r14_L1e (a : ((Int × (List ((Int × Int)) × Int)) × (List (List ((Int × (Int × (Int × ((Int × Int) × (Int × (Int × (Int × (Int × (Int × (Bool × Int)))))))))))) × List ((Int × (Int × (Int × ((Int × Int) × (Int × (Int × (Int × (Int × (Int × (Bool × Int)))))))))))))) : r14_L1q a = r14_L1 a := by unfold r14_L1q r14_L1; simp only [sameR_self, r14_L0e]
def sg14 : Sig := ⟨[⟨true, .bo, (.pair (.int .i64) (.pair (.sl (.pair (.int .i64) (.int .i64))) (.int .i64)))⟩, ⟨false, .bo, (.sl (.sl (.pair (.int .i64) (.pair (.int .i64) (.pair (.int .i64) (.pair (.pair (.int .i64) (.int .i64)) (.pair (.int .i64) (.pair (.int .i64) (.pair (.int .i64) (.pair (.int .i64) (.pair (.int .i64) (.pair .bool (.int .i64)))))))))))))⟩, ⟨false, .bo, (.sl (.pair (.int .i64) (.pair (.int .i64) (.pair (.int .i64) (.pair (.pair (.int .i64) (.int .i64)) (.pair (.int .i64) (.pair (.int .i64) (.pair (.int .i64) (.pair (.int .i64) (.pair (.int .i64) (.pair .bool (.int .i64))))))))))))⟩], [⟨false, .own, (.sl (.sl (.pair (.int .i64) (.pair (.int .i64) (.pair (.int .i64) (.pair (.pair (.int .i64) (.int .i64)) (.pair (.int .i64) (.pair (.int .i64) (.pair (.int .i64) (.pair (.int .i64) (.pair (.int .i64) (.pair .bool (.int .i64)))))))))))))⟩, ⟨false, .own, (.int .i64)⟩]⟩
noncomputable def r14 (a : ((Int × (List ((Int × Int)) × Int)) × (List (List ((Int × (Int × (Int × ((Int × Int) × (Int × (Int × (Int × (Int × (Int × (Bool × Int)))))))))))) × List ((Int × (Int × (Int × ((Int × Int) × (Int × (Int × (Int × (Int × (Int × (Bool × Int)))))))))))))) : Option (List (List ((Int × (Int × (Int × ((Int × Int) × (Int × (Int × (Int × (Int × (Int × (Bool × Int)))))))))))) × Int) :=
  Option.bind (r16 (a.1, a.2.1)) fun (y1 : Int) =>
    bif !(decide (y1 = (0 : Int))) then
      some ([], y1)
    else
      Option.bind (loopR (r14_L0 a) (0 : Int)) fun (q5 : (Unit ⊕ (Unit × Int))) =>
        Sum.elim (fun (v6 : Unit) =>
            Option.bind (r34 a.2.1) fun (y8 : List (List ((Int × (Int × (Int × ((Int × Int) × (Int × (Int × (Int × (Int × (Int × (Bool × Int))))))))))))) =>
              Option.bind (loopR (r14_L1 a) ((), ((0 : Int), y8))) fun (q313 : (Unit × List (List ((Int × (Int × (Int × ((Int × Int) × (Int × (Int × (Int × (Int × (Int × (Bool × Int)))))))))))))) =>
                some (q313.2, (0 : Int)))
          (fun (v7 : (Unit × Int)) =>
            some ([], v7.2)) q5
noncomputable def r14q : ((Int × (List ((Int × Int)) × Int)) × (List (List ((Int × (Int × (Int × ((Int × Int) × (Int × (Int × (Int × (Int × (Int × (Bool × Int)))))))))))) × List ((Int × (Int × (Int × ((Int × Int) × (Int × (Int × (Int × (Int × (Int × (Bool × Int))))))))))))) → Option (List (List ((Int × (Int × (Int × ((Int × Int) × (Int × (Int × (Int × (Int × (Int × (Bool × Int)))))))))))) × Int) := fun a =>
  Option.bind (r16 (a.1, a.2.1)) fun (y1 : Int) =>
    bif !(decide (y1 = (0 : Int))) then
      some ([], y1)
    else
      Option.bind (loopR (r14_L0q a) (0 : Int)) fun (q5 : (Unit ⊕ (Unit × Int))) =>
        Sum.elim (fun (v6 : Unit) =>
            Option.bind (r34 a.2.1) fun (y8 : List (List ((Int × (Int × (Int × ((Int × Int) × (Int × (Int × (Int × (Int × (Int × (Bool × Int))))))))))))) =>
              Option.bind (loopR (r14_L1q a) ((), ((0 : Int), y8))) fun (q313 : (Unit × List (List ((Int × (Int × (Int × ((Int × Int) × (Int × (Int × (Int × (Int × (Int × (Bool × Int)))))))))))))) =>
                some (q313.2, (0 : Int)))
          (fun (v7 : (Unit × Int)) =>
            some ([], v7.2)) q5
theorem r14e : r14q = r14 := by unfold r14q r14; simp only [sameR_self, r14_L0e, r14_L1e]
def an14 : Ann := .two (.leaf) (.two (.two (.leaf) (.two (.leaf) (.two (.two (.leaf) (.leaf)) (.leaf)))) (.two (.two (.leaf) (.one (.loop [1, 2, 3, 22, 23] [3] [] [.tmp 24 (.int .i64)] [⟨.exit 0, [], []⟩, ⟨.ret, [], [.tmp 6 (.nil), .tmp 7 (.int .i64)]⟩] (.two (.leaf) (.two (.two (.leaf) (.leaf)) (.two (.one (.two (.leaf) (.two (.leaf) (.two (.leaf) (.two (.two (.leaf) (.leaf)) (.leaf)))))) (.leaf))))))) (.two (.leaf) (.two (.two (.leaf) (.one (.loop [3, 37, 38] [3] [] [.tmp 12 (.own 36 [(0, 0)] (.sl (.pair (.int .i64) (.pair (.int .i64) (.pair (.int .i64) (.pair (.pair (.int .i64) (.int .i64)) (.pair (.int .i64) (.pair (.int .i64) (.pair (.int .i64) (.pair (.int .i64) (.pair (.int .i64) (.pair .bool (.int .i64))))))))))))), .tmp 39 (.int .i64), .row 36 [.sl .own (.sl (.pair (.int .i64) (.pair (.int .i64) (.pair (.int .i64) (.pair (.pair (.int .i64) (.int .i64)) (.pair (.int .i64) (.pair (.int .i64) (.pair (.int .i64) (.pair (.int .i64) (.pair (.int .i64) (.pair .bool (.int .i64))))))))))))]] [⟨.exit 2, [], [.tmp 12 (.own 36 [(0, 0)] (.sl (.pair (.int .i64) (.pair (.int .i64) (.pair (.int .i64) (.pair (.pair (.int .i64) (.int .i64)) (.pair (.int .i64) (.pair (.int .i64) (.pair (.int .i64) (.pair (.int .i64) (.pair (.int .i64) (.pair .bool (.int .i64))))))))))))), .row 36 [.sl .own (.sl (.pair (.int .i64) (.pair (.int .i64) (.pair (.int .i64) (.pair (.pair (.int .i64) (.int .i64)) (.pair (.int .i64) (.pair (.int .i64) (.pair (.int .i64) (.pair (.int .i64) (.pair (.int .i64) (.pair .bool (.int .i64))))))))))))]]⟩] (.two (.leaf) (.two (.two (.leaf) (.leaf)) (.two (.join [3, 37, 38, 39] [3] [⟨.normal, [], [.tmp 12 (.own 36 [(0, 0)] (.sl (.pair (.int .i64) (.pair (.int .i64) (.pair (.int .i64) (.pair (.pair (.int .i64) (.int .i64)) (.pair (.int .i64) (.pair (.int .i64) (.pair (.int .i64) (.pair (.int .i64) (.pair (.int .i64) (.pair .bool (.int .i64))))))))))))), .row 36 [.sl .own (.sl (.pair (.int .i64) (.pair (.int .i64) (.pair (.int .i64) (.pair (.pair (.int .i64) (.int .i64)) (.pair (.int .i64) (.pair (.int .i64) (.pair (.int .i64) (.pair (.int .i64) (.pair (.int .i64) (.pair .bool (.int .i64))))))))))))]]⟩] (.one (.two (.leaf) (.two (.leaf) (.two (.leaf) (.two (.join [3, 37, 38, 39] [3] [⟨.normal, [], [.tmp 12 (.own 36 [(0, 0)] (.sl (.pair (.int .i64) (.pair (.int .i64) (.pair (.int .i64) (.pair (.pair (.int .i64) (.int .i64)) (.pair (.int .i64) (.pair (.int .i64) (.pair (.int .i64) (.pair (.int .i64) (.pair (.int .i64) (.pair .bool (.int .i64))))))))))))), .row 36 [.sl .own (.sl (.pair (.int .i64) (.pair (.int .i64) (.pair (.int .i64) (.pair (.pair (.int .i64) (.int .i64)) (.pair (.int .i64) (.pair (.int .i64) (.pair (.int .i64) (.pair (.int .i64) (.pair (.int .i64) (.pair .bool (.int .i64))))))))))))]]⟩] (.drawT [0, 1, 2, 3, 4, 5, 6, 7] [0, 1])) (.leaf))))))) (.leaf))))))) (.two (.leaf) (.leaf))))))
theorem s14 : SoundF cx.P cx.G 14 sg14 r14 := by
  have e : denF cx [(16, ⟨sg16, r16⟩), (33, ⟨sg33, r33⟩), (34, ⟨sg34, r34⟩)] an14 Tryd.f14.ntmps (Tryd.f14.body.getD .skip) Tryd.f14.results.toList sg14 = r14q := by kernel_rfl
  rw [← r14e, ← e]
  exact sound_of_den (c := cx) (Known.cons (.ofF s16 (by kernel_rfl)) Tryd.func16 (by kernel_rfl) (by kernel_rfl) (Known.cons (.ofF s33 (by kernel_rfl)) Tryd.func33 (by kernel_rfl) (by kernel_rfl) (Known.cons (.ofF s34 (by kernel_rfl)) Tryd.func34 (by kernel_rfl) (by kernel_rfl) (Known.nil)))) Tryd.func14 (by kernel_rfl) (Nat.le_of_ble_eq_true (by kernel_rfl)) rfl

/-! reredos/reredoskeep.count -/
noncomputable def r15_L0 (a : List (List ((Int × (Int × (Int × ((Int × Int) × (Int × (Int × (Int × (Int × (Int × (Bool × Int))))))))))))) (d1 : (Int × Int)) : Option ((Int × Int) ⊕ Int) :=
  bif decide (d1.2 < (↑a.length : Int)) then
    Option.bind (idxI a d1.2) fun (b2 : List ((Int × (Int × (Int × ((Int × Int) × (Int × (Int × (Int × (Int × (Int × (Bool × Int)))))))))))) =>
      some (Sum.inl ((Go.IntKind.wrap .i64 (d1.1 + (↑b2.length : Int))), (Go.IntKind.wrap .i64 (d1.2 + (1 : Int)))))
  else
    some (Sum.inr d1.1)
def sg15 : Sig := ⟨[⟨false, .bo, (.sl (.sl (.pair (.int .i64) (.pair (.int .i64) (.pair (.int .i64) (.pair (.pair (.int .i64) (.int .i64)) (.pair (.int .i64) (.pair (.int .i64) (.pair (.int .i64) (.pair (.int .i64) (.pair (.int .i64) (.pair .bool (.int .i64)))))))))))))⟩], [⟨false, .own, (.int .i64)⟩]⟩
noncomputable def r15 (a : List (List ((Int × (Int × (Int × ((Int × Int) × (Int × (Int × (Int × (Int × (Int × (Bool × Int))))))))))))) : Option Int :=
  Option.bind (loopR (r15_L0 a) ((0 : Int), (0 : Int))) fun (q3 : Int) =>
    some q3
def an15 : Ann := .two (.leaf) (.two (.leaf) (.two (.two (.leaf) (.one (.loop [6, 7] [] [] [.tmp 3 (.int .i64), .tmp 8 (.int .i64)] [⟨.exit 0, [], [.tmp 3 (.int .i64)]⟩] (.two (.leaf) (.two (.two (.leaf) (.leaf)) (.two (.one (.two (.leaf) (.leaf))) (.leaf))))))) (.two (.leaf) (.leaf))))
theorem s15 : SoundF cx.P cx.G 15 sg15 r15 := by
  have e : denF cx [] an15 Tryd.f15.ntmps (Tryd.f15.body.getD .skip) Tryd.f15.results.toList sg15 = r15 := by kernel_rfl
  rw [← e]
  exact sound_of_den (c := cx) (Known.nil) Tryd.func15 (by kernel_rfl) (Nat.le_of_ble_eq_true (by kernel_rfl)) rfl

/-! reredos/reredoskeep.SendAll -/
noncomputable def r3_L0 (y2 : List ((Int × (Int × (Int × ((Int × Int) × (Int × (Int × (Int × (Int × (Int × (Bool × Int)))))))))))) (y1 : (Int × (List ((Int × Int)) × Int))) (d21 : Int) (y4 : (List (List ((Int × (Int × (Int × ((Int × Int) × (Int × (Int × (Int × (Int × (Int × (Bool × Int)))))))))))) × Int)) (d23 : (Int × Int)) : Option ((Int × Int) ⊕ (Unit ⊕ Bool)) :=
  bif decide (d23.2 < (↑y2.length : Int)) then
    Option.bind (
      bif inB d23.2 y2.length then
        Option.bind (idxN y2 (Int.toNat d23.2)) fun (x38 : (Int × (Int × (Int × ((Int × Int) × (Int × (Int × (Int × (Int × (Int × (Bool × Int))))))))))) =>
          bif decide ((Go.IntKind.wrap .i64 ((Go.IntKind.wrap .i64 (x38.2.1 * y1.1)) + x38.2.2.1)) = d21) then
            Option.bind (idxN y4.1 (Int.toNat d21)) fun (x42 : List ((Int × (Int × (Int × ((Int × Int) × (Int × (Int × (Int × (Int × (Int × (Bool × Int)))))))))))) =>
              bif inB d23.1 x42.length then
                Option.bind (idxN y4.1 (Int.toNat d21)) fun (x43 : List ((Int × (Int × (Int × ((Int × Int) × (Int × (Int × (Int × (Int × (Int × (Bool × Int)))))))))))) =>
                  Option.bind (idxN x43 (Int.toNat d23.1)) fun (x44 : (Int × (Int × (Int × ((Int × Int) × (Int × (Int × (Int × (Int × (Int × (Bool × Int))))))))))) =>
                    bif !((decide (x44.1 = x38.1) && (decide (x44.2.1 = x38.2.1) && (decide (x44.2.2.1 = x38.2.2.1) && ((decide (x44.2.2.2.1.1 = x38.2.2.2.1.1) && (decide (x44.2.2.2.1.2 = x38.2.2.2.1.2) && true)) && (decide (x44.2.2.2.2.1 = x38.2.2.2.2.1) && (decide (x44.2.2.2.2.2.1 = x38.2.2.2.2.2.1) && (decide (x44.2.2.2.2.2.2.1 = x38.2.2.2.2.2.2.1) && (decide (x44.2.2.2.2.2.2.2.1 = x38.2.2.2.2.2.2.2.1) && (decide (x44.2.2.2.2.2.2.2.2.1 = x38.2.2.2.2.2.2.2.2.1) && (decide (x44.2.2.2.2.2.2.2.2.2.1 = x38.2.2.2.2.2.2.2.2.2.1) && (decide (x44.2.2.2.2.2.2.2.2.2.2 = x38.2.2.2.2.2.2.2.2.2.2) && true)))))))))))) then
                      some (Sum.inr false)
                    else
                      some (Sum.inl (Go.IntKind.wrap .i64 (d23.1 + (1 : Int))))
              else
                none
          else
            some (Sum.inl d23.1)
      else
        none) fun (d45 : (Int ⊕ Bool)) =>
      Sum.elim (fun (v46 : Int) =>
          some (Sum.inl (v46, (Go.IntKind.wrap .i64 (d23.2 + (1 : Int))))))
        (fun (v47 : Bool) =>
          some (Sum.inr (Sum.inr v47))) d45
  else
    some (Sum.inr (Sum.inl ()))
noncomputable def r3_L1 (y4 : (List (List ((Int × (Int × (Int × ((Int × Int) × (Int × (Int × (Int × (Int × (Int × (Bool × Int)))))))))))) × Int)) (y2 : List ((Int × (Int × (Int × ((Int × Int) × (Int × (Int × (Int × (Int × (Int × (Bool × Int)))))))))))) (y1 : (Int × (List ((Int × Int)) × Int))) (d21 : Int) : Option (Int ⊕ (Unit ⊕ Bool)) :=
  bif decide (d21 < (↑y4.1.length : Int)) then
    bif inB d21 y4.1.length then
      Option.bind (idxN y4.1 (Int.toNat d21)) fun (x22 : List ((Int × (Int × (Int × ((Int × Int) × (Int × (Int × (Int × (Int × (Int × (Bool × Int)))))))))))) =>
        Option.bind (loopR (r3_L0 y2 y1 d21 y4) ((0 : Int), (0 : Int))) fun (q48 : (Unit ⊕ Bool)) =>
          Sum.elim (fun (v49 : Unit) =>
              some (Sum.inl (Go.IntKind.wrap .i64 (d21 + (1 : Int)))))
            (fun (v50 : Bool) =>
              some (Sum.inr (Sum.inr v50))) q48
    else
      none
  else
    some (Sum.inr (Sum.inl ()))
def sg3 : Sig := ⟨[⟨false, .bo, (.int .i64)⟩, ⟨false, .bo, (.sl (.int .i64))⟩, ⟨false, .bo, (.sl (.pair (.int .i64) (.pair (.int .i64) (.pair (.int .i64) (.pair (.int .i64) (.pair (.int .i64) (.int .i64)))))))⟩], [⟨false, .own, .bool⟩]⟩
noncomputable def r3 (a : (Int × (List Int × List ((Int × (Int × (Int × (Int × (Int × Int))))))))) : Option Bool :=
  Option.bind (r11 (a.1, a.2.1, (1 : Int))) fun (y1 : (Int × (List ((Int × Int)) × Int))) =>
    Option.bind (r12 (y1, a.2.2, (25 : Int))) fun (y2 : List ((Int × (Int × (Int × ((Int × Int) × (Int × (Int × (Int × (Int × (Int × (Bool × Int)))))))))))) =>
      Option.bind (r13 y1) fun (y3 : (List (List ((Int × (Int × (Int × ((Int × Int) × (Int × (Int × (Int × (Int × (Int × (Bool × Int)))))))))))) × Int)) =>
        Option.bind (r14 (y1, y3.1, y2)) fun (y4 : (List (List ((Int × (Int × (Int × ((Int × Int) × (Int × (Int × (Int × (Int × (Int × (Bool × Int)))))))))))) × Int)) =>
          Option.bind (
            Option.bind (
              bif !(!(decide (y3.2 = (0 : Int)))) then
                some (!(decide (y4.2 = (0 : Int))))
              else
                some true) fun (g15 : Bool) =>
              Option.bind (
                bif !(g15) then
                  some (!(decide ((↑y4.1.length : Int) = (Go.IntKind.wrap .i64 (y1.1 * y1.1)))))
                else
                  some true) fun (g16 : Bool) =>
                Option.bind (
                  bif !(g16) then
                    Option.bind (r15 y4.1) fun (y17 : Int) =>
                      some (!(decide (y17 = (↑y2.length : Int))))
                  else
                    some true) fun (g18 : Bool) =>
                  bif !(g18) then
                    Option.bind (r16 (y1, y4.1)) fun (y19 : Int) =>
                      some (!(decide (y19 = (0 : Int))))
                  else
                    some true) fun (d20 : Bool) =>
            bif d20 then
              some false
            else
              Option.bind (loopR (r3_L1 y4 y2 y1) (0 : Int)) fun (q51 : (Unit ⊕ Bool)) =>
                Sum.elim (fun (v52 : Unit) =>
                    some true)
                  (fun (v53 : Bool) =>
                    some v53) q51
def an3 : Ann := .two (.leaf) (.two (.leaf) (.two (.leaf) (.two (.leaf) (.two (.leaf) (.two (.two (.join [7, 8, 9] [7, 22, 32] [⟨.normal, [], [.tmp 63 (.bool)]⟩] (.segs [(6, ([7, 8, 9], ([7, 22, 32], [.tmp 40 (.bool)]))), (10, ([7, 8, 9], ([7, 22, 32], [.tmp 50 (.bool)]))), (7, ([7, 8, 9], ([7, 22, 32], [.tmp 57 (.bool)])))])) (.two (.two (.leaf) (.leaf)) (.leaf))) (.two (.two (.leaf) (.one (.loop [7, 8, 64, 65] [7, 22, 32] [] [.tmp 66 (.int .i64)] [⟨.exit 0, [], []⟩, ⟨.ret, [], [.tmp 6 (.bool)]⟩] (.two (.leaf) (.two (.two (.leaf) (.leaf)) (.two (.one (.two (.leaf) (.two (.leaf) (.two (.leaf) (.one (.loop [7, 8, 12, 13, 64, 65, 66, 71, 72] [7, 22, 32] [] [.tmp 14 (.int .i64), .tmp 73 (.int .i64)] [⟨.exit 2, [], []⟩, ⟨.ret, [], [.tmp 6 (.bool)]⟩] (.two (.leaf) (.two (.two (.leaf) (.leaf)) (.two (.join [7, 8, 12, 13, 64, 65, 66, 71, 72, 73] [7, 22, 32] [⟨.normal, [], [.tmp 14 (.int .i64)]⟩, ⟨.ret, [], [.tmp 6 (.bool)]⟩] (.one (.two (.leaf) (.two (.leaf) (.two (.two (.two (.draw 5) (.two (.two (.leaf) (.leaf)) (.leaf))) (.leaf)) (.leaf)))))) (.leaf)))))))))) (.leaf))))))) (.two (.leaf) (.leaf))))))))
theorem s3 : SoundF cx.P cx.G 3 sg3 r3 := by
  have e : denF cx [(11, ⟨sg11, r11⟩), (12, ⟨sg12, r12⟩), (13, ⟨sg13, r13⟩), (14, ⟨sg14, r14⟩), (15, ⟨sg15, r15⟩), (16, ⟨sg16, r16⟩)] an3 Tryd.f3.ntmps (Tryd.f3.body.getD .skip) Tryd.f3.results.toList sg3 = r3 := by kernel_rfl
  rw [← e]
  exact sound_of_den (c := cx) (Known.cons (.ofF s11 (by kernel_rfl)) Tryd.func11 (by kernel_rfl) (by kernel_rfl) (Known.cons (.ofF s12 (by kernel_rfl)) Tryd.func12 (by kernel_rfl) (by kernel_rfl) (Known.cons (.ofF s13 (by kernel_rfl)) Tryd.func13 (by kernel_rfl) (by kernel_rfl) (Known.cons (.ofF s14 (by kernel_rfl)) Tryd.func14 (by kernel_rfl) (by kernel_rfl) (Known.cons (.ofF s15 (by kernel_rfl)) Tryd.func15 (by kernel_rfl) (by kernel_rfl) (Known.cons (.ofF s16 (by kernel_rfl)) Tryd.func16 (by kernel_rfl) (by kernel_rfl) (Known.nil))))))) Tryd.func3 (by kernel_rfl) (Nat.le_of_ble_eq_true (by kernel_rfl)) rfl

/-! slices.Delete[[]reredos/api.Message,reredos/api.Message] -/
set_option maxRecDepth 20000 in
theorem del36 {ei ti : TyInfo} {e : TypeId} (hi : TyOk1 Tryd.prog 28 ti) (hd : ti.d = .sl e) (hei : TyOk1 Tryd.prog e ei) (hone : ∀ u ∈ ei.zero, u.oneCell' = true) (hsz : ei.zero.length = ei.size) (hs0 : 0 < ei.size) : DelOk Tryd.prog 36 ei.size := by
  constructor
  · intro w ad n cap i hin hnc
    have s1 := fun w => raw_slice3 (P := Tryd.prog) hi hd hei (ad := ad) (n := n) (cap := cap) (l := i) (h := i) (m := n) (by omega) hin hnc w
    simp only [iv] at s1 ⊢
    go_enter Tryd.func36, Tryd.f36
    go_wp
    go_ret
    exact ⟨rfl, rfl⟩
  · intro w b off n cap i j el L hij hjn hnc hb hfit hL
    obtain ⟨v1, v3, v5, w3, s1, s2, s3, ⟨w2, s4, s5, s6⟩, hfin⟩ := del_steps hi hd hei hone hsz hs0 hij hjn hnc hb hfit hL
    simp only [iv] at s1 s2 s3 s4 s5 s6 ⊢
    have hne : ¬ (i : Int) = j := by omega
    go_enter Tryd.func36, Tryd.f36
    go_wp
    · refine wp_drawn_pure (m := 6) (ks := [20, 21, 22, 23, 24, 25]) (vs := [.slice (some ⟨b, off, none⟩) n cap, .int .i64 i, .slice (some ⟨b, off, none⟩) i cap, .slice (some ⟨b, off, none⟩) n cap, .int .i64 j, v3]) (by kernel_rfl) (by kernel_rfl) rfl rfl (by decide) (by simp) ?_ ?_
      · intro k ks v hk hv
        match k with
        | 0 =>
          cases hk; cases hv
          exact ⟨_, rfl, rfl, rfl, fun a' ho hd w' => by have e := ho 0 (by decide); simp at e; simp [execOp, Act.eval, e]⟩
        | 1 =>
          cases hk; cases hv
          exact ⟨_, rfl, rfl, rfl, fun a' ho hd w' => by have e := ho 1 (by decide); simp at e; simp [execOp, Act.eval, e]⟩
        | 2 =>
          cases hk; cases hv
          exact ⟨_, rfl, rfl, rfl, fun a' ho hd w' => by
            have e0 := hd 0 20 _ ((mem_iff _ _).1 (by kernel_rfl)) rfl rfl
            have e1 := hd 1 21 _ ((mem_iff _ _).1 (by kernel_rfl)) rfl rfl
            simp [execOp, Act.eval, e0, e1, s2]⟩
        | 3 =>
          cases hk; cases hv
          exact ⟨_, rfl, rfl, rfl, fun a' ho hd w' => by have e := ho 0 (by decide); simp at e; simp [execOp, Act.eval, e]⟩
        | 4 =>
          cases hk; cases hv
          exact ⟨_, rfl, rfl, rfl, fun a' ho hd w' => by have e := ho 2 (by decide); simp at e; simp [execOp, Act.eval, e]⟩
        | 5 =>
          cases hk; cases hv
          exact ⟨_, rfl, rfl, rfl, fun a' ho hd w' => by
            have e0 := hd 3 23 _ ((mem_iff _ _).1 (by kernel_rfl)) rfl rfl
            have e1 := hd 4 24 _ ((mem_iff _ _).1 (by kernel_rfl)) rfl rfl
            simp [execOp, Act.eval, e0, e1, s3]⟩
        | k + 6 => simp at hk
      · simp only [Act.putAll, Act.put, List.drop_succ_cons, List.drop_zero]
        have s4' : (Builtin.append_ #[28, 28] 28 #[.slice (some ⟨b, off, none⟩) i cap, v3]).run Tryd.prog w.drew = .ok (.slice (some ⟨b, off, none⟩) (n - (j - i)) cap) w2 := s4
        refine wpList_val rfl (v := .slice (some ⟨b, off, none⟩) (n - (j - i)) cap) (w' := w2) (by simp [execOp, resolve, invoke, builtin, Act.eval, s4']) ?_
        go_wp
        go_ret
        exact ⟨rfl, hfin⟩

def sg36 : Sig := delS (.pair (.int .i64) (.pair (.int .i64) (.pair (.int .i64) (.pair (.pair (.int .i64) (.int .i64)) (.pair (.int .i64) (.pair (.int .i64) (.pair (.int .i64) (.pair (.int .i64) (.pair (.int .i64) (.pair .bool (.int .i64)))))))))))
noncomputable def r36 (a : List (Int × (Int × (Int × ((Int × Int) × (Int × (Int × (Int × (Int × (Int × (Bool × Int)))))))))) × (Int × Int)) : Option (List (Int × (Int × (Int × ((Int × Int) × (Int × (Int × (Int × (Int × (Int × (Bool × Int))))))))))) := delR a
theorem s36 : SoundD cx.P 36 sg36 r36 := del_sound (P := cx.P) (del36 (tysOk 28 ⟨.sl 40, 1, 24, [.slice none 0 0], false, [some (.pair (.int .i64) (.pair (.int .i64) (.pair (.int .i64) (.pair (.pair (.int .i64) (.int .i64)) (.pair (.int .i64) (.pair (.int .i64) (.pair (.int .i64) (.pair (.int .i64) (.pair (.int .i64) (.pair .bool (.int .i64)))))))))))], [none], (.sl (.pair (.int .i64) (.pair (.int .i64) (.pair (.int .i64) (.pair (.pair (.int .i64) (.int .i64)) (.pair (.int .i64) (.pair (.int .i64) (.pair (.int .i64) (.pair (.int .i64) (.pair (.int .i64) (.pair .bool (.int .i64))))))))))))⟩ (by kernel_rfl)) rfl (tysOk 40 ⟨.st [(0, 3), (1, 3), (2, 3), (3, 38), (5, 3), (6, 3), (7, 3), (8, 3), (9, 3), (10, 4), (11, 31)], 12, 96, [.int .i64 0, .int .i64 0, .int .i64 0, .int .i64 0, .int .i64 0, .int .i64 0, .int .i64 0, .int .i64 0, .int .i64 0, .int .i64 0, .bool false, .int .i64 0], true, [none, none, none, none, none, none, none, none, none, none, none, none], [none, none, none, none, none, none, none, none, none, none, none, none], (.pair (.int .i64) (.pair (.int .i64) (.pair (.int .i64) (.pair (.pair (.int .i64) (.int .i64)) (.pair (.int .i64) (.pair (.int .i64) (.pair (.int .i64) (.pair (.int .i64) (.pair (.int .i64) (.pair .bool (.int .i64)))))))))))⟩ (by kernel_rfl)) ((allB_iff _ _).1 (by kernel_rfl)) rfl (by decide))

/-! reredos/net.Take -/
def sg19 : Sig := ⟨[⟨true, .bo, (.pair (.int .i64) (.pair (.sl (.pair (.int .i64) (.int .i64))) (.int .i64)))⟩, ⟨false, .bo, (.sl (.sl (.pair (.int .i64) (.pair (.int .i64) (.pair (.int .i64) (.pair (.pair (.int .i64) (.int .i64)) (.pair (.int .i64) (.pair (.int .i64) (.pair (.int .i64) (.pair (.int .i64) (.pair (.int .i64) (.pair .bool (.int .i64)))))))))))))⟩, ⟨false, .bo, (.int .i64)⟩, ⟨false, .bo, (.int .i64)⟩, ⟨false, .bo, (.int .i64)⟩, ⟨false, .bo, (.int .i64)⟩], [⟨false, .own, (.sl (.sl (.pair (.int .i64) (.pair (.int .i64) (.pair (.int .i64) (.pair (.pair (.int .i64) (.int .i64)) (.pair (.int .i64) (.pair (.int .i64) (.pair (.int .i64) (.pair (.int .i64) (.pair (.int .i64) (.pair .bool (.int .i64)))))))))))))⟩, ⟨true, .own, (.pair (.int .i64) (.pair (.int .i64) (.pair (.int .i64) (.pair (.pair (.int .i64) (.int .i64)) (.pair (.int .i64) (.pair (.int .i64) (.pair (.int .i64) (.pair (.int .i64) (.pair (.int .i64) (.pair .bool (.int .i64)))))))))))⟩, ⟨false, .own, (.int .i64)⟩]⟩
noncomputable def r19 (a : ((Int × (List ((Int × Int)) × Int)) × (List (List ((Int × (Int × (Int × ((Int × Int) × (Int × (Int × (Int × (Int × (Int × (Bool × Int)))))))))))) × (Int × (Int × (Int × Int)))))) : Option (List (List ((Int × (Int × (Int × ((Int × Int) × (Int × (Int × (Int × (Int × (Int × (Bool × Int)))))))))))) × ((Int × (Int × (Int × ((Int × Int) × (Int × (Int × (Int × (Int × (Int × (Bool × Int)))))))))) × Int)) :=
  Option.bind (r16 (a.1, a.2.1)) fun (y1 : Int) =>
    bif !(decide (y1 = (0 : Int))) then
      some ([], (((0 : Int), ((0 : Int), ((0 : Int), (((0 : Int), (0 : Int)), ((0 : Int), ((0 : Int), ((0 : Int), ((0 : Int), ((0 : Int), (false, (0 : Int))))))))))), y1))
    else
      Option.bind (
        Option.bind (
          bif !(decide (a.2.2.2.2.2 = (2 : Int))) then
            some (!(decide (a.2.2.2.2.2 = (3 : Int))))
          else
            some false) fun (g4 : Bool) =>
          bif g4 then
            some (!(decide (a.2.2.2.2.2 = (4 : Int))))
          else
            some false) fun (d5 : Bool) =>
        bif d5 then
          some ([], (((0 : Int), ((0 : Int), ((0 : Int), (((0 : Int), (0 : Int)), ((0 : Int), ((0 : Int), ((0 : Int), ((0 : Int), ((0 : Int), (false, (0 : Int))))))))))), (3 : Int)))
        else
          Option.bind (
            Option.bind (
              bif !(decide (a.2.2.1 < (0 : Int))) then
                some (decide (a.1.1 ≤ a.2.2.1))
              else
                some true) fun (g12 : Bool) =>
              Option.bind (
                bif !(g12) then
                  some (decide (a.2.2.2.1 < (0 : Int)))
                else
                  some true) fun (g13 : Bool) =>
                Option.bind (
                  bif !(g13) then
                    some (decide (a.1.1 ≤ a.2.2.2.1))
                  else
                    some true) fun (g14 : Bool) =>
                  bif !(g14) then
                    some (decide (a.2.2.2.2.1 < (0 : Int)))
                  else
                    some true) fun (d15 : Bool) =>
            bif d15 then
              some ([], (((0 : Int), ((0 : Int), ((0 : Int), (((0 : Int), (0 : Int)), ((0 : Int), ((0 : Int), ((0 : Int), ((0 : Int), ((0 : Int), (false, (0 : Int))))))))))), (2 : Int)))
            else
              Option.bind (r34 a.2.1) fun (y16 : List (List ((Int × (Int × (Int × ((Int × Int) × (Int × (Int × (Int × (Int × (Int × (Bool × Int))))))))))))) =>
                bif inB (Go.IntKind.wrap .i64 ((Go.IntKind.wrap .i64 (a.2.2.1 * a.1.1)) + a.2.2.2.1)) y16.length then
                  Option.bind (idxN y16 (Int.toNat (Go.IntKind.wrap .i64 ((Go.IntKind.wrap .i64 (a.2.2.1 * a.1.1)) + a.2.2.2.1)))) fun (x17 : List ((Int × (Int × (Int × ((Int × Int) × (Int × (Int × (Int × (Int × (Int × (Bool × Int)))))))))))) =>
                    Option.bind (idxN y16 (Int.toNat (Go.IntKind.wrap .i64 ((Go.IntKind.wrap .i64 (a.2.2.1 * a.1.1)) + a.2.2.2.1)))) fun (x18 : List ((Int × (Int × (Int × ((Int × Int) × (Int × (Int × (Int × (Int × (Int × (Bool × Int)))))))))))) =>
                      bif decide ((↑x18.length : Int) = (0 : Int)) then
                        some ([], (((0 : Int), ((0 : Int), ((0 : Int), (((0 : Int), (0 : Int)), ((0 : Int), ((0 : Int), ((0 : Int), ((0 : Int), ((0 : Int), (false, (0 : Int))))))))))), (6 : Int)))
                      else
                        bif inB (Go.IntKind.wrap .i64 ((Go.IntKind.wrap .i64 (a.2.2.1 * a.1.1)) + a.2.2.2.1)) y16.length then
                          Option.bind (idxN y16 (Int.toNat (Go.IntKind.wrap .i64 ((Go.IntKind.wrap .i64 (a.2.2.1 * a.1.1)) + a.2.2.2.1)))) fun (x19 : List ((Int × (Int × (Int × ((Int × Int) × (Int × (Int × (Int × (Int × (Int × (Bool × Int)))))))))))) =>
                            Option.bind (idxN y16 (Int.toNat (Go.IntKind.wrap .i64 ((Go.IntKind.wrap .i64 (a.2.2.1 * a.1.1)) + a.2.2.2.1)))) fun (x20 : List ((Int × (Int × (Int × ((Int × Int) × (Int × (Int × (Int × (Int × (Int × (Bool × Int)))))))))))) =>
                              bif decide ((↑x20.length : Int) = 0) then
                                none
                              else
                                bif inB (Go.IntKind.wrap .i64 ((Go.IntKind.wrap .i64 (a.2.2.1 * a.1.1)) + a.2.2.2.1)) y16.length then
                                  Option.bind (idxN y16 (Int.toNat (Go.IntKind.wrap .i64 ((Go.IntKind.wrap .i64 (a.2.2.1 * a.1.1)) + a.2.2.2.1)))) fun (x21 : List ((Int × (Int × (Int × ((Int × Int) × (Int × (Int × (Int × (Int × (Int × (Bool × Int)))))))))))) =>
                                    Option.bind (idxN y16 (Int.toNat (Go.IntKind.wrap .i64 ((Go.IntKind.wrap .i64 (a.2.2.1 * a.1.1)) + a.2.2.2.1)))) fun (x22 : List ((Int × (Int × (Int × ((Int × Int) × (Int × (Int × (Int × (Int × (Int × (Bool × Int)))))))))))) =>
                                      bif inB (Int.tmod a.2.2.2.2.1 (↑x20.length : Int)) x22.length then
                                        Option.bind (idxN y16 (Int.toNat (Go.IntKind.wrap .i64 ((Go.IntKind.wrap .i64 (a.2.2.1 * a.1.1)) + a.2.2.2.1)))) fun (x23 : List ((Int × (Int × (Int × ((Int × Int) × (Int × (Int × (Int × (Int × (Int × (Bool × Int)))))))))))) =>
                                          Option.bind (idxN x23 (Int.toNat (Int.tmod a.2.2.2.2.1 (↑x20.length : Int)))) fun (x24 : (Int × (Int × (Int × ((Int × Int) × (Int × (Int × (Int × (Int × (Int × (Bool × Int))))))))))) =>
                                            bif decide (a.2.2.2.2.2 = (4 : Int)) then
                                              bif inB (Go.IntKind.wrap .i64 ((Go.IntKind.wrap .i64 (a.2.2.1 * a.1.1)) + a.2.2.2.1)) y16.length then
                                                Option.bind (idxN y16 (Int.toNat (Go.IntKind.wrap .i64 ((Go.IntKind.wrap .i64 (a.2.2.1 * a.1.1)) + a.2.2.2.1)))) fun (x25 : List ((Int × (Int × (Int × ((Int × Int) × (Int × (Int × (Int × (Int × (Int × (Bool × Int)))))))))))) =>
                                                  Option.bind (idxN y16 (Int.toNat (Go.IntKind.wrap .i64 ((Go.IntKind.wrap .i64 (a.2.2.1 * a.1.1)) + a.2.2.2.1)))) fun (x26 : List ((Int × (Int × (Int × ((Int × Int) × (Int × (Int × (Int × (Int × (Int × (Bool × Int)))))))))))) =>
                                                    bif decide ((↑x26.length : Int) = (30 : Int)) then
                                                      some ([], (((0 : Int), ((0 : Int), ((0 : Int), (((0 : Int), (0 : Int)), ((0 : Int), ((0 : Int), ((0 : Int), ((0 : Int), ((0 : Int), (false, (0 : Int))))))))))), (8 : Int)))
                                                    else
                                                      Option.bind (
                                                        bif inB (Go.IntKind.wrap .i64 ((Go.IntKind.wrap .i64 (a.2.2.1 * a.1.1)) + a.2.2.2.1)) y16.length then
                                                          Option.bind (idxN y16 (Int.toNat (Go.IntKind.wrap .i64 ((Go.IntKind.wrap .i64 (a.2.2.1 * a.1.1)) + a.2.2.2.1)))) fun (x51 : List ((Int × (Int × (Int × ((Int × Int) × (Int × (Int × (Int × (Int × (Int × (Bool × Int)))))))))))) =>
                                                            
                                                              Option.bind (idxN y16 (Int.toNat (Go.IntKind.wrap .i64 ((Go.IntKind.wrap .i64 (a.2.2.1 * a.1.1)) + a.2.2.2.1)))) fun (x52 : List ((Int × (Int × (Int × ((Int × Int) × (Int × (Int × (Int × (Int × (Int × (Bool × Int)))))))))))) =>
                                                                bif roomOk false x52.length 1 96 then
                                                                  bif inB (Go.IntKind.wrap .i64 ((Go.IntKind.wrap .i64 (a.2.2.1 * a.1.1)) + a.2.2.2.1)) y16.length then
                                                                    Option.bind (idxN y16 (Int.toNat (Go.IntKind.wrap .i64 ((Go.IntKind.wrap .i64 (a.2.2.1 * a.1.1)) + a.2.2.2.1)))) fun (x53 : List ((Int × (Int × (Int × ((Int × Int) × (Int × (Int × (Int × (Int × (Int × (Bool × Int)))))))))))) =>
                                                                      bif Nat.beq (Int.toNat (Go.IntKind.wrap .i64 ((Go.IntKind.wrap .i64 (a.2.2.1 * a.1.1)) + a.2.2.2.1))) (Int.toNat (Go.IntKind.wrap .i64 ((Go.IntKind.wrap .i64 (a.2.2.1 * a.1.1)) + a.2.2.2.1))) then
                                                                        some ((), List.set y16 (Int.toNat (Go.IntKind.wrap .i64 ((Go.IntKind.wrap .i64 (a.2.2.1 * a.1.1)) + a.2.2.2.1))) (app x52 [x24]))
                                                                      else
                                                                        none
                                                                  else
                                                                    none
                                                                else
                                                                  none
                                                        else
                                                          none) fun (d73 : (Unit × List (List ((Int × (Int × (Int × ((Int × Int) × (Int × (Int × (Int × (Int × (Int × (Bool × Int)))))))))))))) =>
                                                        some (d73.2, (x24, (0 : Int)))
                                              else
                                                none
                                            else
                                              bif inB (Go.IntKind.wrap .i64 ((Go.IntKind.wrap .i64 (a.2.2.1 * a.1.1)) + a.2.2.2.1)) y16.length then
                                                Option.bind (idxN y16 (Int.toNat (Go.IntKind.wrap .i64 ((Go.IntKind.wrap .i64 (a.2.2.1 * a.1.1)) + a.2.2.2.1)))) fun (x74 : List ((Int × (Int × (Int × ((Int × Int) × (Int × (Int × (Int × (Int × (Int × (Bool × Int)))))))))))) =>
                                                  Option.bind (idxN y16 (Int.toNat (Go.IntKind.wrap .i64 ((Go.IntKind.wrap .i64 (a.2.2.1 * a.1.1)) + a.2.2.2.1)))) fun (x75 : List ((Int × (Int × (Int × ((Int × Int) × (Int × (Int × (Int × (Int × (Int × (Bool × Int)))))))))))) =>
                                                    Option.bind (r36 (x75, (Int.tmod a.2.2.2.2.1 (↑x20.length : Int)), (Go.IntKind.wrap .i64 ((Int.tmod a.2.2.2.2.1 (↑x20.length : Int)) + (1 : Int))))) fun (y76 : List ((Int × (Int × (Int × ((Int × Int) × (Int × (Int × (Int × (Int × (Int × (Bool × Int)))))))))))) =>
                                                      bif inB (Go.IntKind.wrap .i64 ((Go.IntKind.wrap .i64 (a.2.2.1 * a.1.1)) + a.2.2.2.1)) y16.length then
                                                        Option.bind (idxN y16 (Int.toNat (Go.IntKind.wrap .i64 ((Go.IntKind.wrap .i64 (a.2.2.1 * a.1.1)) + a.2.2.2.1)))) fun (x77 : List ((Int × (Int × (Int × ((Int × Int) × (Int × (Int × (Int × (Int × (Int × (Bool × Int)))))))))))) =>
                                                          bif Nat.beq (Int.toNat (Go.IntKind.wrap .i64 ((Go.IntKind.wrap .i64 (a.2.2.1 * a.1.1)) + a.2.2.2.1))) (Int.toNat (Go.IntKind.wrap .i64 ((Go.IntKind.wrap .i64 (a.2.2.1 * a.1.1)) + a.2.2.2.1))) then
                                                            some (List.set y16 (Int.toNat (Go.IntKind.wrap .i64 ((Go.IntKind.wrap .i64 (a.2.2.1 * a.1.1)) + a.2.2.2.1))) y76, (x24, (0 : Int)))
                                                          else
                                                            none
                                                      else
                                                        none
                                              else
                                                none
                                      else
                                        none
                                else
                                  none
                        else
                          none
                else
                  none
noncomputable def r19q : ((Int × (List ((Int × Int)) × Int)) × (List (List ((Int × (Int × (Int × ((Int × Int) × (Int × (Int × (Int × (Int × (Int × (Bool × Int)))))))))))) × (Int × (Int × (Int × Int))))) → Option (List (List ((Int × (Int × (Int × ((Int × Int) × (Int × (Int × (Int × (Int × (Int × (Bool × Int)))))))))))) × ((Int × (Int × (Int × ((Int × Int) × (Int × (Int × (Int × (Int × (Int × (Bool × Int)))))))))) × Int)) := fun a =>
  Option.bind (r16 (a.1, a.2.1)) fun (y1 : Int) =>
    bif !(decide (y1 = (0 : Int))) then
      some ([], (((0 : Int), ((0 : Int), ((0 : Int), (((0 : Int), (0 : Int)), ((0 : Int), ((0 : Int), ((0 : Int), ((0 : Int), ((0 : Int), (false, (0 : Int))))))))))), y1))
    else
      Option.bind (
        Option.bind (
          bif !(decide (a.2.2.2.2.2 = (2 : Int))) then
            some (!(decide (a.2.2.2.2.2 = (3 : Int))))
          else
            some false) fun (g4 : Bool) =>
          bif g4 then
            some (!(decide (a.2.2.2.2.2 = (4 : Int))))
          else
            some false) fun (d5 : Bool) =>
        bif d5 then
          some ([], (((0 : Int), ((0 : Int), ((0 : Int), (((0 : Int), (0 : Int)), ((0 : Int), ((0 : Int), ((0 : Int), ((0 : Int), ((0 : Int), (false, (0 : Int))))))))))), (3 : Int)))
        else
          Option.bind (
            Option.bind (
              bif !(decide (a.2.2.1 < (0 : Int))) then
                some (decide (a.1.1 ≤ a.2.2.1))
              else
                some true) fun (g12 : Bool) =>
              Option.bind (
                bif !(g12) then
                  some (decide (a.2.2.2.1 < (0 : Int)))
                else
                  some true) fun (g13 : Bool) =>
                Option.bind (
                  bif !(g13) then
                    some (decide (a.1.1 ≤ a.2.2.2.1))
                  else
                    some true) fun (g14 : Bool) =>
                  bif !(g14) then
                    some (decide (a.2.2.2.2.1 < (0 : Int)))
                  else
                    some true) fun (d15 : Bool) =>
            bif d15 then
              some ([], (((0 : Int), ((0 : Int), ((0 : Int), (((0 : Int), (0 : Int)), ((0 : Int), ((0 : Int), ((0 : Int), ((0 : Int), ((0 : Int), (false, (0 : Int))))))))))), (2 : Int)))
            else
              Option.bind (r34 a.2.1) fun (y16 : List (List ((Int × (Int × (Int × ((Int × Int) × (Int × (Int × (Int × (Int × (Int × (Bool × Int))))))))))))) =>
                bif inB (Go.IntKind.wrap .i64 ((Go.IntKind.wrap .i64 (a.2.2.1 * a.1.1)) + a.2.2.2.1)) y16.length then
                  Option.bind (idxN y16 (Int.toNat (Go.IntKind.wrap .i64 ((Go.IntKind.wrap .i64 (a.2.2.1 * a.1.1)) + a.2.2.2.1)))) fun (x17 : List ((Int × (Int × (Int × ((Int × Int) × (Int × (Int × (Int × (Int × (Int × (Bool × Int)))))))))))) =>
                    Option.bind (idxN y16 (Int.toNat (Go.IntKind.wrap .i64 ((Go.IntKind.wrap .i64 (a.2.2.1 * a.1.1)) + a.2.2.2.1)))) fun (x18 : List ((Int × (Int × (Int × ((Int × Int) × (Int × (Int × (Int × (Int × (Int × (Bool × Int)))))))))))) =>
                      bif decide ((↑x18.length : Int) = (0 : Int)) then
                        some ([], (((0 : Int), ((0 : Int), ((0 : Int), (((0 : Int), (0 : Int)), ((0 : Int), ((0 : Int), ((0 : Int), ((0 : Int), ((0 : Int), (false, (0 : Int))))))))))), (6 : Int)))
                      else
                        bif inB (Go.IntKind.wrap .i64 ((Go.IntKind.wrap .i64 (a.2.2.1 * a.1.1)) + a.2.2.2.1)) y16.length then
                          Option.bind (idxN y16 (Int.toNat (Go.IntKind.wrap .i64 ((Go.IntKind.wrap .i64 (a.2.2.1 * a.1.1)) + a.2.2.2.1)))) fun (x19 : List ((Int × (Int × (Int × ((Int × Int) × (Int × (Int × (Int × (Int × (Int × (Bool × Int)))))))))))) =>
                            Option.bind (idxN y16 (Int.toNat (Go.IntKind.wrap .i64 ((Go.IntKind.wrap .i64 (a.2.2.1 * a.1.1)) + a.2.2.2.1)))) fun (x20 : List ((Int × (Int × (Int × ((Int × Int) × (Int × (Int × (Int × (Int × (Int × (Bool × Int)))))))))))) =>
                              bif decide ((↑x20.length : Int) = 0) then
                                none
                              else
                                bif inB (Go.IntKind.wrap .i64 ((Go.IntKind.wrap .i64 (a.2.2.1 * a.1.1)) + a.2.2.2.1)) y16.length then
                                  Option.bind (idxN y16 (Int.toNat (Go.IntKind.wrap .i64 ((Go.IntKind.wrap .i64 (a.2.2.1 * a.1.1)) + a.2.2.2.1)))) fun (x21 : List ((Int × (Int × (Int × ((Int × Int) × (Int × (Int × (Int × (Int × (Int × (Bool × Int)))))))))))) =>
                                    Option.bind (idxN y16 (Int.toNat (Go.IntKind.wrap .i64 ((Go.IntKind.wrap .i64 (a.2.2.1 * a.1.1)) + a.2.2.2.1)))) fun (x22 : List ((Int × (Int × (Int × ((Int × Int) × (Int × (Int × (Int × (Int × (Int × (Bool × Int)))))))))))) =>
                                      bif inB (Int.tmod a.2.2.2.2.1 (↑x20.length : Int)) x22.length then
                                        Option.bind (idxN y16 (Int.toNat (Go.IntKind.wrap .i64 ((Go.IntKind.wrap .i64 (a.2.2.1 * a.1.1)) + a.2.2.2.1)))) fun (x23 : List ((Int × (Int × (Int × ((Int × Int) × (Int × (Int × (Int × (Int × (Int × (Bool × Int)))))))))))) =>
                                          Option.bind (idxN x23 (Int.toNat (Int.tmod a.2.2.2.2.1 (↑x20.length : Int)))) fun (x24 : (Int × (Int × (Int × ((Int × Int) × (Int × (Int × (Int × (Int × (Int × (Bool × Int))))))))))) =>
                                            bif decide (a.2.2.2.2.2 = (4 : Int)) then
                                              bif inB (Go.IntKind.wrap .i64 ((Go.IntKind.wrap .i64 (a.2.2.1 * a.1.1)) + a.2.2.2.1)) y16.length then
                                                Option.bind (idxN y16 (Int.toNat (Go.IntKind.wrap .i64 ((Go.IntKind.wrap .i64 (a.2.2.1 * a.1.1)) + a.2.2.2.1)))) fun (x25 : List ((Int × (Int × (Int × ((Int × Int) × (Int × (Int × (Int × (Int × (Int × (Bool × Int)))))))))))) =>
                                                  Option.bind (idxN y16 (Int.toNat (Go.IntKind.wrap .i64 ((Go.IntKind.wrap .i64 (a.2.2.1 * a.1.1)) + a.2.2.2.1)))) fun (x26 : List ((Int × (Int × (Int × ((Int × Int) × (Int × (Int × (Int × (Int × (Int × (Bool × Int)))))))))))) =>
                                                    bif decide ((↑x26.length : Int) = (30 : Int)) then
                                                      some ([], (((0 : Int), ((0 : Int), ((0 : Int), (((0 : Int), (0 : Int)), ((0 : Int), ((0 : Int), ((0 : Int), ((0 : Int), ((0 : Int), (false, (0 : Int))))))))))), (8 : Int)))
                                                    else
                                                      Option.bind (
                                                        bif inB (Go.IntKind.wrap .i64 ((Go.IntKind.wrap .i64 (a.2.2.1 * a.1.1)) + a.2.2.2.1)) y16.length then
                                                          Option.bind (idxN y16 (Int.toNat (Go.IntKind.wrap .i64 ((Go.IntKind.wrap .i64 (a.2.2.1 * a.1.1)) + a.2.2.2.1)))) fun (x51 : List ((Int × (Int × (Int × ((Int × Int) × (Int × (Int × (Int × (Int × (Int × (Bool × Int)))))))))))) =>
                                                            sameR (
                                                              Option.bind (idxN y16 (Int.toNat (Go.IntKind.wrap .i64 ((Go.IntKind.wrap .i64 (a.2.2.1 * a.1.1)) + a.2.2.2.1)))) fun (x52 : List ((Int × (Int × (Int × ((Int × Int) × (Int × (Int × (Int × (Int × (Int × (Bool × Int)))))))))))) =>
                                                                bif roomOk false x52.length 1 96 then
                                                                  bif inB (Go.IntKind.wrap .i64 ((Go.IntKind.wrap .i64 (a.2.2.1 * a.1.1)) + a.2.2.2.1)) y16.length then
                                                                    Option.bind (idxN y16 (Int.toNat (Go.IntKind.wrap .i64 ((Go.IntKind.wrap .i64 (a.2.2.1 * a.1.1)) + a.2.2.2.1)))) fun (x53 : List ((Int × (Int × (Int × ((Int × Int) × (Int × (Int × (Int × (Int × (Int × (Bool × Int)))))))))))) =>
                                                                      bif Nat.beq (Int.toNat (Go.IntKind.wrap .i64 ((Go.IntKind.wrap .i64 (a.2.2.1 * a.1.1)) + a.2.2.2.1))) (Int.toNat (Go.IntKind.wrap .i64 ((Go.IntKind.wrap .i64 (a.2.2.1 * a.1.1)) + a.2.2.2.1))) then
                                                                        some ((), List.set y16 (Int.toNat (Go.IntKind.wrap .i64 ((Go.IntKind.wrap .i64 (a.2.2.1 * a.1.1)) + a.2.2.2.1))) (app x52 [x24]))
                                                                      else
                                                                        none
                                                                  else
                                                                    none
                                                                else
                                                                  none)
 (
                                                              sameR (
                                                                sameR (
                                                                  Option.bind (idxN y16 (Int.toNat (Go.IntKind.wrap .i64 ((Go.IntKind.wrap .i64 (a.2.2.1 * a.1.1)) + a.2.2.2.1)))) fun (x54 : List ((Int × (Int × (Int × ((Int × Int) × (Int × (Int × (Int × (Int × (Int × (Bool × Int)))))))))))) =>
                                                                    bif roomOk false x54.length 1 96 then
                                                                      bif inB (Go.IntKind.wrap .i64 ((Go.IntKind.wrap .i64 (a.2.2.1 * a.1.1)) + a.2.2.2.1)) y16.length then
                                                                        Option.bind (idxN y16 (Int.toNat (Go.IntKind.wrap .i64 ((Go.IntKind.wrap .i64 (a.2.2.1 * a.1.1)) + a.2.2.2.1)))) fun (x55 : List ((Int × (Int × (Int × ((Int × Int) × (Int × (Int × (Int × (Int × (Int × (Bool × Int)))))))))))) =>
                                                                          bif Nat.beq (Int.toNat (Go.IntKind.wrap .i64 ((Go.IntKind.wrap .i64 (a.2.2.1 * a.1.1)) + a.2.2.2.1))) (Int.toNat (Go.IntKind.wrap .i64 ((Go.IntKind.wrap .i64 (a.2.2.1 * a.1.1)) + a.2.2.2.1))) then
                                                                            some ((), List.set y16 (Int.toNat (Go.IntKind.wrap .i64 ((Go.IntKind.wrap .i64 (a.2.2.1 * a.1.1)) + a.2.2.2.1))) (app x54 [x24]))
                                                                          else
                                                                            none
                                                                      else
                                                                        none
                                                                    else
                                                                      none)
 (
                                                                  Option.bind (idxN y16 (Int.toNat (Go.IntKind.wrap .i64 ((Go.IntKind.wrap .i64 (a.2.2.1 * a.1.1)) + a.2.2.2.1)))) fun (x56 : List ((Int × (Int × (Int × ((Int × Int) × (Int × (Int × (Int × (Int × (Int × (Bool × Int)))))))))))) =>
                                                                    bif roomOk false x56.length 1 96 then
                                                                      bif inB (Go.IntKind.wrap .i64 ((Go.IntKind.wrap .i64 (a.2.2.1 * a.1.1)) + a.2.2.2.1)) y16.length then
                                                                        Option.bind (idxN y16 (Int.toNat (Go.IntKind.wrap .i64 ((Go.IntKind.wrap .i64 (a.2.2.1 * a.1.1)) + a.2.2.2.1)))) fun (x57 : List ((Int × (Int × (Int × ((Int × Int) × (Int × (Int × (Int × (Int × (Int × (Bool × Int)))))))))))) =>
                                                                          bif Nat.beq (Int.toNat (Go.IntKind.wrap .i64 ((Go.IntKind.wrap .i64 (a.2.2.1 * a.1.1)) + a.2.2.2.1))) (Int.toNat (Go.IntKind.wrap .i64 ((Go.IntKind.wrap .i64 (a.2.2.1 * a.1.1)) + a.2.2.2.1))) then
                                                                            some ((), List.set y16 (Int.toNat (Go.IntKind.wrap .i64 ((Go.IntKind.wrap .i64 (a.2.2.1 * a.1.1)) + a.2.2.2.1))) (app x56 [x24]))
                                                                          else
                                                                            none
                                                                      else
                                                                        none
                                                                    else
                                                                      none))
 (
                                                                sameR (
                                                                  sameR (
                                                                    Option.bind (idxN y16 (Int.toNat (Go.IntKind.wrap .i64 ((Go.IntKind.wrap .i64 (a.2.2.1 * a.1.1)) + a.2.2.2.1)))) fun (x58 : List ((Int × (Int × (Int × ((Int × Int) × (Int × (Int × (Int × (Int × (Int × (Bool × Int)))))))))))) =>
                                                                      bif roomOk false x58.length 1 96 then
                                                                        bif inB (Go.IntKind.wrap .i64 ((Go.IntKind.wrap .i64 (a.2.2.1 * a.1.1)) + a.2.2.2.1)) y16.length then
                                                                          Option.bind (idxN y16 (Int.toNat (Go.IntKind.wrap .i64 ((Go.IntKind.wrap .i64 (a.2.2.1 * a.1.1)) + a.2.2.2.1)))) fun (x59 : List ((Int × (Int × (Int × ((Int × Int) × (Int × (Int × (Int × (Int × (Int × (Bool × Int)))))))))))) =>
                                                                            bif Nat.beq (Int.toNat (Go.IntKind.wrap .i64 ((Go.IntKind.wrap .i64 (a.2.2.1 * a.1.1)) + a.2.2.2.1))) (Int.toNat (Go.IntKind.wrap .i64 ((Go.IntKind.wrap .i64 (a.2.2.1 * a.1.1)) + a.2.2.2.1))) then
                                                                              some ((), List.set y16 (Int.toNat (Go.IntKind.wrap .i64 ((Go.IntKind.wrap .i64 (a.2.2.1 * a.1.1)) + a.2.2.2.1))) (app x58 [x24]))
                                                                            else
                                                                              none
                                                                        else
                                                                          none
                                                                      else
                                                                        none)
 (
                                                                    Option.bind (idxN y16 (Int.toNat (Go.IntKind.wrap .i64 ((Go.IntKind.wrap .i64 (a.2.2.1 * a.1.1)) + a.2.2.2.1)))) fun (x60 : List ((Int × (Int × (Int × ((Int × Int) × (Int × (Int × (Int × (Int × (Int × (Bool × Int)))))))))))) =>
                                                                      bif roomOk false x60.length 1 96 then
                                                                        bif inB (Go.IntKind.wrap .i64 ((Go.IntKind.wrap .i64 (a.2.2.1 * a.1.1)) + a.2.2.2.1)) y16.length then
                                                                          Option.bind (idxN y16 (Int.toNat (Go.IntKind.wrap .i64 ((Go.IntKind.wrap .i64 (a.2.2.1 * a.1.1)) + a.2.2.2.1)))) fun (x61 : List ((Int × (Int × (Int × ((Int × Int) × (Int × (Int × (Int × (Int × (Int × (Bool × Int)))))))))))) =>
                                                                            bif Nat.beq (Int.toNat (Go.IntKind.wrap .i64 ((Go.IntKind.wrap .i64 (a.2.2.1 * a.1.1)) + a.2.2.2.1))) (Int.toNat (Go.IntKind.wrap .i64 ((Go.IntKind.wrap .i64 (a.2.2.1 * a.1.1)) + a.2.2.2.1))) then
                                                                              some ((), List.set y16 (Int.toNat (Go.IntKind.wrap .i64 ((Go.IntKind.wrap .i64 (a.2.2.1 * a.1.1)) + a.2.2.2.1))) (app x60 [x24]))
                                                                            else
                                                                              none
                                                                        else
                                                                          none
                                                                      else
                                                                        none))
 (
                                                                  sameR (
                                                                    sameR (
                                                                      Option.bind (idxN y16 (Int.toNat (Go.IntKind.wrap .i64 ((Go.IntKind.wrap .i64 (a.2.2.1 * a.1.1)) + a.2.2.2.1)))) fun (x62 : List ((Int × (Int × (Int × ((Int × Int) × (Int × (Int × (Int × (Int × (Int × (Bool × Int)))))))))))) =>
                                                                        bif roomOk false x62.length 1 96 then
                                                                          bif inB (Go.IntKind.wrap .i64 ((Go.IntKind.wrap .i64 (a.2.2.1 * a.1.1)) + a.2.2.2.1)) y16.length then
                                                                            Option.bind (idxN y16 (Int.toNat (Go.IntKind.wrap .i64 ((Go.IntKind.wrap .i64 (a.2.2.1 * a.1.1)) + a.2.2.2.1)))) fun (x63 : List ((Int × (Int × (Int × ((Int × Int) × (Int × (Int × (Int × (Int × (Int × (Bool × Int)))))))))))) =>
                                                                              bif Nat.beq (Int.toNat (Go.IntKind.wrap .i64 ((Go.IntKind.wrap .i64 (a.2.2.1 * a.1.1)) + a.2.2.2.1))) (Int.toNat (Go.IntKind.wrap .i64 ((Go.IntKind.wrap .i64 (a.2.2.1 * a.1.1)) + a.2.2.2.1))) then
                                                                                some ((), List.set y16 (Int.toNat (Go.IntKind.wrap .i64 ((Go.IntKind.wrap .i64 (a.2.2.1 * a.1.1)) + a.2.2.2.1))) (app x62 [x24]))
                                                                              else
                                                                                none
                                                                          else
                                                                            none
                                                                        else
                                                                          none)
 (
                                                                      Option.bind (idxN y16 (Int.toNat (Go.IntKind.wrap .i64 ((Go.IntKind.wrap .i64 (a.2.2.1 * a.1.1)) + a.2.2.2.1)))) fun (x64 : List ((Int × (Int × (Int × ((Int × Int) × (Int × (Int × (Int × (Int × (Int × (Bool × Int)))))))))))) =>
                                                                        bif roomOk false x64.length 1 96 then
                                                                          bif inB (Go.IntKind.wrap .i64 ((Go.IntKind.wrap .i64 (a.2.2.1 * a.1.1)) + a.2.2.2.1)) y16.length then
                                                                            Option.bind (idxN y16 (Int.toNat (Go.IntKind.wrap .i64 ((Go.IntKind.wrap .i64 (a.2.2.1 * a.1.1)) + a.2.2.2.1)))) fun (x65 : List ((Int × (Int × (Int × ((Int × Int) × (Int × (Int × (Int × (Int × (Int × (Bool × Int)))))))))))) =>
                                                                              bif Nat.beq (Int.toNat (Go.IntKind.wrap .i64 ((Go.IntKind.wrap .i64 (a.2.2.1 * a.1.1)) + a.2.2.2.1))) (Int.toNat (Go.IntKind.wrap .i64 ((Go.IntKind.wrap .i64 (a.2.2.1 * a.1.1)) + a.2.2.2.1))) then
                                                                                some ((), List.set y16 (Int.toNat (Go.IntKind.wrap .i64 ((Go.IntKind.wrap .i64 (a.2.2.1 * a.1.1)) + a.2.2.2.1))) (app x64 [x24]))
                                                                              else
                                                                                none
                                                                          else
                                                                            none
                                                                        else
                                                                          none))
 (
                                                                    sameR (
                                                                      sameR (
                                                                        Option.bind (idxN y16 (Int.toNat (Go.IntKind.wrap .i64 ((Go.IntKind.wrap .i64 (a.2.2.1 * a.1.1)) + a.2.2.2.1)))) fun (x66 : List ((Int × (Int × (Int × ((Int × Int) × (Int × (Int × (Int × (Int × (Int × (Bool × Int)))))))))))) =>
                                                                          bif roomOk false x66.length 1 96 then
                                                                            bif inB (Go.IntKind.wrap .i64 ((Go.IntKind.wrap .i64 (a.2.2.1 * a.1.1)) + a.2.2.2.1)) y16.length then
                                                                              Option.bind (idxN y16 (Int.toNat (Go.IntKind.wrap .i64 ((Go.IntKind.wrap .i64 (a.2.2.1 * a.1.1)) + a.2.2.2.1)))) fun (x67 : List ((Int × (Int × (Int × ((Int × Int) × (Int × (Int × (Int × (Int × (Int × (Bool × Int)))))))))))) =>
                                                                                bif Nat.beq (Int.toNat (Go.IntKind.wrap .i64 ((Go.IntKind.wrap .i64 (a.2.2.1 * a.1.1)) + a.2.2.2.1))) (Int.toNat (Go.IntKind.wrap .i64 ((Go.IntKind.wrap .i64 (a.2.2.1 * a.1.1)) + a.2.2.2.1))) then
                                                                                  some ((), List.set y16 (Int.toNat (Go.IntKind.wrap .i64 ((Go.IntKind.wrap .i64 (a.2.2.1 * a.1.1)) + a.2.2.2.1))) (app x66 [x24]))
                                                                                else
                                                                                  none
                                                                            else
                                                                              none
                                                                          else
                                                                            none)
 (
                                                                        Option.bind (idxN y16 (Int.toNat (Go.IntKind.wrap .i64 ((Go.IntKind.wrap .i64 (a.2.2.1 * a.1.1)) + a.2.2.2.1)))) fun (x68 : List ((Int × (Int × (Int × ((Int × Int) × (Int × (Int × (Int × (Int × (Int × (Bool × Int)))))))))))) =>
                                                                          bif roomOk false x68.length 1 96 then
                                                                            bif inB (Go.IntKind.wrap .i64 ((Go.IntKind.wrap .i64 (a.2.2.1 * a.1.1)) + a.2.2.2.1)) y16.length then
                                                                              Option.bind (idxN y16 (Int.toNat (Go.IntKind.wrap .i64 ((Go.IntKind.wrap .i64 (a.2.2.1 * a.1.1)) + a.2.2.2.1)))) fun (x69 : List ((Int × (Int × (Int × ((Int × Int) × (Int × (Int × (Int × (Int × (Int × (Bool × Int)))))))))))) =>
                                                                                bif Nat.beq (Int.toNat (Go.IntKind.wrap .i64 ((Go.IntKind.wrap .i64 (a.2.2.1 * a.1.1)) + a.2.2.2.1))) (Int.toNat (Go.IntKind.wrap .i64 ((Go.IntKind.wrap .i64 (a.2.2.1 * a.1.1)) + a.2.2.2.1))) then
                                                                                  some ((), List.set y16 (Int.toNat (Go.IntKind.wrap .i64 ((Go.IntKind.wrap .i64 (a.2.2.1 * a.1.1)) + a.2.2.2.1))) (app x68 [x24]))
                                                                                else
                                                                                  none
                                                                            else
                                                                              none
                                                                          else
                                                                            none))
 (
                                                                      Option.bind (idxN y16 (Int.toNat (Go.IntKind.wrap .i64 ((Go.IntKind.wrap .i64 (a.2.2.1 * a.1.1)) + a.2.2.2.1)))) fun (x70 : List ((Int × (Int × (Int × ((Int × Int) × (Int × (Int × (Int × (Int × (Int × (Bool × Int)))))))))))) =>
                                                                        bif roomOk false x70.length 1 96 then
                                                                          sameR (
                                                                            bif inB (Go.IntKind.wrap .i64 ((Go.IntKind.wrap .i64 (a.2.2.1 * a.1.1)) + a.2.2.2.1)) y16.length then
                                                                              Option.bind (idxN y16 (Int.toNat (Go.IntKind.wrap .i64 ((Go.IntKind.wrap .i64 (a.2.2.1 * a.1.1)) + a.2.2.2.1)))) fun (x71 : List ((Int × (Int × (Int × ((Int × Int) × (Int × (Int × (Int × (Int × (Int × (Bool × Int)))))))))))) =>
                                                                                bif Nat.beq (Int.toNat (Go.IntKind.wrap .i64 ((Go.IntKind.wrap .i64 (a.2.2.1 * a.1.1)) + a.2.2.2.1))) (Int.toNat (Go.IntKind.wrap .i64 ((Go.IntKind.wrap .i64 (a.2.2.1 * a.1.1)) + a.2.2.2.1))) then
                                                                                  some ((), List.set y16 (Int.toNat (Go.IntKind.wrap .i64 ((Go.IntKind.wrap .i64 (a.2.2.1 * a.1.1)) + a.2.2.2.1))) (app x70 [x24]))
                                                                                else
                                                                                  none
                                                                            else
                                                                              none)
 (
                                                                            bif inB (Go.IntKind.wrap .i64 ((Go.IntKind.wrap .i64 (a.2.2.1 * a.1.1)) + a.2.2.2.1)) y16.length then
                                                                              Option.bind (idxN y16 (Int.toNat (Go.IntKind.wrap .i64 ((Go.IntKind.wrap .i64 (a.2.2.1 * a.1.1)) + a.2.2.2.1)))) fun (x72 : List ((Int × (Int × (Int × ((Int × Int) × (Int × (Int × (Int × (Int × (Int × (Bool × Int)))))))))))) =>
                                                                                bif Nat.beq (Int.toNat (Go.IntKind.wrap .i64 ((Go.IntKind.wrap .i64 (a.2.2.1 * a.1.1)) + a.2.2.2.1))) (Int.toNat (Go.IntKind.wrap .i64 ((Go.IntKind.wrap .i64 (a.2.2.1 * a.1.1)) + a.2.2.2.1))) then
                                                                                  some ((), List.set y16 (Int.toNat (Go.IntKind.wrap .i64 ((Go.IntKind.wrap .i64 (a.2.2.1 * a.1.1)) + a.2.2.2.1))) (app x70 [x24]))
                                                                                else
                                                                                  none
                                                                            else
                                                                              none)
                                                                        else
                                                                          none)))))
                                                        else
                                                          none) fun (d73 : (Unit × List (List ((Int × (Int × (Int × ((Int × Int) × (Int × (Int × (Int × (Int × (Int × (Bool × Int)))))))))))))) =>
                                                        some (d73.2, (x24, (0 : Int)))
                                              else
                                                none
                                            else
                                              bif inB (Go.IntKind.wrap .i64 ((Go.IntKind.wrap .i64 (a.2.2.1 * a.1.1)) + a.2.2.2.1)) y16.length then
                                                Option.bind (idxN y16 (Int.toNat (Go.IntKind.wrap .i64 ((Go.IntKind.wrap .i64 (a.2.2.1 * a.1.1)) + a.2.2.2.1)))) fun (x74 : List ((Int × (Int × (Int × ((Int × Int) × (Int × (Int × (Int × (Int × (Int × (Bool × Int)))))))))))) =>
                                                  Option.bind (idxN y16 (Int.toNat (Go.IntKind.wrap .i64 ((Go.IntKind.wrap .i64 (a.2.2.1 * a.1.1)) + a.2.2.2.1)))) fun (x75 : List ((Int × (Int × (Int × ((Int × Int) × (Int × (Int × (Int × (Int × (Int × (Bool × Int)))))))))))) =>
                                                    Option.bind (r36 (x75, (Int.tmod a.2.2.2.2.1 (↑x20.length : Int)), (Go.IntKind.wrap .i64 ((Int.tmod a.2.2.2.2.1 (↑x20.length : Int)) + (1 : Int))))) fun (y76 : List ((Int × (Int × (Int × ((Int × Int) × (Int × (Int × (Int × (Int × (Int × (Bool × Int)))))))))))) =>
                                                      bif inB (Go.IntKind.wrap .i64 ((Go.IntKind.wrap .i64 (a.2.2.1 * a.1.1)) + a.2.2.2.1)) y16.length then
                                                        Option.bind (idxN y16 (Int.toNat (Go.IntKind.wrap .i64 ((Go.IntKind.wrap .i64 (a.2.2.1 * a.1.1)) + a.2.2.2.1)))) fun (x77 : List ((Int × (Int × (Int × ((Int × Int) × (Int × (Int × (Int × (Int × (Int × (Bool × Int)))))))))))) =>
                                                          bif Nat.beq (Int.toNat (Go.IntKind.wrap .i64 ((Go.IntKind.wrap .i64 (a.2.2.1 * a.1.1)) + a.2.2.2.1))) (Int.toNat (Go.IntKind.wrap .i64 ((Go.IntKind.wrap .i64 (a.2.2.1 * a.1.1)) + a.2.2.2.1))) then
                                                            some (List.set y16 (Int.toNat (Go.IntKind.wrap .i64 ((Go.IntKind.wrap .i64 (a.2.2.1 * a.1.1)) + a.2.2.2.1))) y76, (x24, (0 : Int)))
                                                          else
                                                            none
                                                      else
                                                        none
                                              else
                                                none
                                      else
                                        none
                                else
                                  none
                        else
                          none
                else
                  none
theorem r19e : r19q = r19 := by unfold r19q r19; simp only [sameR_self]
def an19 : Ann := .two (.leaf) (.two (.two (.leaf) (.two (.leaf) (.two (.two (.leaf) (.leaf)) (.leaf)))) (.two (.one (.two (.join [1, 2, 3, 4, 5, 6, 13] [6, 13] [⟨.normal, [], [.tmp 27 (.bool)]⟩] (.segs [(6, ([1, 2, 3, 4, 5, 6, 13], ([6, 13], [.tmp 33 (.bool)])))])) (.two (.two (.leaf) (.leaf)) (.two (.join [1, 2, 3, 4, 5, 6, 13] [6, 13] [⟨.normal, [], [.tmp 39 (.bool)]⟩] (.segs [(8, ([1, 2, 3, 4, 5, 6, 13], ([6, 13], [.tmp 47 (.bool)]))), (4, ([1, 2, 3, 4, 5, 6, 13], ([6, 13], [.tmp 51 (.bool)]))), (6, ([1, 2, 3, 4, 5, 6, 13], ([6, 13], [.tmp 57 (.bool)])))])) (.two (.two (.leaf) (.leaf)) (.leaf)))))) (.two (.leaf) (.two (.leaf) (.two (.two (.leaf) (.two (.two (.leaf) (.leaf)) (.leaf))) (.two (.leaf) (.two (.leaf) (.two (.two (.leaf) (.two (.two (.two (.leaf) (.two (.two (.leaf) (.leaf)) (.leaf))) (.two (.join [13, 19] [13, 19] [⟨.normal, [], [.tmp 16 (.own 64 [(0, 0)] (.sl (.pair (.int .i64) (.pair (.int .i64) (.pair (.int .i64) (.pair (.pair (.int .i64) (.int .i64)) (.pair (.int .i64) (.pair (.int .i64) (.pair (.int .i64) (.pair (.int .i64) (.pair (.int .i64) (.pair .bool (.int .i64))))))))))))), .row 64 [.sl .own (.sl (.pair (.int .i64) (.pair (.int .i64) (.pair (.int .i64) (.pair (.pair (.int .i64) (.int .i64)) (.pair (.int .i64) (.pair (.int .i64) (.pair (.int .i64) (.pair (.int .i64) (.pair (.int .i64) (.pair .bool (.int .i64))))))))))))]]⟩] (.drawT [0, 1, 2, 3, 4, 5, 6, 7] [0, 1])) (.two (.draw 3) (.leaf)))) (.leaf))) (.two (.leaf) (.two (.draw 3) (.leaf)))))))))))
theorem s19 : SoundF cx.P cx.G 19 sg19 r19 := by
  have e : denF cx [(16, ⟨sg16, r16⟩), (34, ⟨sg34, r34⟩), (36, ⟨sg36, r36⟩)] an19 Tryd.f19.ntmps (Tryd.f19.body.getD .skip) Tryd.f19.results.toList sg19 = r19q := by kernel_rfl
  rw [← r19e, ← e]
  exact sound_of_den (c := cx) (Known.cons (.ofF s16 (by kernel_rfl)) Tryd.func16 (by kernel_rfl) (by kernel_rfl) (Known.cons (.ofF s34 (by kernel_rfl)) Tryd.func34 (by kernel_rfl) (by kernel_rfl) (Known.cons (.ofD s36 (by kernel_rfl)) Tryd.func36 (by kernel_rfl) (by kernel_rfl) (Known.nil)))) Tryd.func19 (by kernel_rfl) (Nat.le_of_ble_eq_true (by kernel_rfl)) rfl

/-! reredos/reredoskeep.SendFull -/
noncomputable def r4_L0 (y3 : Int) (y2 : (Int × (Int × (Int × ((Int × Int) × (Int × (Int × (Int × (Int × (Int × (Bool × Int))))))))))) (d5 : (Unit × (Int × List ((Int × (Int × (Int × ((Int × Int) × (Int × (Int × (Int × (Int × (Int × (Bool × Int)))))))))))))) : Option ((Unit × (Int × List ((Int × (Int × (Int × ((Int × Int) × (Int × (Int × (Int × (Int × (Int × (Bool × Int))))))))))))) ⊕ (Unit × List ((Int × (Int × (Int × ((Int × Int) × (Int × (Int × (Int × (Int × (Int × (Bool × Int))))))))))))) :=
  bif decide (d5.2.1 < y3) then
    bif roomOk false d5.2.2.length 1 96 then
      some (Sum.inl ((), ((Go.IntKind.wrap .i64 (d5.2.1 + (1 : Int))), app d5.2.2 [y2])))
    else
      none
  else
    some (Sum.inr ((), d5.2.2))
def sg4 : Sig := ⟨[⟨false, .bo, (.int .i64)⟩, ⟨false, .bo, (.sl (.int .i64))⟩, ⟨true, .bo, (.pair (.int .i64) (.pair (.int .i64) (.pair (.int .i64) (.pair (.int .i64) (.pair (.int .i64) (.int .i64))))))⟩, ⟨false, .bo, (.int .i64)⟩], [⟨false, .own, .bool⟩]⟩
noncomputable def r4 (a : (Int × (List Int × ((Int × (Int × (Int × (Int × (Int × Int))))) × Int)))) : Option Bool :=
  Option.bind (r11 (a.1, a.2.1, (1 : Int))) fun (y1 : (Int × (List ((Int × Int)) × Int))) =>
    Option.bind (r17 (y1, a.2.2.1)) fun (y2 : (Int × (Int × (Int × ((Int × Int) × (Int × (Int × (Int × (Int × (Int × (Bool × Int))))))))))) =>
      Option.bind (r18 (a.2.2.2, (90 : Int))) fun (y3 : Int) =>
        Option.bind (loopR (r4_L0 y3 y2) ((), ((0 : Int), []))) fun (q6 : (Unit × List ((Int × (Int × (Int × ((Int × Int) × (Int × (Int × (Int × (Int × (Int × (Bool × Int))))))))))))) =>
          Option.bind (r13 y1) fun (y7 : (List (List ((Int × (Int × (Int × ((Int × Int) × (Int × (Int × (Int × (Int × (Int × (Bool × Int)))))))))))) × Int)) =>
            Option.bind (r14 (y1, y7.1, q6.2)) fun (y8 : (List (List ((Int × (Int × (Int × ((Int × Int) × (Int × (Int × (Int × (Int × (Int × (Bool × Int)))))))))))) × Int)) =>
              Option.bind (r19 (y1, y8.1, y2.2.1, y2.2.2.1, (0 : Int), (4 : Int))) fun (y9 : (List (List ((Int × (Int × (Int × ((Int × Int) × (Int × (Int × (Int × (Int × (Int × (Bool × Int)))))))))))) × ((Int × (Int × (Int × ((Int × Int) × (Int × (Int × (Int × (Int × (Int × (Bool × Int)))))))))) × Int))) =>
                Option.bind (
                  Option.bind (
                    bif !(!(decide (y7.2 = (0 : Int)))) then
                      some (!(decide (y8.2 = (0 : Int))))
                    else
                      some true) fun (g14 : Bool) =>
                    bif !(g14) then
                      Option.bind (r15 y8.1) fun (y15 : Int) =>
                        some (!(decide (y15 = (min y3 (30 : Int)))))
                    else
                      some true) fun (d16 : Bool) =>
                  bif d16 then
                    some false
                  else
                    bif decide (y3 = (0 : Int)) then
                      some (decide (y9.2.2 = (6 : Int)))
                    else
                      bif decide ((30 : Int) ≤ y3) then
                        some (decide (y9.2.2 = (8 : Int)))
                      else
                        some (decide (y9.2.2 = (0 : Int)))
def an4 : Ann := .two (.leaf) (.two (.leaf) (.two (.leaf) (.two (.leaf) (.two (.leaf) (.two (.two (.leaf) (.one (.loop [9, 10, 11] [9, 10] [(12, (.pair (.int .i64) (.pair (.int .i64) (.pair (.int .i64) (.pair (.pair (.int .i64) (.int .i64)) (.pair (.int .i64) (.pair (.int .i64) (.pair (.int .i64) (.pair (.int .i64) (.pair (.int .i64) (.pair .bool (.int .i64))))))))))))] [.tmp 12 (.own 12 [(0, 0)] (.pair (.int .i64) (.pair (.int .i64) (.pair (.int .i64) (.pair (.pair (.int .i64) (.int .i64)) (.pair (.int .i64) (.pair (.int .i64) (.pair (.int .i64) (.pair (.int .i64) (.pair (.int .i64) (.pair .bool (.int .i64)))))))))))), .tmp 13 (.int .i64), .row 12 [.sl .own (.pair (.int .i64) (.pair (.int .i64) (.pair (.int .i64) (.pair (.pair (.int .i64) (.int .i64)) (.pair (.int .i64) (.pair (.int .i64) (.pair (.int .i64) (.pair (.int .i64) (.pair (.int .i64) (.pair .bool (.int .i64)))))))))))]] [⟨.exit 0, [], [.tmp 12 (.own 12 [(0, 0)] (.pair (.int .i64) (.pair (.int .i64) (.pair (.int .i64) (.pair (.pair (.int .i64) (.int .i64)) (.pair (.int .i64) (.pair (.int .i64) (.pair (.int .i64) (.pair (.int .i64) (.pair (.int .i64) (.pair .bool (.int .i64)))))))))))), .row 12 [.sl .own (.pair (.int .i64) (.pair (.int .i64) (.pair (.int .i64) (.pair (.pair (.int .i64) (.int .i64)) (.pair (.int .i64) (.pair (.int .i64) (.pair (.int .i64) (.pair (.int .i64) (.pair (.int .i64) (.pair .bool (.int .i64)))))))))))]]⟩] (.two (.two (.leaf) (.two (.leaf) (.leaf))) (.two (.one (.leaf)) (.leaf)))))) (.two (.leaf) (.two (.leaf) (.two (.leaf) (.two (.two (.join [11, 19] [] [⟨.normal, [], [.tmp 72 (.bool)]⟩] (.segs [(6, ([11, 14, 19], ([46], [.tmp 65 (.bool)])))])) (.two (.two (.leaf) (.leaf)) (.leaf))) (.two (.one (.two (.leaf) (.two (.two (.leaf) (.leaf)) (.two (.leaf) (.two (.two (.leaf) (.leaf)) (.leaf)))))) (.two (.leaf) (.leaf))))))))))))
theorem s4 : SoundF cx.P cx.G 4 sg4 r4 := by
  have e : denF cx [(11, ⟨sg11, r11⟩), (13, ⟨sg13, r13⟩), (14, ⟨sg14, r14⟩), (15, ⟨sg15, r15⟩), (17, ⟨sg17, r17⟩), (18, ⟨sg18, r18⟩), (19, ⟨sg19, r19⟩)] an4 Tryd.f4.ntmps (Tryd.f4.body.getD .skip) Tryd.f4.results.toList sg4 = r4 := by kernel_rfl
  rw [← e]
  exact sound_of_den (c := cx) (Known.cons (.ofF s11 (by kernel_rfl)) Tryd.func11 (by kernel_rfl) (by kernel_rfl) (Known.cons (.ofF s13 (by kernel_rfl)) Tryd.func13 (by kernel_rfl) (by kernel_rfl) (Known.cons (.ofF s14 (by kernel_rfl)) Tryd.func14 (by kernel_rfl) (by kernel_rfl) (Known.cons (.ofF s15 (by kernel_rfl)) Tryd.func15 (by kernel_rfl) (by kernel_rfl) (Known.cons (.ofF s17 (by kernel_rfl)) Tryd.func17 (by kernel_rfl) (by kernel_rfl) (Known.cons (.ofF s18 (by kernel_rfl)) Tryd.func18 (by kernel_rfl) (by kernel_rfl) (Known.cons (.ofF s19 (by kernel_rfl)) Tryd.func19 (by kernel_rfl) (by kernel_rfl) (Known.nil)))))))) Tryd.func4 (by kernel_rfl) (Nat.le_of_ble_eq_true (by kernel_rfl)) rfl

/-! reredos/reredoskeep.TakeOne -/
def sg5 : Sig := ⟨[⟨false, .bo, (.int .i64)⟩, ⟨false, .bo, (.sl (.int .i64))⟩, ⟨false, .bo, (.sl (.pair (.int .i64) (.pair (.int .i64) (.pair (.int .i64) (.pair (.int .i64) (.pair (.int .i64) (.int .i64)))))))⟩, ⟨false, .bo, (.int .i64)⟩, ⟨false, .bo, (.int .i64)⟩], [⟨false, .own, .bool⟩]⟩
noncomputable def r5 (a : (Int × (List Int × (List ((Int × (Int × (Int × (Int × (Int × Int)))))) × (Int × Int))))) : Option Bool :=
  Option.bind (r11 (a.1, a.2.1, (1 : Int))) fun (y1 : (Int × (List ((Int × Int)) × Int))) =>
    Option.bind (r12 (y1, a.2.2.1, (20 : Int))) fun (y2 : List ((Int × (Int × (Int × ((Int × Int) × (Int × (Int × (Int × (Int × (Int × (Bool × Int)))))))))))) =>
      Option.bind (r13 y1) fun (y3 : (List (List ((Int × (Int × (Int × ((Int × Int) × (Int × (Int × (Int × (Int × (Int × (Bool × Int)))))))))))) × Int)) =>
        Option.bind (r14 (y1, y3.1, y2)) fun (y4 : (List (List ((Int × (Int × (Int × ((Int × Int) × (Int × (Int × (Int × (Int × (Int × (Bool × Int)))))))))))) × Int)) =>
          Option.bind (
            Option.bind (
              bif !(!(decide (y3.2 = (0 : Int)))) then
                some (!(decide (y4.2 = (0 : Int))))
              else
                some true) fun (g7 : Bool) =>
              bif !(g7) then
                some (!(decide ((↑y4.1.length : Int) = (Go.IntKind.wrap .i64 (y1.1 * y1.1)))))
              else
                some true) fun (d8 : Bool) =>
            bif d8 then
              some false
            else
              bif decide ((↑y2.length : Int) = (0 : Int)) then
                Option.bind (r19 (y1, y4.1, (0 : Int), (0 : Int), (0 : Int), (3 : Int))) fun (y9 : (List (List ((Int × (Int × (Int × ((Int × Int) × (Int × (Int × (Int × (Int × (Int × (Bool × Int)))))))))))) × ((Int × (Int × (Int × ((Int × Int) × (Int × (Int × (Int × (Int × (Int × (Bool × Int)))))))))) × Int))) =>
                  some (decide (y9.2.2 = (6 : Int)))
              else
                bif inB (0 : Int) y2.length then
                  Option.bind (idxN y2 0) fun (x12 : (Int × (Int × (Int × ((Int × Int) × (Int × (Int × (Int × (Int × (Int × (Bool × Int))))))))))) =>
                    bif inB (0 : Int) y2.length then
                      Option.bind (idxN y2 0) fun (x13 : (Int × (Int × (Int × ((Int × Int) × (Int × (Int × (Int × (Int × (Int × (Bool × Int))))))))))) =>
                        Option.bind (r18 (a.2.2.2.2, (3 : Int))) fun (y14 : Int) =>
                          Option.bind (r18 (a.2.2.2.1, (50 : Int))) fun (y15 : Int) =>
                            Option.bind (
                              bif inB (0 : Int) y2.length then
                                Option.bind (idxN y2 0) fun (x22 : (Int × (Int × (Int × ((Int × Int) × (Int × (Int × (Int × (Int × (Int × (Bool × Int))))))))))) =>
                                  bif inB (0 : Int) y2.length then
                                    Option.bind (idxN y2 0) fun (x23 : (Int × (Int × (Int × ((Int × Int) × (Int × (Int × (Int × (Int × (Int × (Bool × Int))))))))))) =>
                                      Option.bind (r19 (y1, y4.1, x22.2.1, x23.2.2.1, y15, (Go.IntKind.wrap .i64 ((2 : Int) + y14)))) fun (y24 : (List (List ((Int × (Int × (Int × ((Int × Int) × (Int × (Int × (Int × (Int × (Int × (Bool × Int)))))))))))) × ((Int × (Int × (Int × ((Int × Int) × (Int × (Int × (Int × (Int × (Int × (Bool × Int)))))))))) × Int))) =>
                                        
                                          some ((), ((), (y24.2.2, ((y24.1, (y24.2.1.1, (y24.2.1.2.1, (y24.2.1.2.2.1, (y24.2.1.2.2.2.1.1, (y24.2.1.2.2.2.1.2, (y24.2.1.2.2.2.2.1, (y24.2.1.2.2.2.2.2.1, (y24.2.1.2.2.2.2.2.2.1, (y24.2.1.2.2.2.2.2.2.2.1, (y24.2.1.2.2.2.2.2.2.2.2.1, (y24.2.1.2.2.2.2.2.2.2.2.2.1, (y24.2.1.2.2.2.2.2.2.2.2.2.2, y24.2.2))))))))))))), (y24.2.1.1, (y24.2.1.2.1, (y24.2.1.2.2.1, (y24.2.1.2.2.2.1.1, (y24.2.1.2.2.2.1.2, y24.2.1.2.2.2.2)))))))))
                                  else
                                    none
                              else
                                none) fun (d25 : (Unit × (Unit × (Int × ((List (List ((Int × (Int × (Int × ((Int × Int) × (Int × (Int × (Int × (Int × (Int × (Bool × Int)))))))))))) × (Int × (Int × (Int × (Int × (Int × (Int × (Int × (Int × (Int × (Int × (Bool × (Int × Int))))))))))))) × (Int × (Int × (Int × (Int × (Int × (Int × (Int × (Int × (Int × (Int × (Bool × Int)))))))))))))))) =>
                              Option.bind (
                                bif !(!(decide (d25.2.2.1 = (0 : Int)))) then
                                  bif inB (Go.IntKind.wrap .i64 ((Go.IntKind.wrap .i64 (x12.2.1 * y1.1)) + x13.2.2.1)) y4.1.length then
                                    Option.bind (idxN y4.1 (Int.toNat (Go.IntKind.wrap .i64 ((Go.IntKind.wrap .i64 (x12.2.1 * y1.1)) + x13.2.2.1)))) fun (x56 : List ((Int × (Int × (Int × ((Int × Int) × (Int × (Int × (Int × (Int × (Int × (Bool × Int)))))))))))) =>
                                      bif inB (Go.IntKind.wrap .i64 ((Go.IntKind.wrap .i64 (x12.2.1 * y1.1)) + x13.2.2.1)) y4.1.length then
                                        Option.bind (idxN y4.1 (Int.toNat (Go.IntKind.wrap .i64 ((Go.IntKind.wrap .i64 (x12.2.1 * y1.1)) + x13.2.2.1)))) fun (x57 : List ((Int × (Int × (Int × ((Int × Int) × (Int × (Int × (Int × (Int × (Int × (Bool × Int)))))))))))) =>
                                          Option.bind (idxN y4.1 (Int.toNat (Go.IntKind.wrap .i64 ((Go.IntKind.wrap .i64 (x12.2.1 * y1.1)) + x13.2.2.1)))) fun (x58 : List ((Int × (Int × (Int × ((Int × Int) × (Int × (Int × (Int × (Int × (Int × (Bool × Int)))))))))))) =>
                                            bif decide ((↑x58.length : Int) = 0) then
                                              none
                                            else
                                              Option.bind (idxN y4.1 (Int.toNat (Go.IntKind.wrap .i64 ((Go.IntKind.wrap .i64 (x12.2.1 * y1.1)) + x13.2.2.1)))) fun (x59 : List ((Int × (Int × (Int × ((Int × Int) × (Int × (Int × (Int × (Int × (Int × (Bool × Int)))))))))))) =>
                                                bif inB (Int.tmod y15 (↑x58.length : Int)) x59.length then
                                                  Option.bind (idxN y4.1 (Int.toNat (Go.IntKind.wrap .i64 ((Go.IntKind.wrap .i64 (x12.2.1 * y1.1)) + x13.2.2.1)))) fun (x60 : List ((Int × (Int × (Int × ((Int × Int) × (Int × (Int × (Int × (Int × (Int × (Bool × Int)))))))))))) =>
                                                    Option.bind (idxN x60 (Int.toNat (Int.tmod y15 (↑x58.length : Int)))) fun (x61 : (Int × (Int × (Int × ((Int × Int) × (Int × (Int × (Int × (Int × (Int × (Bool × Int))))))))))) =>
                                                      some (!((decide (d25.2.2.2.2.1 = x61.1) && (decide (d25.2.2.2.2.2.1 = x61.2.1) && (decide (d25.2.2.2.2.2.2.1 = x61.2.2.1) && ((decide (d25.2.2.2.2.2.2.2.1 = x61.2.2.2.1.1) && (decide (d25.2.2.2.2.2.2.2.2.1 = x61.2.2.2.1.2) && true)) && (decide (d25.2.2.2.2.2.2.2.2.2.1 = x61.2.2.2.2.1) && (decide (d25.2.2.2.2.2.2.2.2.2.2.1 = x61.2.2.2.2.2.1) && (decide (d25.2.2.2.2.2.2.2.2.2.2.2.1 = x61.2.2.2.2.2.2.1) && (decide (d25.2.2.2.2.2.2.2.2.2.2.2.2.1 = x61.2.2.2.2.2.2.2.1) && (decide (d25.2.2.2.2.2.2.2.2.2.2.2.2.2.1 = x61.2.2.2.2.2.2.2.2.1) && (decide (d25.2.2.2.2.2.2.2.2.2.2.2.2.2.2.1 = x61.2.2.2.2.2.2.2.2.2.1) && (decide (d25.2.2.2.2.2.2.2.2.2.2.2.2.2.2.2 = x61.2.2.2.2.2.2.2.2.2.2) && true)))))))))))))
                                                else
                                                  none
                                      else
                                        none
                                  else
                                    none
                                else
                                  some true) fun (d62 : Bool) =>
                                bif d62 then
                                  some false
                                else
                                  bif decide ((Go.IntKind.wrap .i64 ((2 : Int) + y14)) = (4 : Int)) then
                                    Option.bind (r15 d25.2.2.2.1.1) fun (y70 : Int) =>
                                      bif decide (y70 = (Go.IntKind.wrap .i64 ((↑y2.length : Int) + (1 : Int)))) then
                                        bif inB (Go.IntKind.wrap .i64 ((Go.IntKind.wrap .i64 (x12.2.1 * y1.1)) + x13.2.2.1)) d25.2.2.2.1.1.length then
                                          Option.bind (idxN d25.2.2.2.1.1 (Int.toNat (Go.IntKind.wrap .i64 ((Go.IntKind.wrap .i64 (x12.2.1 * y1.1)) + x13.2.2.1)))) fun (x71 : List ((Int × (Int × (Int × ((Int × Int) × (Int × (Int × (Int × (Int × (Int × (Bool × Int)))))))))))) =>
                                            bif inB (Go.IntKind.wrap .i64 ((Go.IntKind.wrap .i64 (x12.2.1 * y1.1)) + x13.2.2.1)) y4.1.length then
                                              Option.bind (idxN y4.1 (Int.toNat (Go.IntKind.wrap .i64 ((Go.IntKind.wrap .i64 (x12.2.1 * y1.1)) + x13.2.2.1)))) fun (x72 : List ((Int × (Int × (Int × ((Int × Int) × (Int × (Int × (Int × (Int × (Int × (Bool × Int)))))))))))) =>
                                                Option.bind (idxN y4.1 (Int.toNat (Go.IntKind.wrap .i64 ((Go.IntKind.wrap .i64 (x12.2.1 * y1.1)) + x13.2.2.1)))) fun (x73 : List ((Int × (Int × (Int × ((Int × Int) × (Int × (Int × (Int × (Int × (Int × (Bool × Int)))))))))))) =>
                                                  Option.bind (idxN d25.2.2.2.1.1 (Int.toNat (Go.IntKind.wrap .i64 ((Go.IntKind.wrap .i64 (x12.2.1 * y1.1)) + x13.2.2.1)))) fun (x74 : List ((Int × (Int × (Int × ((Int × Int) × (Int × (Int × (Int × (Int × (Int × (Bool × Int)))))))))))) =>
                                                    bif inB (↑x73.length : Int) x74.length then
                                                      Option.bind (idxN d25.2.2.2.1.1 (Int.toNat (Go.IntKind.wrap .i64 ((Go.IntKind.wrap .i64 (x12.2.1 * y1.1)) + x13.2.2.1)))) fun (x75 : List ((Int × (Int × (Int × ((Int × Int) × (Int × (Int × (Int × (Int × (Int × (Bool × Int)))))))))))) =>
                                                        Option.bind (idxN x75 (Int.toNat (↑x73.length : Int))) fun (x76 : (Int × (Int × (Int × ((Int × Int) × (Int × (Int × (Int × (Int × (Int × (Bool × Int))))))))))) =>
                                                          some (decide (x76.1 = d25.2.2.2.2.1) && (decide (x76.2.1 = d25.2.2.2.2.2.1) && (decide (x76.2.2.1 = d25.2.2.2.2.2.2.1) && ((decide (x76.2.2.2.1.1 = d25.2.2.2.2.2.2.2.1) && (decide (x76.2.2.2.1.2 = d25.2.2.2.2.2.2.2.2.1) && true)) && (decide (x76.2.2.2.2.1 = d25.2.2.2.2.2.2.2.2.2.1) && (decide (x76.2.2.2.2.2.1 = d25.2.2.2.2.2.2.2.2.2.2.1) && (decide (x76.2.2.2.2.2.2.1 = d25.2.2.2.2.2.2.2.2.2.2.2.1) && (decide (x76.2.2.2.2.2.2.2.1 = d25.2.2.2.2.2.2.2.2.2.2.2.2.1) && (decide (x76.2.2.2.2.2.2.2.2.1 = d25.2.2.2.2.2.2.2.2.2.2.2.2.2.1) && (decide (x76.2.2.2.2.2.2.2.2.2.1 = d25.2.2.2.2.2.2.2.2.2.2.2.2.2.2.1) && (decide (x76.2.2.2.2.2.2.2.2.2.2 = d25.2.2.2.2.2.2.2.2.2.2.2.2.2.2.2) && true)))))))))))
                                                    else
                                                      none
                                            else
                                              none
                                        else
                                          none
                                      else
                                        some false
                                  else
                                    Option.bind (r15 d25.2.2.2.1.1) fun (y77 : Int) =>
                                      some (decide (y77 = (Go.IntKind.wrap .i64 ((↑y2.length : Int) - (1 : Int)))))
                    else
                      none
                else
                  none
noncomputable def r5q : (Int × (List Int × (List ((Int × (Int × (Int × (Int × (Int × Int)))))) × (Int × Int)))) → Option Bool := fun a =>
  Option.bind (r11 (a.1, a.2.1, (1 : Int))) fun (y1 : (Int × (List ((Int × Int)) × Int))) =>
    Option.bind (r12 (y1, a.2.2.1, (20 : Int))) fun (y2 : List ((Int × (Int × (Int × ((Int × Int) × (Int × (Int × (Int × (Int × (Int × (Bool × Int)))))))))))) =>
      Option.bind (r13 y1) fun (y3 : (List (List ((Int × (Int × (Int × ((Int × Int) × (Int × (Int × (Int × (Int × (Int × (Bool × Int)))))))))))) × Int)) =>
        Option.bind (r14 (y1, y3.1, y2)) fun (y4 : (List (List ((Int × (Int × (Int × ((Int × Int) × (Int × (Int × (Int × (Int × (Int × (Bool × Int)))))))))))) × Int)) =>
          Option.bind (
            Option.bind (
              bif !(!(decide (y3.2 = (0 : Int)))) then
                some (!(decide (y4.2 = (0 : Int))))
              else
                some true) fun (g7 : Bool) =>
              bif !(g7) then
                some (!(decide ((↑y4.1.length : Int) = (Go.IntKind.wrap .i64 (y1.1 * y1.1)))))
              else
                some true) fun (d8 : Bool) =>
            bif d8 then
              some false
            else
              bif decide ((↑y2.length : Int) = (0 : Int)) then
                Option.bind (r19 (y1, y4.1, (0 : Int), (0 : Int), (0 : Int), (3 : Int))) fun (y9 : (List (List ((Int × (Int × (Int × ((Int × Int) × (Int × (Int × (Int × (Int × (Int × (Bool × Int)))))))))))) × ((Int × (Int × (Int × ((Int × Int) × (Int × (Int × (Int × (Int × (Int × (Bool × Int)))))))))) × Int))) =>
                  some (decide (y9.2.2 = (6 : Int)))
              else
                bif inB (0 : Int) y2.length then
                  Option.bind (idxN y2 0) fun (x12 : (Int × (Int × (Int × ((Int × Int) × (Int × (Int × (Int × (Int × (Int × (Bool × Int))))))))))) =>
                    bif inB (0 : Int) y2.length then
                      Option.bind (idxN y2 0) fun (x13 : (Int × (Int × (Int × ((Int × Int) × (Int × (Int × (Int × (Int × (Int × (Bool × Int))))))))))) =>
                        Option.bind (r18 (a.2.2.2.2, (3 : Int))) fun (y14 : Int) =>
                          Option.bind (r18 (a.2.2.2.1, (50 : Int))) fun (y15 : Int) =>
                            Option.bind (
                              bif inB (0 : Int) y2.length then
                                Option.bind (idxN y2 0) fun (x22 : (Int × (Int × (Int × ((Int × Int) × (Int × (Int × (Int × (Int × (Int × (Bool × Int))))))))))) =>
                                  bif inB (0 : Int) y2.length then
                                    Option.bind (idxN y2 0) fun (x23 : (Int × (Int × (Int × ((Int × Int) × (Int × (Int × (Int × (Int × (Int × (Bool × Int))))))))))) =>
                                      Option.bind (r19 (y1, y4.1, x22.2.1, x23.2.2.1, y15, (Go.IntKind.wrap .i64 ((2 : Int) + y14)))) fun (y24 : (List (List ((Int × (Int × (Int × ((Int × Int) × (Int × (Int × (Int × (Int × (Int × (Bool × Int)))))))))))) × ((Int × (Int × (Int × ((Int × Int) × (Int × (Int × (Int × (Int × (Int × (Bool × Int)))))))))) × Int))) =>
                                        sameR (
                                          some ((), ((), (y24.2.2, ((y24.1, (y24.2.1.1, (y24.2.1.2.1, (y24.2.1.2.2.1, (y24.2.1.2.2.2.1.1, (y24.2.1.2.2.2.1.2, (y24.2.1.2.2.2.2.1, (y24.2.1.2.2.2.2.2.1, (y24.2.1.2.2.2.2.2.2.1, (y24.2.1.2.2.2.2.2.2.2.1, (y24.2.1.2.2.2.2.2.2.2.2.1, (y24.2.1.2.2.2.2.2.2.2.2.2.1, (y24.2.1.2.2.2.2.2.2.2.2.2.2, y24.2.2))))))))))))), (y24.2.1.1, (y24.2.1.2.1, (y24.2.1.2.2.1, (y24.2.1.2.2.2.1.1, (y24.2.1.2.2.2.1.2, y24.2.1.2.2.2.2))))))))))
 (
                                          sameR (
                                            some ((), ((), (y24.2.2, ((y24.1, (y24.2.1.1, (y24.2.1.2.1, (y24.2.1.2.2.1, (y24.2.1.2.2.2.1.1, (y24.2.1.2.2.2.1.2, (y24.2.1.2.2.2.2.1, (y24.2.1.2.2.2.2.2.1, (y24.2.1.2.2.2.2.2.2.1, (y24.2.1.2.2.2.2.2.2.2.1, (y24.2.1.2.2.2.2.2.2.2.2.1, (y24.2.1.2.2.2.2.2.2.2.2.2.1, (y24.2.1.2.2.2.2.2.2.2.2.2.2, y24.2.2))))))))))))), (y24.2.1.1, (y24.2.1.2.1, (y24.2.1.2.2.1, (y24.2.1.2.2.2.1.1, (y24.2.1.2.2.2.1.2, y24.2.1.2.2.2.2))))))))))
 (
                                            some ((), ((), (y24.2.2, ((y24.1, (y24.2.1.1, (y24.2.1.2.1, (y24.2.1.2.2.1, (y24.2.1.2.2.2.1.1, (y24.2.1.2.2.2.1.2, (y24.2.1.2.2.2.2.1, (y24.2.1.2.2.2.2.2.1, (y24.2.1.2.2.2.2.2.2.1, (y24.2.1.2.2.2.2.2.2.2.1, (y24.2.1.2.2.2.2.2.2.2.2.1, (y24.2.1.2.2.2.2.2.2.2.2.2.1, (y24.2.1.2.2.2.2.2.2.2.2.2.2, y24.2.2))))))))))))), (y24.2.1.1, (y24.2.1.2.1, (y24.2.1.2.2.1, (y24.2.1.2.2.2.1.1, (y24.2.1.2.2.2.1.2, y24.2.1.2.2.2.2)))))))))))
                                  else
                                    none
                              else
                                none) fun (d25 : (Unit × (Unit × (Int × ((List (List ((Int × (Int × (Int × ((Int × Int) × (Int × (Int × (Int × (Int × (Int × (Bool × Int)))))))))))) × (Int × (Int × (Int × (Int × (Int × (Int × (Int × (Int × (Int × (Int × (Bool × (Int × Int))))))))))))) × (Int × (Int × (Int × (Int × (Int × (Int × (Int × (Int × (Int × (Int × (Bool × Int)))))))))))))))) =>
                              Option.bind (
                                bif !(!(decide (d25.2.2.1 = (0 : Int)))) then
                                  bif inB (Go.IntKind.wrap .i64 ((Go.IntKind.wrap .i64 (x12.2.1 * y1.1)) + x13.2.2.1)) y4.1.length then
                                    Option.bind (idxN y4.1 (Int.toNat (Go.IntKind.wrap .i64 ((Go.IntKind.wrap .i64 (x12.2.1 * y1.1)) + x13.2.2.1)))) fun (x56 : List ((Int × (Int × (Int × ((Int × Int) × (Int × (Int × (Int × (Int × (Int × (Bool × Int)))))))))))) =>
                                      bif inB (Go.IntKind.wrap .i64 ((Go.IntKind.wrap .i64 (x12.2.1 * y1.1)) + x13.2.2.1)) y4.1.length then
                                        Option.bind (idxN y4.1 (Int.toNat (Go.IntKind.wrap .i64 ((Go.IntKind.wrap .i64 (x12.2.1 * y1.1)) + x13.2.2.1)))) fun (x57 : List ((Int × (Int × (Int × ((Int × Int) × (Int × (Int × (Int × (Int × (Int × (Bool × Int)))))))))))) =>
                                          Option.bind (idxN y4.1 (Int.toNat (Go.IntKind.wrap .i64 ((Go.IntKind.wrap .i64 (x12.2.1 * y1.1)) + x13.2.2.1)))) fun (x58 : List ((Int × (Int × (Int × ((Int × Int) × (Int × (Int × (Int × (Int × (Int × (Bool × Int)))))))))))) =>
                                            bif decide ((↑x58.length : Int) = 0) then
                                              none
                                            else
                                              Option.bind (idxN y4.1 (Int.toNat (Go.IntKind.wrap .i64 ((Go.IntKind.wrap .i64 (x12.2.1 * y1.1)) + x13.2.2.1)))) fun (x59 : List ((Int × (Int × (Int × ((Int × Int) × (Int × (Int × (Int × (Int × (Int × (Bool × Int)))))))))))) =>
                                                bif inB (Int.tmod y15 (↑x58.length : Int)) x59.length then
                                                  Option.bind (idxN y4.1 (Int.toNat (Go.IntKind.wrap .i64 ((Go.IntKind.wrap .i64 (x12.2.1 * y1.1)) + x13.2.2.1)))) fun (x60 : List ((Int × (Int × (Int × ((Int × Int) × (Int × (Int × (Int × (Int × (Int × (Bool × Int)))))))))))) =>
                                                    Option.bind (idxN x60 (Int.toNat (Int.tmod y15 (↑x58.length : Int)))) fun (x61 : (Int × (Int × (Int × ((Int × Int) × (Int × (Int × (Int × (Int × (Int × (Bool × Int))))))))))) =>
                                                      some (!((decide (d25.2.2.2.2.1 = x61.1) && (decide (d25.2.2.2.2.2.1 = x61.2.1) && (decide (d25.2.2.2.2.2.2.1 = x61.2.2.1) && ((decide (d25.2.2.2.2.2.2.2.1 = x61.2.2.2.1.1) && (decide (d25.2.2.2.2.2.2.2.2.1 = x61.2.2.2.1.2) && true)) && (decide (d25.2.2.2.2.2.2.2.2.2.1 = x61.2.2.2.2.1) && (decide (d25.2.2.2.2.2.2.2.2.2.2.1 = x61.2.2.2.2.2.1) && (decide (d25.2.2.2.2.2.2.2.2.2.2.2.1 = x61.2.2.2.2.2.2.1) && (decide (d25.2.2.2.2.2.2.2.2.2.2.2.2.1 = x61.2.2.2.2.2.2.2.1) && (decide (d25.2.2.2.2.2.2.2.2.2.2.2.2.2.1 = x61.2.2.2.2.2.2.2.2.1) && (decide (d25.2.2.2.2.2.2.2.2.2.2.2.2.2.2.1 = x61.2.2.2.2.2.2.2.2.2.1) && (decide (d25.2.2.2.2.2.2.2.2.2.2.2.2.2.2.2 = x61.2.2.2.2.2.2.2.2.2.2) && true)))))))))))))
                                                else
                                                  none
                                      else
                                        none
                                  else
                                    none
                                else
                                  some true) fun (d62 : Bool) =>
                                bif d62 then
                                  some false
                                else
                                  bif decide ((Go.IntKind.wrap .i64 ((2 : Int) + y14)) = (4 : Int)) then
                                    Option.bind (r15 d25.2.2.2.1.1) fun (y70 : Int) =>
                                      bif decide (y70 = (Go.IntKind.wrap .i64 ((↑y2.length : Int) + (1 : Int)))) then
                                        bif inB (Go.IntKind.wrap .i64 ((Go.IntKind.wrap .i64 (x12.2.1 * y1.1)) + x13.2.2.1)) d25.2.2.2.1.1.length then
                                          Option.bind (idxN d25.2.2.2.1.1 (Int.toNat (Go.IntKind.wrap .i64 ((Go.IntKind.wrap .i64 (x12.2.1 * y1.1)) + x13.2.2.1)))) fun (x71 : List ((Int × (Int × (Int × ((Int × Int) × (Int × (Int × (Int × (Int × (Int × (Bool × Int)))))))))))) =>
                                            bif inB (Go.IntKind.wrap .i64 ((Go.IntKind.wrap .i64 (x12.2.1 * y1.1)) + x13.2.2.1)) y4.1.length then
                                              Option.bind (idxN y4.1 (Int.toNat (Go.IntKind.wrap .i64 ((Go.IntKind.wrap .i64 (x12.2.1 * y1.1)) + x13.2.2.1)))) fun (x72 : List ((Int × (Int × (Int × ((Int × Int) × (Int × (Int × (Int × (Int × (Int × (Bool × Int)))))))))))) =>
                                                Option.bind (idxN y4.1 (Int.toNat (Go.IntKind.wrap .i64 ((Go.IntKind.wrap .i64 (x12.2.1 * y1.1)) + x13.2.2.1)))) fun (x73 : List ((Int × (Int × (Int × ((Int × Int) × (Int × (Int × (Int × (Int × (Int × (Bool × Int)))))))))))) =>
                                                  Option.bind (idxN d25.2.2.2.1.1 (Int.toNat (Go.IntKind.wrap .i64 ((Go.IntKind.wrap .i64 (x12.2.1 * y1.1)) + x13.2.2.1)))) fun (x74 : List ((Int × (Int × (Int × ((Int × Int) × (Int × (Int × (Int × (Int × (Int × (Bool × Int)))))))))))) =>
                                                    bif inB (↑x73.length : Int) x74.length then
                                                      Option.bind (idxN d25.2.2.2.1.1 (Int.toNat (Go.IntKind.wrap .i64 ((Go.IntKind.wrap .i64 (x12.2.1 * y1.1)) + x13.2.2.1)))) fun (x75 : List ((Int × (Int × (Int × ((Int × Int) × (Int × (Int × (Int × (Int × (Int × (Bool × Int)))))))))))) =>
                                                        Option.bind (idxN x75 (Int.toNat (↑x73.length : Int))) fun (x76 : (Int × (Int × (Int × ((Int × Int) × (Int × (Int × (Int × (Int × (Int × (Bool × Int))))))))))) =>
                                                          some (decide (x76.1 = d25.2.2.2.2.1) && (decide (x76.2.1 = d25.2.2.2.2.2.1) && (decide (x76.2.2.1 = d25.2.2.2.2.2.2.1) && ((decide (x76.2.2.2.1.1 = d25.2.2.2.2.2.2.2.1) && (decide (x76.2.2.2.1.2 = d25.2.2.2.2.2.2.2.2.1) && true)) && (decide (x76.2.2.2.2.1 = d25.2.2.2.2.2.2.2.2.2.1) && (decide (x76.2.2.2.2.2.1 = d25.2.2.2.2.2.2.2.2.2.2.1) && (decide (x76.2.2.2.2.2.2.1 = d25.2.2.2.2.2.2.2.2.2.2.2.1) && (decide (x76.2.2.2.2.2.2.2.1 = d25.2.2.2.2.2.2.2.2.2.2.2.2.1) && (decide (x76.2.2.2.2.2.2.2.2.1 = d25.2.2.2.2.2.2.2.2.2.2.2.2.2.1) && (decide (x76.2.2.2.2.2.2.2.2.2.1 = d25.2.2.2.2.2.2.2.2.2.2.2.2.2.2.1) && (decide (x76.2.2.2.2.2.2.2.2.2.2 = d25.2.2.2.2.2.2.2.2.2.2.2.2.2.2.2) && true)))))))))))
                                                    else
                                                      none
                                            else
                                              none
                                        else
                                          none
                                      else
                                        some false
                                  else
                                    Option.bind (r15 d25.2.2.2.1.1) fun (y77 : Int) =>
                                      some (decide (y77 = (Go.IntKind.wrap .i64 ((↑y2.length : Int) - (1 : Int)))))
                    else
                      none
                else
                  none
theorem r5e : r5q = r5 := by unfold r5q r5; simp only [sameR_self]
def an5 : Ann := .two (.leaf) (.two (.leaf) (.two (.leaf) (.two (.leaf) (.two (.leaf) (.two (.two (.join [3, 4, 11, 12, 13] [11, 30, 40] [⟨.normal, [], [.tmp 58 (.bool)]⟩] (.segs [(6, ([3, 4, 11, 12, 13], ([11, 30, 40], [.tmp 48 (.bool)])))])) (.two (.two (.leaf) (.leaf)) (.leaf))) (.two (.two (.leaf) (.two (.two (.leaf) (.two (.leaf) (.leaf))) (.leaf))) (.two (.draw 11) (.two (.leaf) (.two (.leaf) (.two (.join [12, 13, 19, 20, 21] [30, 40] [⟨.normal, [], [.tmp 22 (.own 101 [(0, 0)] (.sl (.pair (.int .i64) (.pair (.int .i64) (.pair (.int .i64) (.pair (.pair (.int .i64) (.int .i64)) (.pair (.int .i64) (.pair (.int .i64) (.pair (.int .i64) (.pair (.int .i64) (.pair (.int .i64) (.pair .bool (.int .i64))))))))))))), .tmp 23 (.pt 23 [(0, 0)] 0 0 12), .tmp 24 (.int .i64), .row 101 [.sl .own (.sl (.pair (.int .i64) (.pair (.int .i64) (.pair (.int .i64) (.pair (.pair (.int .i64) (.int .i64)) (.pair (.int .i64) (.pair (.int .i64) (.pair (.int .i64) (.pair (.int .i64) (.pair (.int .i64) (.pair .bool (.int .i64)))))))))))), .int .i64, .int .i64, .int .i64, .int .i64, .int .i64, .int .i64, .int .i64, .int .i64, .int .i64, .int .i64, .bool, .int .i64, .int .i64], .box 23 [.int .i64, .int .i64, .int .i64, .int .i64, .int .i64, .int .i64, .int .i64, .int .i64, .int .i64, .int .i64, .bool, .int .i64]]⟩] (.drawT [0, 1, 2, 3, 4, 5, 6, 7, 8, 9, 10, 11, 12, 13, 14, 15, 16, 17, 18] [16])) (.two (.two (.join [12, 13, 19, 20, 22, 23] [23, 30, 40, 101] [⟨.normal, [], [.tmp 123 (.bool)]⟩] (.draw 17)) (.two (.two (.leaf) (.leaf)) (.leaf))) (.two (.two (.leaf) (.two (.two (.draw 19) (.leaf)) (.leaf))) (.two (.leaf) (.leaf))))))))))))))
theorem s5 : SoundF cx.P cx.G 5 sg5 r5 := by
  have e : denF cx [(11, ⟨sg11, r11⟩), (12, ⟨sg12, r12⟩), (13, ⟨sg13, r13⟩), (14, ⟨sg14, r14⟩), (15, ⟨sg15, r15⟩), (18, ⟨sg18, r18⟩), (19, ⟨sg19, r19⟩)] an5 Tryd.f5.ntmps (Tryd.f5.body.getD .skip) Tryd.f5.results.toList sg5 = r5q := by kernel_rfl
  rw [← r5e, ← e]
  exact sound_of_den (c := cx) (Known.cons (.ofF s11 (by kernel_rfl)) Tryd.func11 (by kernel_rfl) (by kernel_rfl) (Known.cons (.ofF s12 (by kernel_rfl)) Tryd.func12 (by kernel_rfl) (by kernel_rfl) (Known.cons (.ofF s13 (by kernel_rfl)) Tryd.func13 (by kernel_rfl) (by kernel_rfl) (Known.cons (.ofF s14 (by kernel_rfl)) Tryd.func14 (by kernel_rfl) (by kernel_rfl) (Known.cons (.ofF s15 (by kernel_rfl)) Tryd.func15 (by kernel_rfl) (by kernel_rfl) (Known.cons (.ofF s18 (by kernel_rfl)) Tryd.func18 (by kernel_rfl) (by kernel_rfl) (Known.cons (.ofF s19 (by kernel_rfl)) Tryd.func19 (by kernel_rfl) (by kernel_rfl) (Known.nil)))))))) Tryd.func5 (by kernel_rfl) (Nat.le_of_ble_eq_true (by kernel_rfl)) rfl

end Go.Hn
