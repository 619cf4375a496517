/- What the functions compute: written by gen.py. -/
import Derived.Test.YtfemngbhinlkgaaDoorLibJ
import Derived.Test.YtfemngbhinlkgaaDoorProg
import Derived.KernelRfl
namespace Go.Hm
open Go.RowKit Go.Proofs Go.V
def tys : List (Nat × TyInfo) := [
  (3, ⟨.int .i64, 1, 8, [.int .i64 0], false, [none], [none], (.int .i64)⟩),
  (4, ⟨.bool, 1, 1, [.bool false], false, [none], [none], .bool⟩),
  (5, ⟨.int .u8, 1, 1, [.int .u8 0], false, [none], [none], (.int .u8)⟩),
  (9, ⟨.str, 1, 16, [.string ⟨#[]⟩], false, [none], [none], .str⟩),
  (22, ⟨.sl 3, 1, 24, [.slice none 0 0], false, [some (.int .i64)], [none], (.sl (.int .i64))⟩),
  (23, ⟨.sl 43, 1, 24, [.slice none 0 0], false, [some (.pair (.int .i64) (.pair (.int .i64) (.pair (.int .i64) (.pair (.int .i64) (.pair (.int .i64) (.int .i64))))))], [none], (.sl (.pair (.int .i64) (.pair (.int .i64) (.pair (.int .i64) (.pair (.int .i64) (.pair (.int .i64) (.int .i64)))))))⟩),
  (24, ⟨.sl 75, 1, 24, [.slice none 0 0], false, [some (.pair (.int .i64) (.int .i64))], [none], (.sl (.pair (.int .i64) (.int .i64)))⟩),
  (26, ⟨.st [(0, 3), (1, 24), (2, 3)], 3, 40, [.int .i64 0, .slice none 0 0, .int .i64 0], false, [none, some (.pair (.int .i64) (.int .i64)), none], [none, none, none], (.pair (.int .i64) (.pair (.rsl (.pair (.int .i64) (.int .i64))) (.int .i64)))⟩),
  (31, ⟨.int .i64, 1, 8, [.int .i64 0], false, [none], [none], (.int .i64)⟩),
  (38, ⟨.st [(0, 3), (1, 3)], 2, 16, [.int .i64 0, .int .i64 0], true, [none, none], [none, none], (.pair (.int .i64) (.int .i64))⟩),
  (43, ⟨.st [(0, 3), (1, 3), (2, 3), (3, 3), (4, 3), (5, 3)], 6, 48, [.int .i64 0, .int .i64 0, .int .i64 0, .int .i64 0, .int .i64 0, .int .i64 0], false, [none, none, none, none, none, none], [none, none, none, none, none, none], (.pair (.int .i64) (.pair (.int .i64) (.pair (.int .i64) (.pair (.int .i64) (.pair (.int .i64) (.int .i64))))))⟩),
  (51, ⟨.st [(0, 3), (1, 38), (3, 3), (4, 3), (5, 3), (6, 4), (7, 22)], 8, 80, [.int .i64 0, .int .i64 0, .int .i64 0, .int .i64 0, .int .i64 0, .int .i64 0, .bool false, .slice none 0 0], false, [none, none, none, none, none, none, none, some (.int .i64)], [none, none, none, none, none, none, none, none], (.pair (.int .i64) (.pair (.pair (.int .i64) (.int .i64)) (.pair (.int .i64) (.pair (.int .i64) (.pair (.int .i64) (.pair .bool (.rsl (.int .i64))))))))⟩),
  (53, ⟨.sl 5, 1, 24, [.slice none 0 0], false, [some (.int .u8)], [none], (.sl (.int .u8))⟩),
  (57, ⟨.st [(0, 53), (1, 3)], 2, 32, [.slice none 0 0, .int .i64 0], false, [some (.int .u8), none], [none, none], (.pair (.rsl (.int .u8)) (.int .i64))⟩),
  (64, ⟨.sl 51, 1, 24, [.slice none 0 0], false, [some (.pair (.int .i64) (.pair (.pair (.int .i64) (.int .i64)) (.pair (.int .i64) (.pair (.int .i64) (.pair (.int .i64) (.pair .bool (.rsl (.int .i64))))))))], [none], (.sl (.pair (.int .i64) (.pair (.pair (.int .i64) (.int .i64)) (.pair (.int .i64) (.pair (.int .i64) (.pair (.int .i64) (.pair .bool (.rsl (.int .i64)))))))))⟩),
  (75, ⟨.st [(0, 3), (1, 3)], 2, 16, [.int .i64 0, .int .i64 0], true, [none, none], [none, none], (.pair (.int .i64) (.int .i64))⟩),
  (86, ⟨.st [(0, 53)], 1, 24, [.slice none 0 0], false, [some (.int .u8)], [none], (.rsl (.int .u8))⟩),
  (90, ⟨.st [(0, 4), (1, 4), (2, 4), (3, 4), (4, 4), (5, 4), (6, 4), (7, 4)], 8, 8, [.bool false, .bool false, .bool false, .bool false, .bool false, .bool false, .bool false, .bool false], false, [none, none, none, none, none, none, none, none], [none, none, none, none, none, none, none, none], (.pair .bool (.pair .bool (.pair .bool (.pair .bool (.pair .bool (.pair .bool (.pair .bool .bool)))))))⟩),
  (91, ⟨.arr 7 90, 56, 56, [.bool false, .bool false, .bool false, .bool false, .bool false, .bool false, .bool false, .bool false, .bool false, .bool false, .bool false, .bool false, .bool false, .bool false, .bool false, .bool false, .bool false, .bool false, .bool false, .bool false, .bool false, .bool false, .bool false, .bool false, .bool false, .bool false, .bool false, .bool false, .bool false, .bool false, .bool false, .bool false, .bool false, .bool false, .bool false, .bool false, .bool false, .bool false, .bool false, .bool false, .bool false, .bool false, .bool false, .bool false, .bool false, .bool false, .bool false, .bool false, .bool false, .bool false, .bool false, .bool false, .bool false, .bool false, .bool false, .bool false], false, [none, none, none, none, none, none, none, none, none, none, none, none, none, none, none, none, none, none, none, none, none, none, none, none, none, none, none, none, none, none, none, none, none, none, none, none, none, none, none, none, none, none, none, none, none, none, none, none, none, none, none, none, none, none, none, none], [none, none, none, none, none, none, none, none, none, none, none, none, none, none, none, none, none, none, none, none, none, none, none, none, none, none, none, none, none, none, none, none, none, none, none, none, none, none, none, none, none, none, none, none, none, none, none, none, none, none, none, none, none, none, none, none], .unit⟩),
  (102, ⟨.arr 10 90, 80, 80, [.bool false, .bool false, .bool false, .bool false, .bool false, .bool false, .bool false, .bool false, .bool false, .bool false, .bool false, .bool false, .bool false, .bool false, .bool false, .bool false, .bool false, .bool false, .bool false, .bool false, .bool false, .bool false, .bool false, .bool false, .bool false, .bool false, .bool false, .bool false, .bool false, .bool false, .bool false, .bool false, .bool false, .bool false, .bool false, .bool false, .bool false, .bool false, .bool false, .bool false, .bool false, .bool false, .bool false, .bool false, .bool false, .bool false, .bool false, .bool false, .bool false, .bool false, .bool false, .bool false, .bool false, .bool false, .bool false, .bool false, .bool false, .bool false, .bool false, .bool false, .bool false, .bool false, .bool false, .bool false, .bool false, .bool false, .bool false, .bool false, .bool false, .bool false, .bool false, .bool false, .bool false, .bool false, .bool false, .bool false, .bool false, .bool false, .bool false, .bool false], false, [none, none, none, none, none, none, none, none, none, none, none, none, none, none, none, none, none, none, none, none, none, none, none, none, none, none, none, none, none, none, none, none, none, none, none, none, none, none, none, none, none, none, none, none, none, none, none, none, none, none, none, none, none, none, none, none, none, none, none, none, none, none, none, none, none, none, none, none, none, none, none, none, none, none, none, none, none, none, none, none], [none, none, none, none, none, none, none, none, none, none, none, none, none, none, none, none, none, none, none, none, none, none, none, none, none, none, none, none, none, none, none, none, none, none, none, none, none, none, none, none, none, none, none, none, none, none, none, none, none, none, none, none, none, none, none, none, none, none, none, none, none, none, none, none, none, none, none, none, none, none, none, none, none, none, none, none, none, none, none, none], .unit⟩),
  (105, ⟨.sl 53, 1, 24, [.slice none 0 0], false, [some (.sl (.int .u8))], [none], (.sl (.sl (.int .u8)))⟩),
  (109, ⟨.st [(0, 53), (1, 31)], 2, 32, [.slice none 0 0, .int .i64 0], false, [some (.int .u8), none], [none, none], (.pair (.rsl (.int .u8)) (.int .i64))⟩)]
theorem tysOk : TyOk Tryd.prog tys := tyOk_of fun e he => by
  simp only [tys, List.mem_cons, List.not_mem_nil, or_false] at he
  rcases he with rfl | rfl | rfl | rfl | rfl | rfl | rfl | rfl | rfl | rfl | rfl | rfl | rfl | rfl | rfl | rfl | rfl | rfl | rfl | rfl | rfl | rfl
  · exact ⟨by kernel_rfl, by kernel_rfl, fun h => nomatch h⟩
  · exact ⟨by kernel_rfl, by kernel_rfl, fun h => nomatch h⟩
  · exact ⟨by kernel_rfl, by kernel_rfl, fun h => nomatch h⟩
  · exact ⟨by kernel_rfl, by kernel_rfl, fun h => nomatch h⟩
  · exact ⟨by kernel_rfl, by kernel_rfl, fun h => nomatch h⟩
  · exact ⟨by kernel_rfl, by kernel_rfl, fun h => nomatch h⟩
  · exact ⟨by kernel_rfl, by kernel_rfl, fun h => nomatch h⟩
  · exact ⟨by kernel_rfl, by kernel_rfl, fun h => nomatch h⟩
  · exact ⟨by kernel_rfl, by kernel_rfl, fun h => nomatch h⟩
  · exact ⟨by kernel_rfl, by kernel_rfl, fun _ => ⟨by kernel_rfl, by kernel_rfl, by kernel_rfl⟩⟩
  · exact ⟨by kernel_rfl, by kernel_rfl, fun h => nomatch h⟩
  · exact ⟨by kernel_rfl, by kernel_rfl, fun h => nomatch h⟩
  · exact ⟨by kernel_rfl, by kernel_rfl, fun h => nomatch h⟩
  · exact ⟨by kernel_rfl, by kernel_rfl, fun h => nomatch h⟩
  · exact ⟨by kernel_rfl, by kernel_rfl, fun h => nomatch h⟩
  · exact ⟨by kernel_rfl, by kernel_rfl, fun _ => ⟨by kernel_rfl, by kernel_rfl, by kernel_rfl⟩⟩
  · exact ⟨by kernel_rfl, by kernel_rfl, fun h => nomatch h⟩
  · exact ⟨by kernel_rfl, by kernel_rfl, fun h => nomatch h⟩
  · exact ⟨by kernel_rfl, by kernel_rfl, fun h => nomatch h⟩
  · exact ⟨by kernel_rfl, by kernel_rfl, fun h => nomatch h⟩
  · exact ⟨by kernel_rfl, by kernel_rfl, fun h => nomatch h⟩
  · exact ⟨by kernel_rfl, by kernel_rfl, fun h => nomatch h⟩
def tab0 : List (Bool × (Bool × (Bool × (Bool × (Bool × (Bool × (Bool × Bool))))))) := [(false, (false, (false, (false, (false, (false, (false, false))))))),
  (false, (true, (true, (false, (true, (false, (false, false))))))),
  (false, (false, (false, (false, (false, (true, (false, false))))))),
  (false, (false, (false, (false, (false, (false, (false, true))))))),
  (false, (false, (false, (false, (false, (false, (false, false))))))),
  (false, (false, (false, (false, (false, (false, (false, false))))))),
  (false, (false, (false, (false, (false, (true, (false, false)))))))]
def tab1 : List (Bool × (Bool × (Bool × (Bool × (Bool × (Bool × (Bool × Bool))))))) := [(false, (false, (false, (false, (false, (false, (false, false))))))),
  (true, (true, (false, (false, (true, (false, (false, false))))))),
  (false, (true, (true, (false, (true, (false, (false, false))))))),
  (true, (true, (false, (true, (false, (false, (false, false))))))),
  (false, (false, (false, (false, (false, (true, (false, false))))))),
  (true, (true, (true, (true, (true, (false, (true, false))))))),
  (false, (true, (false, (false, (true, (false, (true, false))))))),
  (true, (true, (false, (true, (false, (true, (false, false))))))),
  (false, (false, (false, (false, (false, (false, (false, false))))))),
  (false, (false, (false, (false, (false, (false, (false, false)))))))]
noncomputable def inls : List (Nat × Go.Func) := [(53, Tryd.f53)]
theorem inlsOk : ∀ f fn, Go.V.look inls f = some fn → Tryd.prog.funcs[f]? = some fn ∧ (fn.name == "runtime.NumGoroutine") = false := inlOk_of fun e he => by
  simp only [inls, List.mem_cons, List.not_mem_nil, or_false] at he
  rcases he with rfl
  · exact ⟨Tryd.func53, by kernel_rfl⟩
noncomputable def cx : Ctx := ⟨Tryd.prog, tys, tysOk, [(0, .ga (.pair .bool (.pair .bool (.pair .bool (.pair .bool (.pair .bool (.pair .bool (.pair .bool .bool))))))) tab0)], 0, inls, inlsOk, by kernel_rfl⟩

/-! reredos/reredoskeep.picked -/
def sg18 : Sig := ⟨[⟨false, .bo, (.int .i64)⟩, ⟨false, .bo, (.int .i64)⟩], [⟨false, .own, (.int .i64)⟩]⟩
noncomputable def r18 (a : (Int × Int)) : Option Int :=
  Option.bind (
    bif decide (a.1 < (0 : Int)) then
      some (Go.IntKind.wrap .i64 (0 - (Go.IntKind.wrap .i64 (a.1 + (1 : Int)))))
    else
      some a.1) fun (d1 : Int) =>
    bif decide (a.2 = 0) then
      none
    else
      some (Int.tmod d1 a.2)
def an18 : Ann := .two (.leaf) (.two (.join [1] [] [⟨.normal, [], [.tmp 0 (.int .i64)]⟩] (.two (.leaf) (.two (.leaf) (.leaf)))) (.two (.leaf) (.leaf)))
theorem s18 : SoundF cx.P cx.G 18 sg18 r18 := by
  have e : denF cx [] an18 Tryd.f18.ntmps (Tryd.f18.body.getD .skip) Tryd.f18.results.toList sg18 = r18 := by kernel_rfl
  rw [← e]
  exact sound_of_den (c := cx) (Known.nil) Tryd.func18 (by kernel_rfl) (Nat.le_of_ble_eq_true (by kernel_rfl)) rfl

/-! reredos/reredoskeep.Lab -/
def sg31 : Sig := ⟨[⟨false, .bo, (.int .i64)⟩], [⟨true, .own, (.pair (.int .i64) (.int .i64))⟩]⟩
noncomputable def r31 (a : Int) : Option (Int × Int) :=
  Option.bind (r18 (a, (3 : Int))) fun (y1 : Int) =>
    Option.bind (r18 ((Go.IntKind.wrap .i64 (Int.tdiv a (3 : Int))), (4 : Int))) fun (y2 : Int) =>
      some (y1, y2)
def an31 : Ann := .two (.leaf) (.two (.leaf) (.leaf))
theorem s31 : SoundF cx.P cx.G 31 sg31 r31 := by
  have e : denF cx [(18, ⟨sg18, r18⟩)] an31 Tryd.f31.ntmps (Tryd.f31.body.getD .skip) Tryd.f31.results.toList sg31 = r31 := by kernel_rfl
  rw [← e]
  exact sound_of_den (c := cx) (Known.cons (.ofF s18 (by kernel_rfl)) Tryd.func18 (by kernel_rfl) (by kernel_rfl) (Known.nil)) Tryd.func31 (by kernel_rfl) (Nat.le_of_ble_eq_true (by kernel_rfl)) rfl

/-! reredos/reredoskeep.Config -/
noncomputable def r11_L0 (d30 : (Unit × (Int × (Int × (List ((Int × Int)) × Int))))) (y49 : (Int × Int)) (d50 : (Bool × Int)) : Option ((Bool × Int) ⊕ Bool) :=
  bif decide (d50.2 < (↑d30.2.2.2.1.length : Int)) then
    Option.bind (
      bif inB d50.2 d30.2.2.2.1.length then
        Option.bind (idxN d30.2.2.2.1 (Int.toNat d50.2)) fun (x53 : (Int × Int)) =>
          bif !(d50.1) then
            some (decide (x53.1 = y49.1) && (decide (x53.2 = y49.2) && true))
          else
            some true
      else
        none) fun (d54 : Bool) =>
      some (Sum.inl (d54, (Go.IntKind.wrap .i64 (d50.2 + (1 : Int)))))
  else
    some (Sum.inr d50.1)
noncomputable def r11_L1 (a : (Int × (List Int × Int))) (d30 : (Unit × (Int × (Int × (List ((Int × Int)) × Int))))) : Option ((Unit × (Int × (Int × (List ((Int × Int)) × Int)))) ⊕ (Unit × (Int × (List ((Int × Int)) × Int)))) :=
  Option.bind (
    bif decide (d30.2.1 < (↑a.2.1.length : Int)) then
      some (decide ((↑d30.2.2.2.1.length : Int) < (4 : Int)))
    else
      some false) fun (d31 : Bool) =>
    bif d31 then
      Option.bind (
        Option.bind (idxI a.2.1 d30.2.1) fun (b48 : Int) =>
          Option.bind (r31 b48) fun (y49 : (Int × Int)) =>
            Option.bind (loopR (r11_L0 d30 y49) (false, (0 : Int))) fun (q55 : Bool) =>
              bif !(q55) then
                bif roomOk false d30.2.2.2.1.length 1 16 then
                  some ((), (d30.2.2.1, (app d30.2.2.2.1 [y49], d30.2.2.2.2)))
                else
                  none
              else
                some ((), d30.2.2)) fun (d56 : (Unit × (Int × (List ((Int × Int)) × Int)))) =>
        some (Sum.inl ((), ((Go.IntKind.wrap .i64 (d30.2.1 + (1 : Int))), d56.2)))
    else
      some (Sum.inr ((), d30.2.2))
def sg11 : Sig := ⟨[⟨false, .bo, (.int .i64)⟩, ⟨false, .bo, (.sl (.int .i64))⟩, ⟨false, .bo, (.int .i64)⟩], [⟨true, .ro, (.pair (.int .i64) (.pair (.sl (.pair (.int .i64) (.int .i64))) (.int .i64)))⟩]⟩
noncomputable def r11 (a : (Int × (List Int × Int))) : Option (Int × (List ((Int × Int)) × Int)) :=
  Option.bind (r18 (a.1, (3 : Int))) fun (y1 : Int) =>
    Option.bind (r18 (a.2.2, (4 : Int))) fun (y2 : Int) =>
      Option.bind (loopR (r11_L1 a) ((), ((0 : Int), ((Go.IntKind.wrap .i64 ((1 : Int) + y1)), ([], (Go.IntKind.wrap .i64 ((1 : Int) + y2))))))) fun (q57 : (Unit × (Int × (List ((Int × Int)) × Int)))) =>
        Option.bind (
          bif decide ((↑q57.2.2.1.length : Int) = (0 : Int)) then
            some ((), (q57.2.1, ([((0 : Int), (0 : Int))], q57.2.2.2)))
          else
            some ((), q57.2)) fun (d58 : (Unit × (Int × (List ((Int × Int)) × Int)))) =>
          some d58.2
def an11 : Ann := .two (.leaf) (.two (.leaf) (.two (.two (.leaf) (.one (.loop [1, 6] [6] [] [.tmp 7 (.pt 7 [(0, 0)] 0 0 3), .tmp 8 (.int .i64), .box 7 [.int .i64, .sl .own (.pair (.int .i64) (.int .i64)), .int .i64]] [⟨.exit 0, [], [.tmp 7 (.pt 7 [(0, 0)] 0 0 3), .box 7 [.int .i64, .sl .own (.pair (.int .i64) (.int .i64)), .int .i64]]⟩] (.two (.two (.join [1, 6, 7, 8] [6, 7] [⟨.normal, [], [.tmp 29 (.bool)]⟩] (.leaf)) (.two (.leaf) (.leaf))) (.two (.join [1, 6, 8] [6] [⟨.normal, [], [.tmp 7 (.pt 7 [(0, 0)] 0 0 3), .box 7 [.int .i64, .sl .own (.pair (.int .i64) (.int .i64)), .int .i64]]⟩] (.one (.two (.leaf) (.two (.leaf) (.two (.two (.leaf) (.one (.loop [1, 6, 7, 8, 9, 38, 39] [6, 7, 9] [] [.tmp 10 (.bool), .tmp 40 (.int .i64)] [⟨.exit 2, [], [.tmp 10 (.bool)]⟩] (.two (.leaf) (.two (.two (.leaf) (.leaf)) (.two (.join [1, 6, 7, 8, 9, 38, 39, 40] [6, 7, 9] [⟨.normal, [], [.tmp 10 (.bool)]⟩] (.one (.two (.leaf) (.leaf)))) (.leaf))))))) (.two (.leaf) (.two (.leaf) (.leaf)))))))) (.leaf)))))) (.two (.join [6] [6] [⟨.normal, [], [.tmp 7 (.pt 7 [(0, 0)] 0 0 3), .box 7 [.int .i64, .sl .own (.pair (.int .i64) (.int .i64)), .int .i64]]⟩] (.two (.leaf) (.two (.leaf) (.leaf)))) (.two (.leaf) (.leaf)))))
theorem s11 : SoundF cx.P cx.G 11 sg11 r11 := by
  have e : denF cx [(18, ⟨sg18, r18⟩), (31, ⟨sg31, r31⟩)] an11 Tryd.f11.ntmps (Tryd.f11.body.getD .skip) Tryd.f11.results.toList sg11 = r11 := by kernel_rfl
  rw [← e]
  exact sound_of_den (c := cx) (Known.cons (.ofF s18 (by kernel_rfl)) Tryd.func18 (by kernel_rfl) (by kernel_rfl) (Known.cons (.ofF s31 (by kernel_rfl)) Tryd.func31 (by kernel_rfl) (by kernel_rfl) (Known.nil))) Tryd.func11 (by kernel_rfl) (Nat.le_of_ble_eq_true (by kernel_rfl)) rfl

/-! reredos/reredoskeep.Txn -/
def sg35 : Sig := ⟨[⟨true, .bo, (.pair (.int .i64) (.pair (.sl (.pair (.int .i64) (.int .i64))) (.int .i64)))⟩, ⟨false, .bo, (.int .i64)⟩, ⟨false, .bo, (.int .i64)⟩], [⟨true, .own, (.pair (.int .i64) (.int .i64))⟩]⟩
noncomputable def r35 (a : ((Int × (List ((Int × Int)) × Int)) × (Int × Int))) : Option (Int × Int) :=
  Option.bind (r18 (a.2.1, a.1.1)) fun (y1 : Int) =>
    Option.bind (r18 (a.2.2, (6 : Int))) fun (y2 : Int) =>
      some (y1, (Go.IntKind.wrap .i64 ((1 : Int) + y2)))
def an35 : Ann := .two (.leaf) (.two (.leaf) (.leaf))
theorem s35 : SoundF cx.P cx.G 35 sg35 r35 := by
  have e : denF cx [(18, ⟨sg18, r18⟩)] an35 Tryd.f35.ntmps (Tryd.f35.body.getD .skip) Tryd.f35.results.toList sg35 = r35 := by kernel_rfl
  rw [← e]
  exact sound_of_den (c := cx) (Known.cons (.ofF s18 (by kernel_rfl)) Tryd.func18 (by kernel_rfl) (by kernel_rfl) (Known.nil)) Tryd.func35 (by kernel_rfl) (Nat.le_of_ble_eq_true (by kernel_rfl)) rfl

/-! reredos/reredoskeep.Record -/
noncomputable def r20_L0 (a : ((Int × (List ((Int × Int)) × Int)) × (Int × (Int × (Int × (Int × (Int × Int))))))) (d47 : (Unit × (Int × (Int × (Int × (Int × (Int × (Int × (Int × (Bool × List Int)))))))))) : Option ((Unit × (Int × (Int × (Int × (Int × (Int × (Int × (Int × (Bool × List Int))))))))) ⊕ (Unit × (Int × (Int × (Int × (Int × (Int × (Int × (Bool × List Int))))))))) :=
  bif decide (d47.2.1 < a.1.1) then
    Option.bind (
      Option.bind (r18 (a.2.2.2.2.1, (16 : Int))) fun (y50 : Int) =>
        bif decide (d47.2.1 < 0) then
          none
        else
          bif decide ((Int.tmod (Int.fdiv y50 (2 ^ (min (Int.toNat d47.2.1) (Go.IntKind.bits .i64)))) (2 : Int)) = (1 : Int)) then
            bif roomOk false d47.2.2.2.2.2.2.2.2.2.length 1 8 then
              some ((), (d47.2.2.1, (d47.2.2.2.1, (d47.2.2.2.2.1, (d47.2.2.2.2.2.1, (d47.2.2.2.2.2.2.1, (d47.2.2.2.2.2.2.2.1, (d47.2.2.2.2.2.2.2.2.1, app d47.2.2.2.2.2.2.2.2.2 [d47.2.1]))))))))
            else
              none
          else
            some ((), d47.2.2)) fun (d51 : (Unit × (Int × (Int × (Int × (Int × (Int × (Int × (Bool × List Int))))))))) =>
      some (Sum.inl ((), ((Go.IntKind.wrap .i64 (d47.2.1 + (1 : Int))), d51.2)))
  else
    some (Sum.inr ((), d47.2.2))
def sg20 : Sig := ⟨[⟨true, .bo, (.pair (.int .i64) (.pair (.sl (.pair (.int .i64) (.int .i64))) (.int .i64)))⟩, ⟨true, .bo, (.pair (.int .i64) (.pair (.int .i64) (.pair (.int .i64) (.pair (.int .i64) (.pair (.int .i64) (.int .i64))))))⟩], [⟨true, .ro, (.pair (.int .i64) (.pair (.pair (.int .i64) (.int .i64)) (.pair (.int .i64) (.pair (.int .i64) (.pair (.int .i64) (.pair .bool (.sl (.int .i64))))))))⟩]⟩
noncomputable def r20 (a : ((Int × (List ((Int × Int)) × Int)) × (Int × (Int × (Int × (Int × (Int × Int))))))) : Option (Int × ((Int × Int) × (Int × (Int × (Int × (Bool × List Int)))))) :=
  Option.bind (r18 (a.2.1, (6 : Int))) fun (y3 : Int) =>
    Option.bind (r35 (a.1, a.2.2.1, a.2.2.2.1)) fun (y4 : (Int × Int)) =>
      Option.bind (
        bif decide ((Go.IntKind.wrap .i64 ((1 : Int) + y3)) = (1 : Int)) then
          Option.bind (r18 (a.2.2.2.2.1, (8 : Int))) fun (y37 : Int) =>
            Option.bind (r18 (a.2.2.2.2.2.1, (1073741824 : Int))) fun (y38 : Int) =>
              Option.bind (r18 (a.2.2.2.2.2.2, (9 : Int))) fun (y39 : Int) =>
                some ((), ((Go.IntKind.wrap .i64 ((1 : Int) + y3)), (y4.1, (y4.2, (y37, (y38, (y39, (false, []))))))))
        else
          Option.bind (
            bif decide ((Go.IntKind.wrap .i64 ((1 : Int) + y3)) = (2 : Int)) then
              some (decide ((Go.IntKind.wrap .i64 ((1 : Int) + y3)) = (2 : Int)))
            else
              some (decide ((Go.IntKind.wrap .i64 ((1 : Int) + y3)) = (6 : Int)))) fun (d40 : Bool) =>
            bif d40 then
              Option.bind (r18 (a.2.2.2.2.1, (2 : Int))) fun (y41 : Int) =>
                some ((), ((Go.IntKind.wrap .i64 ((1 : Int) + y3)), (y4.1, (y4.2, ((0 : Int), ((0 : Int), ((0 : Int), (decide (y41 = (1 : Int)), []))))))))
            else
              bif decide ((Go.IntKind.wrap .i64 ((1 : Int) + y3)) = (3 : Int)) then
                Option.bind (loopR (r20_L0 a) ((), ((0 : Int), ((Go.IntKind.wrap .i64 ((1 : Int) + y3)), (y4.1, (y4.2, ((0 : Int), ((0 : Int), ((0 : Int), (false, [])))))))))) fun (q52 : (Unit × (Int × (Int × (Int × (Int × (Int × (Int × (Bool × List Int))))))))) =>
                  some ((), q52.2)
              else
                some ((), ((Go.IntKind.wrap .i64 ((1 : Int) + y3)), (y4.1, (y4.2, ((0 : Int), ((0 : Int), ((0 : Int), (false, []))))))))) fun (d53 : (Unit × (Int × (Int × (Int × (Int × (Int × (Int × (Bool × List Int))))))))) =>
        some (d53.2.1, ((d53.2.2.1, d53.2.2.2.1), d53.2.2.2.2))
def an20 : Ann := .two (.leaf) (.two (.draw 12) (.two (.join [4] [4] [⟨.normal, [], [.tmp 5 (.pt 5 [(0, 0)] 0 0 8), .box 5 [.int .i64, .int .i64, .int .i64, .int .i64, .int .i64, .int .i64, .bool, .sl .own (.int .i64)]]⟩] (.two (.leaf) (.one (.two (.leaf) (.two (.two (.leaf) (.two (.leaf) (.leaf))) (.two (.join [2, 3, 4, 5, 19] [2, 3, 4, 5] [⟨.normal, [], [.tmp 34 (.bool)]⟩] (.two (.leaf) (.two (.leaf) (.leaf)))) (.two (.leaf) (.two (.leaf) (.two (.two (.leaf) (.one (.loop [2, 3, 4] [2, 3, 4] [] [.tmp 5 (.pt 5 [(0, 0)] 0 0 8), .tmp 6 (.int .i64), .box 5 [.int .i64, .int .i64, .int .i64, .int .i64, .int .i64, .int .i64, .bool, .sl .own (.int .i64)]] [⟨.exit 1, [], [.tmp 5 (.pt 5 [(0, 0)] 0 0 8), .box 5 [.int .i64, .int .i64, .int .i64, .int .i64, .int .i64, .int .i64, .bool, .sl .own (.int .i64)]]⟩] (.two (.two (.leaf) (.two (.leaf) (.leaf))) (.two (.join [2, 3, 4, 6] [2, 3, 4] [⟨.normal, [], [.tmp 5 (.pt 5 [(0, 0)] 0 0 8), .box 5 [.int .i64, .int .i64, .int .i64, .int .i64, .int .i64, .int .i64, .bool, .sl .own (.int .i64)]]⟩] (.one (.two (.leaf) (.two (.leaf) (.leaf))))) (.leaf)))))) (.leaf)))))))))) (.two (.leaf) (.leaf))))
theorem s20 : SoundF cx.P cx.G 20 sg20 r20 := by
  have e : denF cx [(18, ⟨sg18, r18⟩), (35, ⟨sg35, r35⟩)] an20 Tryd.f20.ntmps (Tryd.f20.body.getD .skip) Tryd.f20.results.toList sg20 = r20 := by kernel_rfl
  rw [← e]
  exact sound_of_den (c := cx) (Known.cons (.ofF s18 (by kernel_rfl)) Tryd.func18 (by kernel_rfl) (by kernel_rfl) (Known.cons (.ofF s35 (by kernel_rfl)) Tryd.func35 (by kernel_rfl) (by kernel_rfl) (Known.nil))) Tryd.func20 (by kernel_rfl) (Nat.le_of_ble_eq_true (by kernel_rfl)) rfl

/-! reredos/label.one -/
def sg45 : Sig := ⟨[⟨true, .bo, (.pair (.int .i64) (.int .i64))⟩], [⟨false, .own, .bool⟩]⟩
noncomputable def r45 (a : (Int × Int)) : Option Bool :=
  Option.bind (
    bif decide ((0 : Int) ≤ a.1) then
      some (decide (a.1 ≤ (9 : Int)))
    else
      some false) fun (g1 : Bool) =>
    Option.bind (
      bif g1 then
        some (decide ((0 : Int) ≤ a.2))
      else
        some false) fun (g2 : Bool) =>
      bif g2 then
        some (decide (a.2 ≤ (15 : Int)))
      else
        some false
def an45 : Ann := .two (.leaf) (.two (.segs [(8, ([1], ([1], [.tmp 10 (.bool)]))), (5, ([1], ([1], [.tmp 15 (.bool)])))]) (.leaf))
theorem s45 : SoundF cx.P cx.G 45 sg45 r45 := by
  have e : denF cx [] an45 Tryd.f45.ntmps (Tryd.f45.body.getD .skip) Tryd.f45.results.toList sg45 = r45 := by kernel_rfl
  rw [← e]
  exact sound_of_den (c := cx) (Known.nil) Tryd.func45 (by kernel_rfl) (Nat.le_of_ble_eq_true (by kernel_rfl)) rfl

/-! reredos/label.Check -/
noncomputable def r32_L0 (d3 : Int) (a : (Int × (List ((Int × Int)) × Int))) (b4 : (Int × Int)) (d6 : Int) : Option (Int ⊕ (Unit ⊕ Int)) :=
  bif decide (d6 < (↑((List.take (Int.toNat d3) a.2.1).length) : Int)) then
    Option.bind (idxI (List.take (Int.toNat d3) a.2.1) d6) fun (b7 : (Int × Int)) =>
      bif (decide (b7.1 = b4.1) && (decide (b7.2 = b4.2) && true)) then
        some (Sum.inr (Sum.inr (7 : Int)))
      else
        some (Sum.inl (Go.IntKind.wrap .i64 (d6 + (1 : Int))))
  else
    some (Sum.inr (Sum.inl ()))
noncomputable def r32_L1 (a : (Int × (List ((Int × Int)) × Int))) (d3 : Int) : Option (Int ⊕ (Unit ⊕ Int)) :=
  bif decide (d3 < (↑a.2.1.length : Int)) then
    Option.bind (idxI a.2.1 d3) fun (b4 : (Int × Int)) =>
      Option.bind (r45 b4) fun (y5 : Bool) =>
        bif !(y5) then
          some (Sum.inr (Sum.inr (2 : Int)))
        else
          bif okB none (some d3) none a.2.1.length then
            Option.bind (loopR (r32_L0 d3 a b4) (0 : Int)) fun (q8 : (Unit ⊕ Int)) =>
              Sum.elim (fun (_ : Unit) =>
                  some (Sum.inl (Go.IntKind.wrap .i64 (d3 + (1 : Int)))))
                (fun (v10 : Int) =>
                  some (Sum.inr (Sum.inr v10))) q8
          else
            none
  else
    some (Sum.inr (Sum.inl ()))
def sg32 : Sig := ⟨[⟨true, .bo, (.pair (.int .i64) (.pair (.sl (.pair (.int .i64) (.int .i64))) (.int .i64)))⟩], [⟨false, .own, (.int .i64)⟩]⟩
noncomputable def r32 (a : (Int × (List ((Int × Int)) × Int))) : Option Int :=
  Option.bind (
    bif !(decide (a.1 < (1 : Int))) then
      some (decide ((4 : Int) < a.1))
    else
      some true) fun (d1 : Bool) =>
    bif d1 then
      some (2 : Int)
    else
      Option.bind (
        bif !(decide ((↑a.2.1.length : Int) < (1 : Int))) then
          some (decide ((6 : Int) < (↑a.2.1.length : Int)))
        else
          some true) fun (d2 : Bool) =>
        bif d2 then
          some (1 : Int)
        else
          Option.bind (loopR (r32_L1 a) (0 : Int)) fun (q11 : (Unit ⊕ Int)) =>
            Sum.elim (fun (_ : Unit) =>
                Option.bind (
                  bif !(decide (a.2.2 < (1 : Int))) then
                    some (decide ((1048576 : Int) < a.2.2))
                  else
                    some true) fun (d14 : Bool) =>
                  bif d14 then
                    some (2 : Int)
                  else
                    some (0 : Int))
              (fun (v13 : Int) =>
                some v13) q11
def an32 : Ann := .two (.leaf) (.two (.two (.join [1] [1] [⟨.normal, [], [.tmp 14 (.bool)]⟩] (.leaf)) (.two (.two (.leaf) (.leaf)) (.leaf))) (.two (.two (.join [1] [1] [⟨.normal, [], [.tmp 24 (.bool)]⟩] (.leaf)) (.two (.two (.leaf) (.leaf)) (.leaf))) (.two (.two (.leaf) (.one (.loop [1, 26, 27] [1] [] [.tmp 28 (.int .i64)] [⟨.exit 0, [], []⟩, ⟨.ret, [], [.tmp 2 (.int .i64)]⟩] (.two (.leaf) (.two (.two (.leaf) (.leaf)) (.two (.one (.two (.leaf) (.two (.two (.leaf) (.two (.two (.leaf) (.leaf)) (.leaf))) (.two (.leaf) (.one (.loop [1, 4, 26, 27, 28, 39, 40] [1, 4] [] [.tmp 41 (.int .i64)] [⟨.exit 2, [], []⟩, ⟨.ret, [], [.tmp 2 (.int .i64)]⟩] (.two (.leaf) (.two (.two (.leaf) (.leaf)) (.two (.one (.two (.leaf) (.two (.leaf) (.two (.two (.leaf) (.leaf)) (.leaf))))) (.leaf)))))))))) (.leaf))))))) (.two (.two (.join [] [] [⟨.normal, [], [.tmp 57 (.bool)]⟩] (.leaf)) (.two (.two (.leaf) (.leaf)) (.leaf))) (.two (.leaf) (.leaf))))))
theorem s32 : SoundF cx.P cx.G 32 sg32 r32 := by
  have e : denF cx [(45, ⟨sg45, r45⟩)] an32 Tryd.f32.ntmps (Tryd.f32.body.getD .skip) Tryd.f32.results.toList sg32 = r32 := by kernel_rfl
  rw [← e]
  exact sound_of_den (c := cx) (Known.cons (.ofF s45 (by kernel_rfl)) Tryd.func45 (by kernel_rfl) (by kernel_rfl) (Known.nil)) Tryd.func32 (by kernel_rfl) (Nat.le_of_ble_eq_true (by kernel_rfl)) rfl

/-! reredos/wire.txn -/
def sg46 : Sig := ⟨[⟨true, .bo, (.pair (.int .i64) (.pair (.sl (.pair (.int .i64) (.int .i64))) (.int .i64)))⟩, ⟨true, .bo, (.pair (.int .i64) (.int .i64))⟩], [⟨false, .own, .bool⟩]⟩
noncomputable def r46 (a : ((Int × (List ((Int × Int)) × Int)) × (Int × Int))) : Option Bool :=
  Option.bind (
    bif decide ((0 : Int) ≤ a.2.1) then
      some (decide (a.2.1 < a.1.1))
    else
      some false) fun (g1 : Bool) =>
    Option.bind (
      bif g1 then
        some (decide ((1 : Int) ≤ a.2.2))
      else
        some false) fun (g2 : Bool) =>
      bif g2 then
        some (decide (a.2.2 ≤ (1048576 : Int)))
      else
        some false
def an46 : Ann := .two (.leaf) (.two (.segs [(10, ([3], ([3], [.tmp 14 (.bool)]))), (5, ([3], ([3], [.tmp 19 (.bool)])))]) (.leaf))
theorem s46 : SoundF cx.P cx.G 46 sg46 r46 := by
  have e : denF cx [] an46 Tryd.f46.ntmps (Tryd.f46.body.getD .skip) Tryd.f46.results.toList sg46 = r46 := by kernel_rfl
  rw [← e]
  exact sound_of_den (c := cx) (Known.nil) Tryd.func46 (by kernel_rfl) (Nat.le_of_ble_eq_true (by kernel_rfl)) rfl

/-! reredos/wire.key -/
def sg47 : Sig := ⟨[⟨false, .bo, (.int .i64)⟩], [⟨false, .own, .bool⟩]⟩
noncomputable def r47 (a : Int) : Option Bool :=
  bif decide ((0 : Int) ≤ a) then
    some (decide (a < (8 : Int)))
  else
    some false
def an47 : Ann := .two (.leaf) (.two (.leaf) (.leaf))
theorem s47 : SoundF cx.P cx.G 47 sg47 r47 := by
  have e : denF cx [] an47 Tryd.f47.ntmps (Tryd.f47.body.getD .skip) Tryd.f47.results.toList sg47 = r47 := by kernel_rfl
  rw [← e]
  exact sound_of_den (c := cx) (Known.nil) Tryd.func47 (by kernel_rfl) (Nat.le_of_ble_eq_true (by kernel_rfl)) rfl

/-! reredos/wire.value -/
def sg48 : Sig := ⟨[⟨false, .bo, (.int .i64)⟩], [⟨false, .own, .bool⟩]⟩
noncomputable def r48 (a : Int) : Option Bool :=
  bif decide ((0 : Int) ≤ a) then
    some (decide (a ≤ (1073741824 : Int)))
  else
    some false
def an48 : Ann := .two (.leaf) (.two (.leaf) (.leaf))
theorem s48 : SoundF cx.P cx.G 48 sg48 r48 := by
  have e : denF cx [] an48 Tryd.f48.ntmps (Tryd.f48.body.getD .skip) Tryd.f48.results.toList sg48 = r48 := by kernel_rfl
  rw [← e]
  exact sound_of_den (c := cx) (Known.nil) Tryd.func48 (by kernel_rfl) (Nat.le_of_ble_eq_true (by kernel_rfl)) rfl

/-! reredos/wire.ask -/
def sg49 : Sig := ⟨[⟨false, .bo, (.int .i64)⟩], [⟨false, .own, .bool⟩]⟩
noncomputable def r49 (a : Int) : Option Bool :=
  bif decide ((0 : Int) ≤ a) then
    some (decide (a ≤ (1048576 : Int)))
  else
    some false
def an49 : Ann := .two (.leaf) (.two (.leaf) (.leaf))
theorem s49 : SoundF cx.P cx.G 49 sg49 r49 := by
  have e : denF cx [] an49 Tryd.f49.ntmps (Tryd.f49.body.getD .skip) Tryd.f49.results.toList sg49 = r49 := by kernel_rfl
  rw [← e]
  exact sound_of_den (c := cx) (Known.nil) Tryd.func49 (by kernel_rfl) (Nat.le_of_ble_eq_true (by kernel_rfl)) rfl

/-! reredos/wire.CheckRecord -/
noncomputable def r37_L0 (a : ((Int × (List ((Int × Int)) × Int)) × (Int × ((Int × Int) × (Int × (Int × (Int × (Bool × List Int)))))))) (d22 : Int) : Option (Int ⊕ (Unit ⊕ Int)) :=
  bif decide (d22 < (↑a.2.2.2.2.2.2.2.length : Int)) then
    Option.bind (idxI a.2.2.2.2.2.2.2 d22) fun (b23 : Int) =>
      Option.bind (
        Option.bind (
          bif !(decide (b23 < (0 : Int))) then
            some (decide (a.1.1 ≤ b23))
          else
            some true) fun (g28 : Bool) =>
          bif !(g28) then
            bif decide ((0 : Int) < d22) then
              Option.bind (idxI a.2.2.2.2.2.2.2 (Go.IntKind.wrap .i64 (d22 - (1 : Int)))) fun (b29 : Int) =>
                some (decide (b23 ≤ b29))
            else
              some false
          else
            some true) fun (d30 : Bool) =>
        bif d30 then
          some (Sum.inr (Sum.inr (2 : Int)))
        else
          some (Sum.inl (Go.IntKind.wrap .i64 (d22 + (1 : Int))))
  else
    some (Sum.inr (Sum.inl ()))
def sg37 : Sig := ⟨[⟨true, .bo, (.pair (.int .i64) (.pair (.sl (.pair (.int .i64) (.int .i64))) (.int .i64)))⟩, ⟨true, .bo, (.pair (.int .i64) (.pair (.pair (.int .i64) (.int .i64)) (.pair (.int .i64) (.pair (.int .i64) (.pair (.int .i64) (.pair .bool (.sl (.int .i64))))))))⟩], [⟨false, .own, (.int .i64)⟩]⟩
noncomputable def r37 (a : ((Int × (List ((Int × Int)) × Int)) × (Int × ((Int × Int) × (Int × (Int × (Int × (Bool × List Int)))))))) : Option Int :=
  Option.bind (r32 a.1) fun (y1 : Int) =>
    bif !(decide (y1 = (0 : Int))) then
      some y1
    else
      Option.bind (
        bif !(decide (a.2.1 < (1 : Int))) then
          some (decide ((6 : Int) < a.2.1))
        else
          some true) fun (d2 : Bool) =>
        bif d2 then
          some (3 : Int)
        else
          Option.bind (
            Option.bind (
              Option.bind (r46 (a.1, a.2.2.1)) fun (y15 : Bool) =>
                bif !(!(y15)) then
                  Option.bind (r47 a.2.2.2.1) fun (y16 : Bool) =>
                    some !(y16)
                else
                  some true) fun (g17 : Bool) =>
              Option.bind (
                bif !(g17) then
                  Option.bind (r48 a.2.2.2.2.1) fun (y18 : Bool) =>
                    some !(y18)
                else
                  some true) fun (g19 : Bool) =>
                bif !(g19) then
                  Option.bind (r49 a.2.2.2.2.2.1) fun (y20 : Bool) =>
                    some !(y20)
                else
                  some true) fun (d21 : Bool) =>
            bif d21 then
              some (2 : Int)
            else
              Option.bind (loopR (r37_L0 a) (0 : Int)) fun (q31 : (Unit ⊕ Int)) =>
                Sum.elim (fun (_ : Unit) =>
                    Option.bind (idxI tab0 a.2.1) fun (b34 : (Bool × (Bool × (Bool × (Bool × (Bool × (Bool × (Bool × Bool)))))))) =>
                      Option.bind (
                        Option.bind (
                          bif !(b34.2.1) then
                            some (!(decide (a.2.2.2.1 = (0 : Int))))
                          else
                            some false) fun (g43 : Bool) =>
                          Option.bind (
                            bif !(g43) then
                              bif !(b34.2.2.1) then
                                some (!(decide (a.2.2.2.2.1 = (0 : Int))))
                              else
                                some false
                            else
                              some true) fun (g44 : Bool) =>
                            Option.bind (
                              bif !(g44) then
                                bif !(b34.2.2.2.2.1) then
                                  some (!(decide (a.2.2.2.2.2.1 = (0 : Int))))
                                else
                                  some false
                              else
                                some true) fun (g45 : Bool) =>
                              Option.bind (
                                bif !(g45) then
                                  bif !(b34.2.2.2.2.2.1) then
                                    some a.2.2.2.2.2.2.1
                                  else
                                    some false
                                else
                                  some true) fun (g46 : Bool) =>
                                bif !(g46) then
                                  bif !(b34.2.2.2.2.2.2.2) then
                                    some (decide ((0 : Int) < (↑a.2.2.2.2.2.2.2.length : Int)))
                                  else
                                    some false
                                else
                                  some true) fun (d47 : Bool) =>
                        bif d47 then
                          some (4 : Int)
                        else
                          some (0 : Int))
                  (fun (v33 : Int) =>
                    some v33) q31
def an37 : Ann := .two (.leaf) (.two (.two (.leaf) (.two (.leaf) (.two (.two (.leaf) (.leaf)) (.leaf)))) (.two (.two (.join [2, 3] [2, 3] [⟨.normal, [], [.tmp 21 (.bool)]⟩] (.leaf)) (.two (.two (.leaf) (.leaf)) (.leaf))) (.two (.two (.join [2, 3] [2, 3] [⟨.normal, [], [.tmp 44 (.bool)]⟩] (.segs [(11, ([2, 3], ([2, 3], [.tmp 32 (.bool)]))), (6, ([2, 3], ([2, 3], [.tmp 38 (.bool)])))])) (.two (.two (.leaf) (.leaf)) (.leaf))) (.two (.two (.leaf) (.one (.loop [2, 3, 46, 47] [2, 3] [] [.tmp 48 (.int .i64)] [⟨.exit 0, [], []⟩, ⟨.ret, [], [.tmp 4 (.int .i64)]⟩] (.two (.leaf) (.two (.two (.leaf) (.leaf)) (.two (.one (.two (.leaf) (.two (.join [2, 3, 46, 47, 48] [2, 3] [⟨.normal, [], [.tmp 74 (.bool)]⟩] (.segs [(8, ([2, 3, 6, 7, 46, 47, 48], ([2, 3], [.tmp 60 (.bool)])))])) (.two (.two (.leaf) (.leaf)) (.leaf))))) (.leaf))))))) (.two (.leaf) (.two (.two (.join [] [] [⟨.normal, [], [.tmp 127 (.bool)]⟩] (.segs [(8, ([3, 8], ([3, 8], [.tmp 87 (.bool)]))), (10, ([3, 8], ([3, 8], [.tmp 97 (.bool)]))), (10, ([3, 8], ([3, 8], [.tmp 107 (.bool)]))), (9, ([3, 8], ([3, 8], [.tmp 116 (.bool)])))])) (.two (.two (.leaf) (.leaf)) (.leaf))) (.two (.leaf) (.leaf))))))))
theorem s37 : SoundF cx.P cx.G 37 sg37 r37 := by
  have e : denF cx [(32, ⟨sg32, r32⟩), (46, ⟨sg46, r46⟩), (47, ⟨sg47, r47⟩), (48, ⟨sg48, r48⟩), (49, ⟨sg49, r49⟩)] an37 Tryd.f37.ntmps (Tryd.f37.body.getD .skip) Tryd.f37.results.toList sg37 = r37 := by kernel_rfl
  rw [← e]
  exact sound_of_den (c := cx) (Known.cons (.ofF s32 (by kernel_rfl)) Tryd.func32 (by kernel_rfl) (by kernel_rfl) (Known.cons (.ofF s46 (by kernel_rfl)) Tryd.func46 (by kernel_rfl) (by kernel_rfl) (Known.cons (.ofF s47 (by kernel_rfl)) Tryd.func47 (by kernel_rfl) (by kernel_rfl) (Known.cons (.ofF s48 (by kernel_rfl)) Tryd.func48 (by kernel_rfl) (by kernel_rfl) (Known.cons (.ofF s49 (by kernel_rfl)) Tryd.func49 (by kernel_rfl) (by kernel_rfl) (Known.nil)))))) Tryd.func37 (by kernel_rfl) (Nat.le_of_ble_eq_true (by kernel_rfl)) rfl

/-! (*reredos/wire.writer).put -/
noncomputable def r38_L0 (a : (List Int × (Int × Int))) (d3 : (Unit × (Int × List Int))) : Option ((Unit × (Int × List Int)) ⊕ (Unit × List Int)) :=
  bif decide ((0 : Int) ≤ d3.2.1) then
    Option.bind (
      bif decide ((Go.IntKind.wrap .i64 ((8 : Int) * d3.2.1)) < 0) then
        none
      else
        
          bif roomOk false d3.2.2.length 1 1 then
            some ((), app d3.2.2 [(Go.IntKind.wrap .u8 (Int.fdiv a.2.1 (2 ^ (min (Int.toNat (Go.IntKind.wrap .i64 ((8 : Int) * d3.2.1))) (Go.IntKind.bits .i64)))))])
          else
            none) fun (d4 : (Unit × List Int)) =>
      some (Sum.inl ((), ((Go.IntKind.wrap .i64 (d3.2.1 - (1 : Int))), d4.2)))
  else
    some (Sum.inr ((), d3.2.2))
noncomputable def r38_L0q (a : (List Int × (Int × Int))) : (Unit × (Int × List Int)) → Option ((Unit × (Int × List Int)) ⊕ (Unit × List Int)) := fun d3 =>
  bif decide ((0 : Int) ≤ d3.2.1) then
    Option.bind (
      bif decide ((Go.IntKind.wrap .i64 ((8 : Int) * d3.2.1)) < 0) then
        none
      else
        sameR (
          bif roomOk false d3.2.2.length 1 1 then
            some ((), app d3.2.2 [(Go.IntKind.wrap .u8 (Int.fdiv a.2.1 (2 ^ (min (Int.toNat (Go.IntKind.wrap .i64 ((8 : Int) * d3.2.1))) (Go.IntKind.bits .i64)))))])
          else
            none)
 (
          sameR (
            bif roomOk false d3.2.2.length 1 1 then
              some ((), app d3.2.2 [(Go.IntKind.wrap .u8 (Int.fdiv a.2.1 (2 ^ (min (Int.toNat (Go.IntKind.wrap .i64 ((8 : Int) * d3.2.1))) (Go.IntKind.bits .i64)))))])
            else
              none)
 (
            bif roomOk false d3.2.2.length 1 1 then
              some ((), app d3.2.2 [(Go.IntKind.wrap .u8 (Int.fdiv a.2.1 (2 ^ (min (Int.toNat (Go.IntKind.wrap .i64 ((8 : Int) * d3.2.1))) (Go.IntKind.bits .i64)))))])
            else
              none))) fun (d4 : (Unit × List Int)) =>
      some (Sum.inl ((), ((Go.IntKind.wrap .i64 (d3.2.1 - (1 : Int))), d4.2)))
  else
    some (Sum.inr ((), d3.2.2))
theorem r38_L0e (a : (List Int × (Int × Int))) : r38_L0q a = r38_L0 a := by unfold r38_L0q r38_L0; simp only [sameR_self]
def sg38 : Sig := ⟨[⟨false, .own, (.ptr (.sl (.int .u8)))⟩, ⟨false, .bo, (.int .i64)⟩, ⟨false, .bo, (.int .i64)⟩], [⟨false, .own, (.ptr (.sl (.int .u8)))⟩]⟩
noncomputable def r38 (a : (List Int × (Int × Int))) : Option (List Int) :=
  Option.bind (loopR (r38_L0 a) ((), ((Go.IntKind.wrap .i64 (a.2.2 - (1 : Int))), a.1))) fun (q5 : (Unit × List Int)) =>
    some q5.2
noncomputable def r38q : (List Int × (Int × Int)) → Option (List Int) := fun a =>
  Option.bind (loopR (r38_L0q a) ((), ((Go.IntKind.wrap .i64 (a.2.2 - (1 : Int))), a.1))) fun (q5 : (Unit × List Int)) =>
    some q5.2
theorem r38e : r38q = r38 := by unfold r38q r38; simp only [r38_L0e]
def an38 : Ann := .two (.leaf) (.one (.loop [1] [] [] [.tmp 0 (.pt 0 [(0, 0)] 0 0 0), .tmp 6 (.int .i64), .box 0 [.sl .own (.int .u8)]] [⟨.exit 0, [], [.tmp 0 (.pt 0 [(0, 0)] 0 0 0), .box 0 [.sl .own (.int .u8)]]⟩] (.two (.two (.leaf) (.two (.leaf) (.leaf))) (.two (.one (.join [1, 6] [] [⟨.normal, [], [.tmp 0 (.pt 0 [(0, 0)] 0 0 0), .box 0 [.sl .own (.int .u8)]]⟩] (.drawT [0, 1, 2, 3, 4, 5, 6, 7, 8, 9, 10] [0]))) (.leaf)))))
theorem s38 : SoundM cx.P cx.G 38 sg38 r38 := by
  have e : denM cx [] an38 Tryd.f38.ntmps (Tryd.f38.body.getD .skip) Tryd.f38.results.toList sg38 = r38q := by kernel_rfl
  rw [← r38e, ← e]
  exact sound_of_denM (c := cx) (Known.nil) Tryd.func38 (by kernel_rfl) (Nat.le_of_ble_eq_true (by kernel_rfl)) rfl

/-! (*reredos/wire.writer).txn -/
def sg39 : Sig := ⟨[⟨false, .own, (.ptr (.sl (.int .u8)))⟩, ⟨true, .bo, (.pair (.int .i64) (.int .i64))⟩], [⟨false, .own, (.ptr (.sl (.int .u8)))⟩]⟩
noncomputable def r39 (a : (List Int × (Int × Int))) : Option (List Int) :=
  Option.bind (r38 (a.1, a.2.1, (1 : Int))) fun (y1 : List Int) =>
    Option.bind (r38 (y1, a.2.2, (3 : Int))) fun (y2 : List Int) =>
      some y2
def an39 : Ann := .two (.leaf) (.two (.leaf) (.leaf))
theorem s39 : SoundM cx.P cx.G 39 sg39 r39 := by
  have e : denM cx [(38, ⟨sg38, r38⟩)] an39 Tryd.f39.ntmps (Tryd.f39.body.getD .skip) Tryd.f39.results.toList sg39 = r39 := by kernel_rfl
  rw [← e]
  exact sound_of_denM (c := cx) (Known.cons (.ofM s38 (by kernel_rfl)) Tryd.func38 (by kernel_rfl) (by kernel_rfl) (Known.nil)) Tryd.func39 (by kernel_rfl) (Nat.le_of_ble_eq_true (by kernel_rfl)) rfl

/-! (*reredos/wire.writer).bit -/
def sg40 : Sig := ⟨[⟨false, .own, (.ptr (.sl (.int .u8)))⟩, ⟨false, .bo, .bool⟩], [⟨false, .own, (.ptr (.sl (.int .u8)))⟩]⟩
noncomputable def r40 (a : (List Int × Bool)) : Option (List Int) :=
  Option.bind (
    bif a.2 then
      some (1 : Int)
    else
      some (0 : Int)) fun (d1 : Int) =>
    Option.bind (r38 (a.1, d1, (1 : Int))) fun (y2 : List Int) =>
      some y2
def an40 : Ann := .two (.leaf) (.two (.join [0] [0] [⟨.normal, [], [.tmp 4 (.int .i64)]⟩] (.two (.leaf) (.two (.leaf) (.leaf)))) (.leaf))
theorem s40 : SoundM cx.P cx.G 40 sg40 r40 := by
  have e : denM cx [(38, ⟨sg38, r38⟩)] an40 Tryd.f40.ntmps (Tryd.f40.body.getD .skip) Tryd.f40.results.toList sg40 = r40 := by kernel_rfl
  rw [← e]
  exact sound_of_denM (c := cx) (Known.cons (.ofM s38 (by kernel_rfl)) Tryd.func38 (by kernel_rfl) (by kernel_rfl) (Known.nil)) Tryd.func40 (by kernel_rfl) (Nat.le_of_ble_eq_true (by kernel_rfl)) rfl

/-! reredos/wire.EncodeRecord -/
noncomputable def r21_L0 (a : ((Int × (List ((Int × Int)) × Int)) × (Int × ((Int × Int) × (Int × (Int × (Int × (Bool × List Int)))))))) (d41 : (Unit × (Int × List Int))) : Option ((Unit × (Int × List Int)) ⊕ (Unit × List Int)) :=
  bif decide (d41.2.1 < (↑a.2.2.2.2.2.2.2.length : Int)) then
    Option.bind (idxI a.2.2.2.2.2.2.2 d41.2.1) fun (b42 : Int) =>
      Option.bind (r38 (d41.2.2, b42, (1 : Int))) fun (y43 : List Int) =>
        some (Sum.inl ((), ((Go.IntKind.wrap .i64 (d41.2.1 + (1 : Int))), y43)))
  else
    some (Sum.inr ((), d41.2.2))
def sg21 : Sig := ⟨[⟨true, .bo, (.pair (.int .i64) (.pair (.sl (.pair (.int .i64) (.int .i64))) (.int .i64)))⟩, ⟨true, .bo, (.pair (.int .i64) (.pair (.pair (.int .i64) (.int .i64)) (.pair (.int .i64) (.pair (.int .i64) (.pair (.int .i64) (.pair .bool (.sl (.int .i64))))))))⟩], [⟨false, .own, (.sl (.int .u8))⟩, ⟨false, .own, (.int .i64)⟩]⟩
noncomputable def r21 (a : ((Int × (List ((Int × Int)) × Int)) × (Int × ((Int × Int) × (Int × (Int × (Int × (Bool × List Int)))))))) : Option (List Int × Int) :=
  Option.bind (r37 (a.1, a.2)) fun (y1 : Int) =>
    bif !(decide (y1 = (0 : Int))) then
      some ([], y1)
    else
      Option.bind (r38 ([], a.2.1, (1 : Int))) fun (y2 : List Int) =>
        Option.bind (r39 (y2, a.2.2.1)) fun (y3 : List Int) =>
          Option.bind (idxI tab0 a.2.1) fun (b4 : (Bool × (Bool × (Bool × (Bool × (Bool × (Bool × (Bool × Bool)))))))) =>
            Option.bind (
              bif b4.2.1 then
                Option.bind (r38 (y3, a.2.2.2.1, (1 : Int))) fun (y7 : List Int) =>
                  some ((), y7)
              else
                some ((), y3)) fun (d8 : (Unit × List Int)) =>
              Option.bind (
                bif b4.2.2.1 then
                  Option.bind (r38 (d8.2, a.2.2.2.2.1, (4 : Int))) fun (y11 : List Int) =>
                    some ((), y11)
                else
                  some ((), d8.2)) fun (d12 : (Unit × List Int)) =>
                Option.bind (
                  bif b4.2.2.2.2.1 then
                    Option.bind (r38 (d12.2, a.2.2.2.2.2.1, (3 : Int))) fun (y15 : List Int) =>
                      some ((), y15)
                  else
                    some ((), d12.2)) fun (d16 : (Unit × List Int)) =>
                  Option.bind (
                    bif b4.2.2.2.2.2.1 then
                      Option.bind (r40 (d16.2, a.2.2.2.2.2.2.1)) fun (y19 : List Int) =>
                        some ((), y19)
                    else
                      some ((), d16.2)) fun (d20 : (Unit × List Int)) =>
                    Option.bind (
                      bif b4.2.2.2.2.2.2.2 then
                        Option.bind (r38 (d20.2, (↑a.2.2.2.2.2.2.2.length : Int), (1 : Int))) fun (y37 : List Int) =>
                          Option.bind (loopR (r21_L0 a) ((), ((0 : Int), y37))) fun (q44 : (Unit × List Int)) =>
                            some ((), q44.2)
                      else
                        some ((), d20.2)) fun (d45 : (Unit × List Int)) =>
                      some (d45.2, (0 : Int))
def an21 : Ann := .two (.leaf) (.two (.two (.leaf) (.two (.leaf) (.two (.two (.leaf) (.leaf)) (.leaf)))) (.two (.leaf) (.two (.leaf) (.two (.leaf) (.two (.leaf) (.two (.join [3, 8] [3, 8] [⟨.normal, [], [.tmp 7 (.pt 18 [(0, 0)] 0 0 1), .box 18 [.sl .own (.int .u8)]]⟩] (.two (.leaf) (.two (.leaf) (.leaf)))) (.two (.join [3, 8] [3, 8] [⟨.normal, [], [.tmp 7 (.pt 18 [(0, 0)] 0 0 1), .box 18 [.sl .own (.int .u8)]]⟩] (.two (.leaf) (.two (.leaf) (.leaf)))) (.two (.join [3, 8] [3, 8] [⟨.normal, [], [.tmp 7 (.pt 18 [(0, 0)] 0 0 1), .box 18 [.sl .own (.int .u8)]]⟩] (.two (.leaf) (.two (.leaf) (.leaf)))) (.two (.join [3, 8] [3, 8] [⟨.normal, [], [.tmp 7 (.pt 18 [(0, 0)] 0 0 1), .box 18 [.sl .own (.int .u8)]]⟩] (.two (.leaf) (.two (.leaf) (.leaf)))) (.two (.join [] [] [⟨.normal, [], [.tmp 7 (.pt 18 [(0, 0)] 0 0 1), .box 18 [.sl .own (.int .u8)]]⟩] (.two (.leaf) (.two (.two (.leaf) (.two (.leaf) (.one (.loop [63, 64] [] [] [.tmp 7 (.pt 18 [(0, 0)] 0 0 1), .tmp 65 (.int .i64), .box 18 [.sl .own (.int .u8)]] [⟨.exit 0, [], [.tmp 7 (.pt 18 [(0, 0)] 0 0 1), .box 18 [.sl .own (.int .u8)]]⟩] (.two (.leaf) (.two (.two (.leaf) (.leaf)) (.two (.one (.two (.leaf) (.leaf))) (.leaf)))))))) (.leaf)))) (.two (.leaf) (.leaf))))))))))))
theorem s21 : SoundF cx.P cx.G 21 sg21 r21 := by
  have e : denF cx [(37, ⟨sg37, r37⟩), (38, ⟨sg38, r38⟩), (39, ⟨sg39, r39⟩), (40, ⟨sg40, r40⟩)] an21 Tryd.f21.ntmps (Tryd.f21.body.getD .skip) Tryd.f21.results.toList sg21 = r21 := by kernel_rfl
  rw [← e]
  exact sound_of_den (c := cx) (Known.cons (.ofF s37 (by kernel_rfl)) Tryd.func37 (by kernel_rfl) (by kernel_rfl) (Known.cons (.ofM s38 (by kernel_rfl)) Tryd.func38 (by kernel_rfl) (by kernel_rfl) (Known.cons (.ofM s39 (by kernel_rfl)) Tryd.func39 (by kernel_rfl) (by kernel_rfl) (Known.cons (.ofM s40 (by kernel_rfl)) Tryd.func40 (by kernel_rfl) (by kernel_rfl) (Known.nil))))) Tryd.func21 (by kernel_rfl) (Nat.le_of_ble_eq_true (by kernel_rfl)) rfl

/-! slices.Clone[[]byte,byte] -/
def sg52 : Sig := ⟨[⟨false, .bo, (.sl (.int .u8))⟩], [⟨false, .own, (.sl (.int .u8))⟩]⟩
noncomputable def r52 (a : List Int) : Option (List Int) :=
  nilR a fun (n1 : Bool) =>
    bif n1 then
      some []
    else
      bif roomOk false 0 a.length 1 then
        some a
      else
        none
def an52 : Ann := .two (.leaf) (.two (.two (.leaf) (.two (.two (.leaf) (.leaf)) (.leaf))) (.two (.leaf) (.leaf)))
theorem s52 : SoundF cx.P cx.G 52 sg52 r52 := by
  have e : denF cx [] an52 Tryd.f52.ntmps (Tryd.f52.body.getD .skip) Tryd.f52.results.toList sg52 = r52 := by kernel_rfl
  rw [← e]
  exact sound_of_den (c := cx) (Known.nil) Tryd.func52 (by kernel_rfl) (Nat.le_of_ble_eq_true (by kernel_rfl)) rfl

/-! reredos/tape.open -/
def sg41 : Sig := ⟨[⟨true, .bo, (.pair (.sl (.int .u8)) (.int .i64))⟩], [⟨true, .own, (.pair (.sl (.int .u8)) (.int .i64))⟩, ⟨false, .own, .bool⟩]⟩
noncomputable def r41 (a : (List Int × Int)) : Option ((List Int × Int) × Bool) :=
  Option.bind (
    Option.bind (
      bif !(decide (a.2 < (0 : Int))) then
        some (decide ((↑a.1.length : Int) < a.2))
      else
        some true) fun (g3 : Bool) =>
      bif !(g3) then
        some (decide ((6000 : Int) < (↑a.1.length : Int)))
      else
        some true) fun (d4 : Bool) =>
    bif d4 then
      some (([], (0 : Int)), false)
    else
      Option.bind (r52 a.1) fun (y6 : List Int) =>
        some ((y6, a.2), true)
def an41 : Ann := .two (.leaf) (.two (.two (.join [1, 2] [1, 2] [⟨.normal, [], [.tmp 20 (.bool)]⟩] (.segs [(11, ([1, 2], ([1, 2], [.tmp 14 (.bool)])))])) (.two (.two (.leaf) (.leaf)) (.leaf))) (.two (.draw 5) (.leaf)))
theorem s41 : SoundF cx.P cx.G 41 sg41 r41 := by
  have e : denF cx [(52, ⟨sg52, r52⟩)] an41 Tryd.f41.ntmps (Tryd.f41.body.getD .skip) Tryd.f41.results.toList sg41 = r41 := by kernel_rfl
  rw [← e]
  exact sound_of_den (c := cx) (Known.cons (.ofF s52 (by kernel_rfl)) Tryd.func52 (by kernel_rfl) (by kernel_rfl) (Known.nil)) Tryd.func41 (by kernel_rfl) (Nat.le_of_ble_eq_true (by kernel_rfl)) rfl

/-! reredos/tape.Room -/
def sg22 : Sig := ⟨[⟨true, .bo, (.pair (.sl (.int .u8)) (.int .i64))⟩], [⟨false, .own, (.int .i64)⟩, ⟨false, .own, (.int .i64)⟩]⟩
noncomputable def r22 (a : (List Int × Int)) : Option (Int × Int) :=
  Option.bind (r41 a) fun (y1 : ((List Int × Int) × Bool)) =>
    bif !(y1.2) then
      some ((0 : Int), (9 : Int))
    else
      some ((Go.IntKind.wrap .i64 ((6000 : Int) - (↑a.1.length : Int))), (0 : Int))
def an22 : Ann := .two (.leaf) (.two (.two (.leaf) (.two (.leaf) (.two (.two (.leaf) (.leaf)) (.leaf)))) (.two (.leaf) (.leaf)))
theorem s22 : SoundF cx.P cx.G 22 sg22 r22 := by
  have e : denF cx [(41, ⟨sg41, r41⟩)] an22 Tryd.f22.ntmps (Tryd.f22.body.getD .skip) Tryd.f22.results.toList sg22 = r22 := by kernel_rfl
  rw [← e]
  exact sound_of_den (c := cx) (Known.cons (.ofF s41 (by kernel_rfl)) Tryd.func41 (by kernel_rfl) (by kernel_rfl) (Known.nil)) Tryd.func22 (by kernel_rfl) (Nat.le_of_ble_eq_true (by kernel_rfl)) rfl

/-! slices.Concat[[]byte,byte] -/
noncomputable def r42_L0 (a : List (List Int)) (d1 : (Int × Int)) : Option ((Int × Int) ⊕ Int) :=
  bif decide (d1.2 < (↑a.length : Int)) then
    Option.bind (idxI a d1.2) fun (b2 : List Int) =>
      bif decide ((Go.IntKind.wrap .i64 (d1.1 + (↑b2.length : Int))) < (0 : Int)) then
        none
      else
        some (Sum.inl ((Go.IntKind.wrap .i64 (d1.1 + (↑b2.length : Int))), (Go.IntKind.wrap .i64 (d1.2 + (1 : Int)))))
  else
    some (Sum.inr d1.1)
noncomputable def r42_L1 (a : List (List Int)) (d9 : (Unit × (Int × List Int))) : Option ((Unit × (Int × List Int)) ⊕ (Unit × List Int)) :=
  bif decide (d9.2.1 < (↑a.length : Int)) then
    Option.bind (idxI a d9.2.1) fun (b10 : List Int) =>
      bif roomOk false d9.2.2.length b10.length 1 then
        some (Sum.inl ((), ((Go.IntKind.wrap .i64 (d9.2.1 + (1 : Int))), app d9.2.2 b10)))
      else
        none
  else
    some (Sum.inr ((), d9.2.2))
def sg42 : Sig := ⟨[⟨false, .bo, (.sl (.sl (.int .u8)))⟩], [⟨false, .own, (.sl (.int .u8))⟩]⟩
noncomputable def r42 (a : List (List Int)) : Option (List Int) :=
  Option.bind (loopR (r42_L0 a) ((0 : Int), (0 : Int))) fun (q3 : Int) =>
    bif decide (q3 < (0 : Int)) then
      none
    else
      Option.bind (
        bif decide ((0 : Int) < (Go.IntKind.wrap .i64 (q3 - (0 : Int)))) then
          bif okB none (some (0 : Int)) none 0 then
            bif (decide ((1 : Int) ≤ (Go.IntKind.wrap .i64 (q3 - (0 : Int)))) && roomOk false 0 (Int.toNat (Go.IntKind.wrap .i64 (q3 - (0 : Int)))) 1) then
              bif okB none (some (0 : Int)) none ((List.replicate (Int.toNat (Go.IntKind.wrap .i64 (q3 - (0 : Int)))) (0 : Int)).length) then
                some ((), midL (List.replicate (Int.toNat (Go.IntKind.wrap .i64 (q3 - (0 : Int)))) (0 : Int)) 0 0)
              else
                none
            else
              none
          else
            none
        else
          some ((), [])) fun (d4 : (Unit × List Int)) =>
        Option.bind (loopR (r42_L1 a) ((), ((0 : Int), d4.2))) fun (q11 : (Unit × List Int)) =>
          some q11.2
def an42 : Ann := .two (.leaf) (.two (.leaf) (.two (.two (.leaf) (.one (.loop [0, 9, 10] [] [] [.tmp 3 (.int .i64), .tmp 11 (.int .i64)] [⟨.exit 0, [], [.tmp 3 (.int .i64)]⟩] (.two (.leaf) (.two (.two (.leaf) (.leaf)) (.two (.one (.two (.leaf) (.two (.leaf) (.two (.leaf) (.two (.leaf) (.leaf)))))) (.leaf))))))) (.two (.inl 1 36 (.two (.leaf) (.two (.two (.leaf) (.two (.leaf) (.leaf))) (.two (.join [0] [] [⟨.normal, [(36, (.int .u8))], [.tmp 36 (.own 36 [(0, 0)] (.int .u8)), .row 36 [.sl .own (.int .u8)]]⟩] (.two (.leaf) (.two (.leaf) (.two (.leaf) (.leaf))))) (.two (.leaf) (.leaf))))) (.leaf)) (.two (.two (.leaf) (.one (.loop [25, 26] [] [(6, (.int .u8))] [.tmp 6 (.own 6 [(0, 0)] (.int .u8)), .tmp 27 (.int .i64), .row 6 [.sl .own (.int .u8)]] [⟨.exit 2, [], [.tmp 6 (.own 6 [(0, 0)] (.int .u8)), .row 6 [.sl .own (.int .u8)]]⟩] (.two (.leaf) (.two (.two (.leaf) (.leaf)) (.two (.one (.two (.leaf) (.leaf))) (.leaf))))))) (.two (.leaf) (.leaf))))))
theorem s42 : SoundF cx.P cx.G 42 sg42 r42 := by
  have e : denF cx [] an42 Tryd.f42.ntmps (Tryd.f42.body.getD .skip) Tryd.f42.results.toList sg42 = r42 := by kernel_rfl
  rw [← e]
  exact sound_of_den (c := cx) (Known.nil) Tryd.func42 (by kernel_rfl) (Nat.le_of_ble_eq_true (by kernel_rfl)) rfl

/-! reredos/tape.Append -/
def sg23 : Sig := ⟨[⟨true, .bo, (.pair (.int .i64) (.pair (.sl (.pair (.int .i64) (.int .i64))) (.int .i64)))⟩, ⟨true, .bo, (.pair (.sl (.int .u8)) (.int .i64))⟩, ⟨true, .bo, (.pair (.int .i64) (.pair (.pair (.int .i64) (.int .i64)) (.pair (.int .i64) (.pair (.int .i64) (.pair (.int .i64) (.pair .bool (.sl (.int .i64))))))))⟩], [⟨true, .own, (.pair (.sl (.int .u8)) (.int .i64))⟩, ⟨false, .own, (.int .i64)⟩]⟩
noncomputable def r23 (a : ((Int × (List ((Int × Int)) × Int)) × ((List Int × Int) × (Int × ((Int × Int) × (Int × (Int × (Int × (Bool × List Int))))))))) : Option ((List Int × Int) × Int) :=
  Option.bind (r41 a.2.1) fun (y1 : ((List Int × Int) × Bool)) =>
    bif !(y1.2) then
      some (([], (0 : Int)), (9 : Int))
    else
      Option.bind (r21 (a.1, a.2.2)) fun (y2 : (List Int × Int)) =>
        bif !(decide (y2.2 = (0 : Int))) then
          some (([], (0 : Int)), y2.2)
        else
          bif decide ((6000 : Int) < (Go.IntKind.wrap .i64 ((Go.IntKind.wrap .i64 ((↑y1.1.1.length : Int) + (1 : Int))) + (↑y2.1.length : Int)))) then
            some (([], (0 : Int)), (8 : Int))
          else
            Option.bind (r42 [y1.1.1, [(Go.IntKind.wrap .u8 (↑y2.1.length : Int))], y2.1]) fun (y3 : List Int) =>
              some ((y3, y1.1.2), (0 : Int))
def an23 : Ann := .two (.leaf) (.two (.leaf) (.two (.two (.leaf) (.two (.two (.leaf) (.leaf)) (.leaf))) (.two (.leaf) (.two (.two (.leaf) (.two (.two (.leaf) (.leaf)) (.leaf))) (.two (.two (.leaf) (.two (.two (.leaf) (.leaf)) (.leaf))) (.two (.leaf) (.two (.leaf) (.leaf))))))))
theorem s23 : SoundF cx.P cx.G 23 sg23 r23 := by
  have e : denF cx [(21, ⟨sg21, r21⟩), (41, ⟨sg41, r41⟩), (42, ⟨sg42, r42⟩)] an23 Tryd.f23.ntmps (Tryd.f23.body.getD .skip) Tryd.f23.results.toList sg23 = r23 := by kernel_rfl
  rw [← e]
  exact sound_of_den (c := cx) (Known.cons (.ofF s21 (by kernel_rfl)) Tryd.func21 (by kernel_rfl) (by kernel_rfl) (Known.cons (.ofF s41 (by kernel_rfl)) Tryd.func41 (by kernel_rfl) (by kernel_rfl) (Known.cons (.ofF s42 (by kernel_rfl)) Tryd.func42 (by kernel_rfl) (by kernel_rfl) (Known.nil)))) Tryd.func23 (by kernel_rfl) (Nat.le_of_ble_eq_true (by kernel_rfl)) rfl

/-! reredos/reredoskeep.TapeRoom -/
def sg6 : Sig := ⟨[⟨false, .bo, (.int .i64)⟩, ⟨false, .bo, (.sl (.int .i64))⟩, ⟨true, .bo, (.pair (.int .i64) (.pair (.int .i64) (.pair (.int .i64) (.pair (.int .i64) (.pair (.int .i64) (.int .i64))))))⟩, ⟨false, .bo, (.int .i64)⟩], [⟨false, .own, .bool⟩]⟩
noncomputable def r6 (a : (Int × (List Int × ((Int × (Int × (Int × (Int × (Int × Int))))) × Int)))) : Option Bool :=
  Option.bind (r11 (a.1, a.2.1, (1 : Int))) fun (y1 : (Int × (List ((Int × Int)) × Int))) =>
    Option.bind (r20 (y1, a.2.2.1)) fun (y2 : (Int × ((Int × Int) × (Int × (Int × (Int × (Bool × List Int))))))) =>
      Option.bind (r21 (y1, y2)) fun (y3 : (List Int × Int)) =>
        Option.bind (r18 (a.2.2.2, (40 : Int))) fun (y4 : Int) =>
          bif (decide (0 ≤ (Go.IntKind.wrap .i64 ((6000 : Int) - y4))) && (decide ((Go.IntKind.wrap .i64 ((6000 : Int) - y4)) ≤ (Go.IntKind.wrap .i64 ((6000 : Int) - y4))) && (decide ((1 : Int) * (Go.IntKind.wrap .i64 ((6000 : Int) - y4)) ≤ 281474976710656) && decide ((Go.IntKind.wrap .i64 ((6000 : Int) - y4)) ≤ 9223372036854775807)))) then
            Option.bind (r22 (List.replicate (Int.toNat (Go.IntKind.wrap .i64 ((6000 : Int) - y4))) (0 : Int), (0 : Int))) fun (y5 : (Int × Int)) =>
              Option.bind (r23 (y1, (List.replicate (Int.toNat (Go.IntKind.wrap .i64 ((6000 : Int) - y4))) (0 : Int), (0 : Int)), y2)) fun (y6 : ((List Int × Int) × Int)) =>
                Option.bind (
                  Option.bind (
                    bif !(!(decide (y3.2 = (0 : Int)))) then
                      some (!(decide (y5.2 = (0 : Int))))
                    else
                      some true) fun (g11 : Bool) =>
                    Option.bind (
                      bif !(g11) then
                        some (!(decide (y5.1 = y4)))
                      else
                        some true) fun (g12 : Bool) =>
                      bif !(g12) then
                        some (decide ((↑y3.1.length : Int) = (0 : Int)))
                      else
                        some true) fun (d13 : Bool) =>
                  bif d13 then
                    some false
                  else
                    bif decide (decide (y6.2 = (0 : Int)) = decide ((Go.IntKind.wrap .i64 ((1 : Int) + (↑y3.1.length : Int))) ≤ y4)) then
                      bif !(decide (y6.2 = (0 : Int))) then
                        some (decide (y6.2 = (8 : Int)))
                      else
                        some true
                    else
                      some false
          else
            none
def an6 : Ann := .two (.leaf) (.two (.leaf) (.two (.leaf) (.two (.leaf) (.two (.leaf) (.two (.leaf) (.two (.leaf) (.two (.leaf) (.two (.two (.join [11, 13, 18] [28] [⟨.normal, [], [.tmp 64 (.bool)]⟩] (.segs [(6, ([11, 13, 15, 18], ([28], [.tmp 54 (.bool)]))), (5, ([11, 13, 18], ([28], [.tmp 59 (.bool)])))])) (.two (.two (.leaf) (.leaf)) (.leaf))) (.two (.leaf) (.leaf))))))))))
theorem s6 : SoundF cx.P cx.G 6 sg6 r6 := by
  have e : denF cx [(11, ⟨sg11, r11⟩), (18, ⟨sg18, r18⟩), (20, ⟨sg20, r20⟩), (21, ⟨sg21, r21⟩), (22, ⟨sg22, r22⟩), (23, ⟨sg23, r23⟩)] an6 Tryd.f6.ntmps (Tryd.f6.body.getD .skip) Tryd.f6.results.toList sg6 = r6 := by kernel_rfl
  rw [← e]
  exact sound_of_den (c := cx) (Known.cons (.ofF s11 (by kernel_rfl)) Tryd.func11 (by kernel_rfl) (by kernel_rfl) (Known.cons (.ofF s18 (by kernel_rfl)) Tryd.func18 (by kernel_rfl) (by kernel_rfl) (Known.cons (.ofF s20 (by kernel_rfl)) Tryd.func20 (by kernel_rfl) (by kernel_rfl) (Known.cons (.ofF s21 (by kernel_rfl)) Tryd.func21 (by kernel_rfl) (by kernel_rfl) (Known.cons (.ofF s22 (by kernel_rfl)) Tryd.func22 (by kernel_rfl) (by kernel_rfl) (Known.cons (.ofF s23 (by kernel_rfl)) Tryd.func23 (by kernel_rfl) (by kernel_rfl) (Known.nil))))))) Tryd.func6 (by kernel_rfl) (Nat.le_of_ble_eq_true (by kernel_rfl)) rfl

/-! reredos/reredoskeep.taped -/
noncomputable def r24_L0 (a : ((Int × (List ((Int × Int)) × Int)) × List ((Int × ((Int × Int) × (Int × (Int × (Int × (Bool × List Int))))))))) (d5 : (Unit × (Unit × (Int × ((List Int × Int) × (List Int × Int)))))) : Option ((Unit × (Unit × (Int × ((List Int × Int) × (List Int × Int))))) ⊕ ((Unit × (Unit × ((List Int × Int) × (List Int × Int)))) ⊕ (Unit × (Bool × (List Int × Int))))) :=
  bif decide (d5.2.2.1 < (↑a.2.length : Int)) then
    Option.bind (idxI a.2 d5.2.2.1) fun (b6 : (Int × ((Int × Int) × (Int × (Int × (Int × (Bool × List Int))))))) =>
      Option.bind (r23 (a.1, d5.2.2.2.2, b6)) fun (y7 : ((List Int × Int) × Int)) =>
        Option.bind (
          bif !(!(decide (y7.2 = (0 : Int)))) then
            some (decide ((↑y7.1.1.length : Int) ≤ (↑d5.2.2.2.2.1.length : Int)))
          else
            some true) fun (d8 : Bool) =>
          bif d8 then
            some (Sum.inr (Sum.inr ((), (false, d5.2.2.2.2))))
          else
            some (Sum.inl ((), ((), ((Go.IntKind.wrap .i64 (d5.2.2.1 + (1 : Int))), (d5.2.2.2.1, y7.1)))))
  else
    some (Sum.inr (Sum.inl ((), ((), d5.2.2.2))))
def sg24 : Sig := ⟨[⟨true, .bo, (.pair (.int .i64) (.pair (.sl (.pair (.int .i64) (.int .i64))) (.int .i64)))⟩, ⟨false, .bo, (.sl (.pair (.int .i64) (.pair (.pair (.int .i64) (.int .i64)) (.pair (.int .i64) (.pair (.int .i64) (.pair (.int .i64) (.pair .bool (.rsl (.int .i64)))))))))⟩], [⟨true, .own, (.pair (.sl (.int .u8)) (.int .i64))⟩, ⟨false, .own, .bool⟩]⟩
noncomputable def r24 (a : ((Int × (List ((Int × Int)) × Int)) × List ((Int × ((Int × Int) × (Int × (Int × (Int × (Bool × List Int))))))))) : Option ((List Int × Int) × Bool) :=
  Option.bind (loopR (r24_L0 a) ((), ((), ((0 : Int), (([], (0 : Int)), ([], (0 : Int))))))) fun (q9 : ((Unit × (Unit × ((List Int × Int) × (List Int × Int)))) ⊕ (Unit × (Bool × (List Int × Int))))) =>
    Sum.elim (fun (v10 : (Unit × (Unit × ((List Int × Int) × (List Int × Int))))) =>
        some (v10.2.2.2, true))
      (fun (v11 : (Unit × (Bool × (List Int × Int)))) =>
        some (v11.2.2, v11.2.1)) q9
def an24 : Ann := .two (.leaf) (.two (.leaf) (.two (.two (.leaf) (.one (.loop [2, 11, 12] [2] [] [.tmp 4 (.pt 4 [(0, 0)] 0 0 2), .tmp 6 (.pt 6 [(0, 0)] 0 0 2), .tmp 13 (.int .i64), .box 4 [.sl .own (.int .u8), .int .i64], .box 6 [.sl .own (.int .u8), .int .i64]] [⟨.exit 0, [], [.tmp 4 (.pt 4 [(0, 0)] 0 0 2), .tmp 6 (.pt 6 [(0, 0)] 0 0 2), .box 4 [.sl .own (.int .u8), .int .i64], .box 6 [.sl .own (.int .u8), .int .i64]]⟩, ⟨.ret, [], [.tmp 4 (.pt 4 [(0, 0)] 0 0 2), .tmp 5 (.bool), .box 4 [.sl .own (.int .u8), .int .i64]]⟩] (.two (.leaf) (.two (.two (.leaf) (.leaf)) (.two (.one (.two (.leaf) (.two (.leaf) (.two (.two (.join [2, 4, 6, 9, 11, 12, 13] [2, 4, 6, 9] [⟨.normal, [], [.tmp 34 (.bool)]⟩] (.leaf)) (.two (.two (.leaf) (.leaf)) (.leaf))) (.leaf))))) (.leaf))))))) (.two (.leaf) (.leaf))))
theorem s24 : SoundF cx.P cx.G 24 sg24 r24 := by
  have e : denF cx [(23, ⟨sg23, r23⟩)] an24 Tryd.f24.ntmps (Tryd.f24.body.getD .skip) Tryd.f24.results.toList sg24 = r24 := by kernel_rfl
  rw [← e]
  exact sound_of_den (c := cx) (Known.cons (.ofF s23 (by kernel_rfl)) Tryd.func23 (by kernel_rfl) (by kernel_rfl) (Known.nil)) Tryd.func24 (by kernel_rfl) (Nat.le_of_ble_eq_true (by kernel_rfl)) rfl

/-! reredos/reredoskeep.records -/
noncomputable def r25_L0 (a : ((Int × (List ((Int × Int)) × Int)) × (List ((Int × (Int × (Int × (Int × (Int × Int)))))) × Int))) (d7 : (Unit × (Int × List ((Int × ((Int × Int) × (Int × (Int × (Int × (Bool × List Int)))))))))) : Option ((Unit × (Int × List ((Int × ((Int × Int) × (Int × (Int × (Int × (Bool × List Int))))))))) ⊕ (Unit × List ((Int × ((Int × Int) × (Int × (Int × (Int × (Bool × List Int))))))))) :=
  Option.bind (
    bif decide (d7.2.1 < (↑a.2.1.length : Int)) then
      some (decide (d7.2.1 < a.2.2))
    else
      some false) fun (d8 : Bool) =>
    bif d8 then
      Option.bind (idxI a.2.1 d7.2.1) fun (b11 : (Int × (Int × (Int × (Int × (Int × Int)))))) =>
        Option.bind (r20 (a.1, b11)) fun (y12 : (Int × ((Int × Int) × (Int × (Int × (Int × (Bool × List Int))))))) =>
          bif roomOk false d7.2.2.length 1 80 then
            some (Sum.inl ((), ((Go.IntKind.wrap .i64 (d7.2.1 + (1 : Int))), app d7.2.2 [y12])))
          else
            none
    else
      some (Sum.inr ((), d7.2.2))
def sg25 : Sig := ⟨[⟨true, .bo, (.pair (.int .i64) (.pair (.sl (.pair (.int .i64) (.int .i64))) (.int .i64)))⟩, ⟨false, .bo, (.sl (.pair (.int .i64) (.pair (.int .i64) (.pair (.int .i64) (.pair (.int .i64) (.pair (.int .i64) (.int .i64)))))))⟩, ⟨false, .bo, (.int .i64)⟩], [⟨false, .own, (.sl (.pair (.int .i64) (.pair (.pair (.int .i64) (.int .i64)) (.pair (.int .i64) (.pair (.int .i64) (.pair (.int .i64) (.pair .bool (.rsl (.int .i64)))))))))⟩]⟩
noncomputable def r25 (a : ((Int × (List ((Int × Int)) × Int)) × (List ((Int × (Int × (Int × (Int × (Int × Int)))))) × Int))) : Option (List ((Int × ((Int × Int) × (Int × (Int × (Int × (Bool × List Int)))))))) :=
  Option.bind (loopR (r25_L0 a) ((), ((0 : Int), []))) fun (q13 : (Unit × List ((Int × ((Int × Int) × (Int × (Int × (Int × (Bool × List Int))))))))) =>
    some q13.2
def an25 : Ann := .two (.leaf) (.two (.leaf) (.two (.two (.leaf) (.one (.loop [1, 2, 3] [3] [(7, (.pair (.int .i64) (.pair (.pair (.int .i64) (.int .i64)) (.pair (.int .i64) (.pair (.int .i64) (.pair (.int .i64) (.pair .bool (.rsl (.int .i64)))))))))] [.tmp 7 (.own 7 [(0, 0)] (.pair (.int .i64) (.pair (.pair (.int .i64) (.int .i64)) (.pair (.int .i64) (.pair (.int .i64) (.pair (.int .i64) (.pair .bool (.rsl (.int .i64))))))))), .tmp 8 (.int .i64), .row 7 [.sl .own (.pair (.int .i64) (.pair (.pair (.int .i64) (.int .i64)) (.pair (.int .i64) (.pair (.int .i64) (.pair (.int .i64) (.pair .bool (.rsl (.int .i64))))))))]] [⟨.exit 0, [], [.tmp 7 (.own 7 [(0, 0)] (.pair (.int .i64) (.pair (.pair (.int .i64) (.int .i64)) (.pair (.int .i64) (.pair (.int .i64) (.pair (.int .i64) (.pair .bool (.rsl (.int .i64))))))))), .row 7 [.sl .own (.pair (.int .i64) (.pair (.pair (.int .i64) (.int .i64)) (.pair (.int .i64) (.pair (.int .i64) (.pair (.int .i64) (.pair .bool (.rsl (.int .i64))))))))]]⟩] (.two (.two (.join [1, 2, 3, 7, 8] [3, 7] [⟨.normal, [], [.tmp 18 (.bool)]⟩] (.leaf)) (.two (.leaf) (.leaf))) (.two (.one (.two (.draw 7) (.leaf))) (.leaf)))))) (.two (.leaf) (.leaf))))
theorem s25 : SoundF cx.P cx.G 25 sg25 r25 := by
  have e : denF cx [(20, ⟨sg20, r20⟩)] an25 Tryd.f25.ntmps (Tryd.f25.body.getD .skip) Tryd.f25.results.toList sg25 = r25 := by kernel_rfl
  rw [← e]
  exact sound_of_den (c := cx) (Known.cons (.ofF s20 (by kernel_rfl)) Tryd.func20 (by kernel_rfl) (by kernel_rfl) (Known.nil)) Tryd.func25 (by kernel_rfl) (Nat.le_of_ble_eq_true (by kernel_rfl)) rfl

/-! reredos/tape.Crash -/
def sg26 : Sig := ⟨[⟨true, .bo, (.pair (.sl (.int .u8)) (.int .i64))⟩, ⟨false, .bo, (.int .i64)⟩], [⟨true, .ro, (.pair (.sl (.int .u8)) (.int .i64))⟩, ⟨false, .own, (.int .i64)⟩]⟩
noncomputable def r26 (a : ((List Int × Int) × Int)) : Option ((List Int × Int) × Int) :=
  Option.bind (r41 a.1) fun (y1 : ((List Int × Int) × Bool)) =>
    bif !(y1.2) then
      some (([], (0 : Int)), (9 : Int))
    else
      bif decide (a.2 < (0 : Int)) then
        some (([], (0 : Int)), (2 : Int))
      else
        bif okB none (some (Go.IntKind.wrap .i64 (y1.1.2 + (min a.2 (Go.IntKind.wrap .i64 ((↑y1.1.1.length : Int) - y1.1.2)))))) (some (Go.IntKind.wrap .i64 (y1.1.2 + (min a.2 (Go.IntKind.wrap .i64 ((↑y1.1.1.length : Int) - y1.1.2)))))) y1.1.1.length then
          some ((midL y1.1.1 0 (Int.toNat (Go.IntKind.wrap .i64 (y1.1.2 + (min a.2 (Go.IntKind.wrap .i64 ((↑y1.1.1.length : Int) - y1.1.2)))))), (Go.IntKind.wrap .i64 (y1.1.2 + (min a.2 (Go.IntKind.wrap .i64 ((↑y1.1.1.length : Int) - y1.1.2)))))), (0 : Int))
        else
          none
def an26 : Ann := .two (.leaf) (.two (.leaf) (.two (.one (.two (.leaf) (.two (.two (.leaf) (.leaf)) (.two (.leaf) (.two (.two (.leaf) (.leaf)) (.leaf)))))) (.two (.leaf) (.two (.leaf) (.leaf)))))
theorem s26 : SoundF cx.P cx.G 26 sg26 r26 := by
  have e : denF cx [(41, ⟨sg41, r41⟩)] an26 Tryd.f26.ntmps (Tryd.f26.body.getD .skip) Tryd.f26.results.toList sg26 = r26 := by kernel_rfl
  rw [← e]
  exact sound_of_den (c := cx) (Known.cons (.ofF s41 (by kernel_rfl)) Tryd.func41 (by kernel_rfl) (by kernel_rfl) (Known.nil)) Tryd.func26 (by kernel_rfl) (Nat.le_of_ble_eq_true (by kernel_rfl)) rfl

/-! reredos/reredoskeep.CrashJust -/
def sg7 : Sig := ⟨[⟨false, .bo, (.int .i64)⟩, ⟨false, .bo, (.sl (.int .i64))⟩, ⟨false, .bo, (.sl (.pair (.int .i64) (.pair (.int .i64) (.pair (.int .i64) (.pair (.int .i64) (.pair (.int .i64) (.int .i64)))))))⟩, ⟨false, .bo, (.int .i64)⟩, ⟨false, .bo, (.int .i64)⟩], [⟨false, .own, .bool⟩]⟩
noncomputable def r7 (a : (Int × (List Int × (List ((Int × (Int × (Int × (Int × (Int × Int)))))) × (Int × Int))))) : Option Bool :=
  Option.bind (r11 (a.1, a.2.1, (1 : Int))) fun (y1 : (Int × (List ((Int × Int)) × Int))) =>
    Option.bind (
      Option.bind (r25 (y1, a.2.2.1, (20 : Int))) fun (y6 : List ((Int × ((Int × Int) × (Int × (Int × (Int × (Bool × List Int)))))))) =>
        Option.bind (r24 (y1, y6)) fun (y7 : ((List Int × Int) × Bool)) =>
          
            some ((), (y7.2, y7.1))) fun (d8 : (Unit × (Bool × (List Int × Int)))) =>
      Option.bind (r18 (a.2.2.2.2, (200 : Int))) fun (y9 : Int) =>
        Option.bind (r18 (a.2.2.2.1, (Go.IntKind.wrap .i64 ((↑d8.2.2.1.length : Int) + (1 : Int))))) fun (y10 : Int) =>
          Option.bind (r26 ((d8.2.2.1, y10), y9)) fun (y11 : ((List Int × Int) × Int)) =>
            Option.bind (r26 ((d8.2.2.1, y10), (Go.IntKind.wrap .i64 ((-1 : Int) - y9)))) fun (y12 : ((List Int × Int) × Int)) =>
              bif d8.2.1 then
                bif decide (y11.2 = (0 : Int)) then
                  bif decide (y12.2 = (2 : Int)) then
                    bif decide ((↑y11.1.1.length : Int) = (min (Go.IntKind.wrap .i64 (y10 + y9)) (↑d8.2.2.1.length : Int))) then
                      bif decide (y11.1.2 = (min (Go.IntKind.wrap .i64 (y10 + y9)) (↑d8.2.2.1.length : Int))) then
                        bif okB none (some (min (Go.IntKind.wrap .i64 (y10 + y9)) (↑d8.2.2.1.length : Int))) none d8.2.2.1.length then
                          some (decide ((List.map byte8 y11.1.1) = (List.map byte8 (midL d8.2.2.1 0 (Int.toNat (min (Go.IntKind.wrap .i64 (y10 + y9)) (↑d8.2.2.1.length : Int)))))))
                        else
                          none
                      else
                        some false
                    else
                      some false
                  else
                    some false
                else
                  some false
              else
                some false
noncomputable def r7q : (Int × (List Int × (List ((Int × (Int × (Int × (Int × (Int × Int)))))) × (Int × Int)))) → Option Bool := fun a =>
  Option.bind (r11 (a.1, a.2.1, (1 : Int))) fun (y1 : (Int × (List ((Int × Int)) × Int))) =>
    Option.bind (
      Option.bind (r25 (y1, a.2.2.1, (20 : Int))) fun (y6 : List ((Int × ((Int × Int) × (Int × (Int × (Int × (Bool × List Int)))))))) =>
        Option.bind (r24 (y1, y6)) fun (y7 : ((List Int × Int) × Bool)) =>
          sameR (
            some ((), (y7.2, y7.1)))
 (
            sameR (
              some ((), (y7.2, y7.1)))
 (
              some ((), (y7.2, y7.1))))) fun (d8 : (Unit × (Bool × (List Int × Int)))) =>
      Option.bind (r18 (a.2.2.2.2, (200 : Int))) fun (y9 : Int) =>
        Option.bind (r18 (a.2.2.2.1, (Go.IntKind.wrap .i64 ((↑d8.2.2.1.length : Int) + (1 : Int))))) fun (y10 : Int) =>
          Option.bind (r26 ((d8.2.2.1, y10), y9)) fun (y11 : ((List Int × Int) × Int)) =>
            Option.bind (r26 ((d8.2.2.1, y10), (Go.IntKind.wrap .i64 ((-1 : Int) - y9)))) fun (y12 : ((List Int × Int) × Int)) =>
              bif d8.2.1 then
                bif decide (y11.2 = (0 : Int)) then
                  bif decide (y12.2 = (2 : Int)) then
                    bif decide ((↑y11.1.1.length : Int) = (min (Go.IntKind.wrap .i64 (y10 + y9)) (↑d8.2.2.1.length : Int))) then
                      bif decide (y11.1.2 = (min (Go.IntKind.wrap .i64 (y10 + y9)) (↑d8.2.2.1.length : Int))) then
                        bif okB none (some (min (Go.IntKind.wrap .i64 (y10 + y9)) (↑d8.2.2.1.length : Int))) none d8.2.2.1.length then
                          some (decide ((List.map byte8 y11.1.1) = (List.map byte8 (midL d8.2.2.1 0 (Int.toNat (min (Go.IntKind.wrap .i64 (y10 + y9)) (↑d8.2.2.1.length : Int)))))))
                        else
                          none
                      else
                        some false
                    else
                      some false
                  else
                    some false
                else
                  some false
              else
                some false
theorem r7e : r7q = r7 := by unfold r7q r7; simp only [sameR_self]
def an7 : Ann := .two (.leaf) (.two (.leaf) (.two (.join [3, 4] [] [⟨.normal, [], [.tmp 12 (.pt 12 [(0, 0)] 0 0 2), .tmp 13 (.bool), .box 12 [.sl .own (.int .u8), .int .i64]]⟩] (.drawT [0, 1, 2, 3, 4, 5, 6, 7, 8] [7])) (.two (.leaf) (.two (.leaf) (.two (.leaf) (.two (.leaf) (.two (.leaf) (.two (.draw 31) (.leaf)))))))))
theorem s7 : SoundF cx.P cx.G 7 sg7 r7 := by
  have e : denF cx [(11, ⟨sg11, r11⟩), (18, ⟨sg18, r18⟩), (24, ⟨sg24, r24⟩), (25, ⟨sg25, r25⟩), (26, ⟨sg26, r26⟩)] an7 Tryd.f7.ntmps (Tryd.f7.body.getD .skip) Tryd.f7.results.toList sg7 = r7q := by kernel_rfl
  rw [← r7e, ← e]
  exact sound_of_den (c := cx) (Known.cons (.ofF s11 (by kernel_rfl)) Tryd.func11 (by kernel_rfl) (by kernel_rfl) (Known.cons (.ofF s18 (by kernel_rfl)) Tryd.func18 (by kernel_rfl) (by kernel_rfl) (Known.cons (.ofF s24 (by kernel_rfl)) Tryd.func24 (by kernel_rfl) (by kernel_rfl) (Known.cons (.ofF s25 (by kernel_rfl)) Tryd.func25 (by kernel_rfl) (by kernel_rfl) (Known.cons (.ofF s26 (by kernel_rfl)) Tryd.func26 (by kernel_rfl) (by kernel_rfl) (Known.nil)))))) Tryd.func7 (by kernel_rfl) (Nat.le_of_ble_eq_true (by kernel_rfl)) rfl

/-! (*reredos/wire.reader).take -/
noncomputable def r56_L0 (a : ((List Int × Int) × Int)) (d2 : (Int × Int)) : Option ((Int × Int) ⊕ Int) :=
  bif decide (d2.2 < (↑(Int.toNat a.2) : Int)) then
    bif inB d2.2 (Int.toNat a.2) then
      Option.bind (idxN a.1.1 (0 + (Int.toNat d2.2))) fun (x3 : Int) =>
        some (Sum.inl ((Go.bits .or .i64 (Go.IntKind.wrap .i64 (d2.1 * 2 ^ 8)) (Go.IntKind.wrap .i64 x3)), (Go.IntKind.wrap .i64 (d2.2 + (1 : Int)))))
    else
      none
  else
    some (Sum.inr d2.1)
def sg56 : Sig := ⟨[⟨false, .own, (.ptr (.pair (.sl (.int .u8)) (.int .i64)))⟩, ⟨false, .bo, (.int .i64)⟩], [⟨false, .own, (.int .i64)⟩, ⟨false, .own, (.ptr (.pair (.sl (.int .u8)) (.int .i64)))⟩]⟩
noncomputable def r56 (a : ((List Int × Int) × Int)) : Option (Int × (List Int × Int)) :=
  bif decide ((↑a.1.1.length : Int) < a.2) then
    Option.bind (
      bif decide (a.1.2 = (0 : Int)) then
        some ((), (a.1.1, (5 : Int)))
      else
        some ((), a.1)) fun (d1 : (Unit × (List Int × Int))) =>
      some ((0 : Int), ([], d1.2.2))
  else
    bif okB none (some a.2) none a.1.1.length then
      Option.bind (loopR (r56_L0 a) ((0 : Int), (0 : Int))) fun (q4 : Int) =>
        bif okB (some a.2) none none a.1.1.length then
          some (q4, (midL a.1.1 (Int.toNat a.2) (a.1.1.length - (Int.toNat a.2)), a.1.2))
        else
          none
    else
      none
def an56 : Ann := .two (.leaf) (.two (.two (.leaf) (.two (.two (.join [] [] [⟨.normal, [], [.tmp 0 (.pt 0 [(0, 0)] 0 0 0), .box 0 [.sl .own (.int .u8), .int .i64]]⟩] (.two (.leaf) (.two (.leaf) (.leaf)))) (.two (.leaf) (.two (.leaf) (.leaf)))) (.leaf))) (.two (.leaf) (.two (.two (.leaf) (.one (.loop [0, 1, 31, 32] [0] [] [.tmp 5 (.int .i64), .tmp 33 (.int .i64)] [⟨.exit 0, [], [.tmp 5 (.int .i64)]⟩] (.two (.leaf) (.two (.two (.leaf) (.leaf)) (.two (.one (.two (.leaf) (.leaf))) (.leaf))))))) (.two (.leaf) (.two (.leaf) (.leaf))))))
theorem s56 : SoundM cx.P cx.G 56 sg56 r56 := by
  have e : denM cx [] an56 Tryd.f56.ntmps (Tryd.f56.body.getD .skip) Tryd.f56.results.toList sg56 = r56 := by kernel_rfl
  rw [← e]
  exact sound_of_denM (c := cx) (Known.nil) Tryd.func56 (by kernel_rfl) (Nat.le_of_ble_eq_true (by kernel_rfl)) rfl

/-! (*reredos/wire.reader).kind -/
def sg54 : Sig := ⟨[⟨false, .own, (.ptr (.pair (.sl (.int .u8)) (.int .i64)))⟩, ⟨false, .bo, (.int .i64)⟩], [⟨false, .own, (.int .i64)⟩, ⟨false, .own, (.ptr (.pair (.sl (.int .u8)) (.int .i64)))⟩]⟩
noncomputable def r54 (a : ((List Int × Int) × Int)) : Option (Int × (List Int × Int)) :=
  Option.bind (r56 (a.1, (1 : Int))) fun (y1 : (Int × (List Int × Int))) =>
    Option.bind (
      Option.bind (
        Option.bind (
          bif !(decide (y1.1 < (1 : Int))) then
            some (decide (a.2 < y1.1))
          else
            some true) fun (g12 : Bool) =>
          bif g12 then
            some (decide (y1.2.2 = (0 : Int)))
          else
            some false) fun (d13 : Bool) =>
        bif d13 then
          some ((), (y1.2.1, (3 : Int)))
        else
          some ((), y1.2)) fun (d14 : (Unit × (List Int × Int))) =>
      bif !(decide (d14.2.2 = (0 : Int))) then
        some ((0 : Int), d14.2)
      else
        some (y1.1, d14.2)
def an54 : Ann := .two (.leaf) (.two (.leaf) (.two (.join [5] [] [⟨.normal, [], [.tmp 0 (.pt 0 [(0, 0)] 0 0 0), .box 0 [.sl .own (.int .u8), .int .i64]]⟩] (.two (.join [0, 5] [0] [⟨.normal, [], [.tmp 21 (.bool)]⟩] (.segs [(7, ([0, 5], ([0], [.tmp 14 (.bool)])))])) (.two (.leaf) (.leaf)))) (.two (.two (.leaf) (.two (.two (.leaf) (.leaf)) (.leaf))) (.two (.leaf) (.leaf)))))
theorem s54 : SoundM cx.P cx.G 54 sg54 r54 := by
  have e : denM cx [(56, ⟨sg56, r56⟩)] an54 Tryd.f54.ntmps (Tryd.f54.body.getD .skip) Tryd.f54.results.toList sg54 = r54 := by kernel_rfl
  rw [← e]
  exact sound_of_denM (c := cx) (Known.cons (.ofM s56 (by kernel_rfl)) Tryd.func56 (by kernel_rfl) (by kernel_rfl) (Known.nil)) Tryd.func54 (by kernel_rfl) (Nat.le_of_ble_eq_true (by kernel_rfl)) rfl

/-! (*reredos/wire.reader).txn -/
def sg55 : Sig := ⟨[⟨false, .own, (.ptr (.pair (.sl (.int .u8)) (.int .i64)))⟩], [⟨true, .own, (.pair (.int .i64) (.int .i64))⟩, ⟨false, .own, (.ptr (.pair (.sl (.int .u8)) (.int .i64)))⟩]⟩
noncomputable def r55 (a : (List Int × Int)) : Option ((Int × Int) × (List Int × Int)) :=
  Option.bind (r56 (a, (1 : Int))) fun (y1 : (Int × (List Int × Int))) =>
    Option.bind (r56 (y1.2, (3 : Int))) fun (y2 : (Int × (List Int × Int))) =>
      some ((y1.1, y2.1), y2.2)
def an55 : Ann := .two (.leaf) (.two (.leaf) (.two (.leaf) (.leaf)))
theorem s55 : SoundM cx.P cx.G 55 sg55 r55 := by
  have e : denM cx [(56, ⟨sg56, r56⟩)] an55 Tryd.f55.ntmps (Tryd.f55.body.getD .skip) Tryd.f55.results.toList sg55 = r55 := by kernel_rfl
  rw [← e]
  exact sound_of_denM (c := cx) (Known.cons (.ofM s56 (by kernel_rfl)) Tryd.func56 (by kernel_rfl) (by kernel_rfl) (Known.nil)) Tryd.func55 (by kernel_rfl) (Nat.le_of_ble_eq_true (by kernel_rfl)) rfl

/-! (*reredos/wire.reader).bit -/
def sg57 : Sig := ⟨[⟨false, .own, (.ptr (.pair (.sl (.int .u8)) (.int .i64)))⟩], [⟨false, .own, .bool⟩, ⟨false, .own, (.ptr (.pair (.sl (.int .u8)) (.int .i64)))⟩]⟩
noncomputable def r57 (a : (List Int × Int)) : Option (Bool × (List Int × Int)) :=
  Option.bind (r56 (a, (1 : Int))) fun (y1 : (Int × (List Int × Int))) =>
    Option.bind (
      Option.bind (
        bif decide ((1 : Int) < y1.1) then
          some (decide (y1.2.2 = (0 : Int)))
        else
          some false) fun (d4 : Bool) =>
        bif d4 then
          some ((), (y1.2.1, (4 : Int)))
        else
          some ((), y1.2)) fun (d5 : (Unit × (List Int × Int))) =>
      some (decide (y1.1 = (1 : Int)), d5.2)
def an57 : Ann := .two (.leaf) (.two (.leaf) (.two (.join [3] [] [⟨.normal, [], [.tmp 0 (.pt 0 [(0, 0)] 0 0 0), .box 0 [.sl .own (.int .u8), .int .i64]]⟩] (.two (.join [0, 3] [0] [⟨.normal, [], [.tmp 14 (.bool)]⟩] (.leaf)) (.two (.leaf) (.leaf)))) (.two (.leaf) (.leaf))))
theorem s57 : SoundM cx.P cx.G 57 sg57 r57 := by
  have e : denM cx [(56, ⟨sg56, r56⟩)] an57 Tryd.f57.ntmps (Tryd.f57.body.getD .skip) Tryd.f57.results.toList sg57 = r57 := by kernel_rfl
  rw [← e]
  exact sound_of_denM (c := cx) (Known.cons (.ofM s56 (by kernel_rfl)) Tryd.func56 (by kernel_rfl) (by kernel_rfl) (Known.nil)) Tryd.func57 (by kernel_rfl) (Nat.le_of_ble_eq_true (by kernel_rfl)) rfl

/-! (*reredos/wire.reader).end -/
def sg58 : Sig := ⟨[⟨false, .own, (.ptr (.pair (.sl (.int .u8)) (.int .i64)))⟩], [⟨false, .own, (.ptr (.pair (.sl (.int .u8)) (.int .i64)))⟩]⟩
noncomputable def r58 (a : (List Int × Int)) : Option (List Int × Int) :=
  Option.bind (
    bif decide (a.2 = (0 : Int)) then
      some (decide ((0 : Int) < (↑a.1.length : Int)))
    else
      some false) fun (d1 : Bool) =>
    bif d1 then
      some (a.1, (4 : Int))
    else
      some a
def an58 : Ann := .two (.join [0] [0] [⟨.normal, [], [.tmp 14 (.bool)]⟩] (.leaf)) (.two (.leaf) (.leaf))
theorem s58 : SoundM cx.P cx.G 58 sg58 r58 := by
  have e : denM cx [] an58 Tryd.f58.ntmps (Tryd.f58.body.getD .skip) Tryd.f58.results.toList sg58 = r58 := by kernel_rfl
  rw [← e]
  exact sound_of_denM (c := cx) (Known.nil) Tryd.func58 (by kernel_rfl) (Nat.le_of_ble_eq_true (by kernel_rfl)) rfl

/-! reredos/wire.DecodeRecord -/
noncomputable def r43_L0 (d42 : (Unit × (Unit × (Int × ((List Int × Int) × (Int × (Int × (Int × (Int × (Int × (Int × (Bool × List Int)))))))))))) : Option ((Unit × (Unit × (Int × ((List Int × Int) × (Int × (Int × (Int × (Int × (Int × (Int × (Bool × List Int))))))))))) ⊕ (Unit × (Unit × ((List Int × Int) × (Int × (Int × (Int × (Int × (Int × (Int × (Bool × List Int))))))))))) :=
  Option.bind (
    bif decide ((0 : Int) < d42.2.2.1) then
      some (decide (d42.2.2.2.1.2 = (0 : Int)))
    else
      some false) fun (d43 : Bool) =>
    bif d43 then
      Option.bind (r56 (d42.2.2.2.1, (1 : Int))) fun (y44 : (Int × (List Int × Int))) =>
        bif roomOk false d42.2.2.2.2.2.2.2.2.2.2.2.length 1 8 then
          some (Sum.inl ((), ((), ((Go.IntKind.wrap .i64 (d42.2.2.1 - (1 : Int))), (y44.2, (d42.2.2.2.2.1, (d42.2.2.2.2.2.1, (d42.2.2.2.2.2.2.1, (d42.2.2.2.2.2.2.2.1, (d42.2.2.2.2.2.2.2.2.1, (d42.2.2.2.2.2.2.2.2.2.1, (d42.2.2.2.2.2.2.2.2.2.2.1, app d42.2.2.2.2.2.2.2.2.2.2.2 [y44.1]))))))))))))
        else
          none
    else
      some (Sum.inr ((), ((), d42.2.2.2)))
noncomputable def r43_L0q : (Unit × (Unit × (Int × ((List Int × Int) × (Int × (Int × (Int × (Int × (Int × (Int × (Bool × List Int))))))))))) → Option ((Unit × (Unit × (Int × ((List Int × Int) × (Int × (Int × (Int × (Int × (Int × (Int × (Bool × List Int))))))))))) ⊕ (Unit × (Unit × ((List Int × Int) × (Int × (Int × (Int × (Int × (Int × (Int × (Bool × List Int))))))))))) := fun d42 =>
  Option.bind (
    bif decide ((0 : Int) < d42.2.2.1) then
      some (decide (d42.2.2.2.1.2 = (0 : Int)))
    else
      some false) fun (d43 : Bool) =>
    bif d43 then
      Option.bind (r56 (d42.2.2.2.1, (1 : Int))) fun (y44 : (Int × (List Int × Int))) =>
        bif roomOk false d42.2.2.2.2.2.2.2.2.2.2.2.length 1 8 then
          some (Sum.inl ((), ((), ((Go.IntKind.wrap .i64 (d42.2.2.1 - (1 : Int))), (y44.2, (d42.2.2.2.2.1, (d42.2.2.2.2.2.1, (d42.2.2.2.2.2.2.1, (d42.2.2.2.2.2.2.2.1, (d42.2.2.2.2.2.2.2.2.1, (d42.2.2.2.2.2.2.2.2.2.1, (d42.2.2.2.2.2.2.2.2.2.2.1, app d42.2.2.2.2.2.2.2.2.2.2.2 [y44.1]))))))))))))
        else
          none
    else
      some (Sum.inr ((), ((), d42.2.2.2)))
theorem r43_L0e : r43_L0q = r43_L0 := by unfold r43_L0q r43_L0; rfl
def sg43 : Sig := ⟨[⟨true, .bo, (.pair (.int .i64) (.pair (.sl (.pair (.int .i64) (.int .i64))) (.int .i64)))⟩, ⟨false, .bo, (.sl (.int .u8))⟩], [⟨true, .ro, (.pair (.int .i64) (.pair (.pair (.int .i64) (.int .i64)) (.pair (.int .i64) (.pair (.int .i64) (.pair (.int .i64) (.pair .bool (.sl (.int .i64))))))))⟩, ⟨false, .own, (.int .i64)⟩]⟩
noncomputable def r43 (a : ((Int × (List ((Int × Int)) × Int)) × List Int)) : Option ((Int × ((Int × Int) × (Int × (Int × (Int × (Bool × List Int)))))) × Int) :=
  Option.bind (r32 a.1) fun (y1 : Int) =>
    bif !(decide (y1 = (0 : Int))) then
      some (((0 : Int), (((0 : Int), (0 : Int)), ((0 : Int), ((0 : Int), ((0 : Int), (false, [])))))), y1)
    else
      Option.bind (r52 a.2) fun (y2 : List Int) =>
        Option.bind (r54 ((y2, (0 : Int)), (6 : Int))) fun (y3 : (Int × (List Int × Int))) =>
          Option.bind (idxI tab0 y3.1) fun (b4 : (Bool × (Bool × (Bool × (Bool × (Bool × (Bool × (Bool × Bool)))))))) =>
            Option.bind (r55 y3.2) fun (y5 : ((Int × Int) × (List Int × Int))) =>
              Option.bind (
                bif b4.2.1 then
                  Option.bind (r56 (y5.2, (1 : Int))) fun (y8 : (Int × (List Int × Int))) =>
                    some ((), ((), (y8.2, (y3.1, (y5.1.1, (y5.1.2, (y8.1, ((0 : Int), ((0 : Int), (false, []))))))))))
                else
                  some ((), ((), (y5.2, (y3.1, (y5.1.1, (y5.1.2, ((0 : Int), ((0 : Int), ((0 : Int), (false, []))))))))))) fun (d9 : (Unit × (Unit × ((List Int × Int) × (Int × (Int × (Int × (Int × (Int × (Int × (Bool × List Int))))))))))) =>
                Option.bind (
                  bif b4.2.2.1 then
                    Option.bind (r56 (d9.2.2.1, (4 : Int))) fun (y12 : (Int × (List Int × Int))) =>
                      some ((), ((), (y12.2, (d9.2.2.2.1, (d9.2.2.2.2.1, (d9.2.2.2.2.2.1, (d9.2.2.2.2.2.2.1, (y12.1, d9.2.2.2.2.2.2.2.2))))))))
                  else
                    some ((), ((), d9.2.2))) fun (d13 : (Unit × (Unit × ((List Int × Int) × (Int × (Int × (Int × (Int × (Int × (Int × (Bool × List Int))))))))))) =>
                  Option.bind (
                    bif b4.2.2.2.2.1 then
                      Option.bind (r56 (d13.2.2.1, (3 : Int))) fun (y16 : (Int × (List Int × Int))) =>
                        some ((), ((), (y16.2, (d13.2.2.2.1, (d13.2.2.2.2.1, (d13.2.2.2.2.2.1, (d13.2.2.2.2.2.2.1, (d13.2.2.2.2.2.2.2.1, (y16.1, d13.2.2.2.2.2.2.2.2.2)))))))))
                    else
                      some ((), ((), d13.2.2))) fun (d17 : (Unit × (Unit × ((List Int × Int) × (Int × (Int × (Int × (Int × (Int × (Int × (Bool × List Int))))))))))) =>
                    Option.bind (
                      bif b4.2.2.2.2.2.1 then
                        Option.bind (r57 d17.2.2.1) fun (y20 : (Bool × (List Int × Int))) =>
                          some ((), ((), (y20.2, (d17.2.2.2.1, (d17.2.2.2.2.1, (d17.2.2.2.2.2.1, (d17.2.2.2.2.2.2.1, (d17.2.2.2.2.2.2.2.1, (d17.2.2.2.2.2.2.2.2.1, (y20.1, d17.2.2.2.2.2.2.2.2.2.2))))))))))
                      else
                        some ((), ((), d17.2.2))) fun (d21 : (Unit × (Unit × ((List Int × Int) × (Int × (Int × (Int × (Int × (Int × (Int × (Bool × List Int))))))))))) =>
                      Option.bind (
                        bif b4.2.2.2.2.2.2.2 then
                          Option.bind (r56 (d21.2.2.1, (1 : Int))) fun (y38 : (Int × (List Int × Int))) =>
                            Option.bind (loopR r43_L0 ((), ((), (y38.1, (y38.2, d21.2.2.2))))) fun (q45 : (Unit × (Unit × ((List Int × Int) × (Int × (Int × (Int × (Int × (Int × (Int × (Bool × List Int))))))))))) =>
                              some ((), ((), q45.2.2))
                        else
                          some ((), ((), d21.2.2))) fun (d46 : (Unit × (Unit × ((List Int × Int) × (Int × (Int × (Int × (Int × (Int × (Int × (Bool × List Int))))))))))) =>
                        Option.bind (r58 d46.2.2.1) fun (y47 : (List Int × Int)) =>
                          Option.bind (
                            bif decide (y47.2 = (0 : Int)) then
                              Option.bind (r37 (a.1, (d46.2.2.2.1, ((d46.2.2.2.2.1, d46.2.2.2.2.2.1), d46.2.2.2.2.2.2)))) fun (y50 : Int) =>
                                some ((), (y47.1, y50))
                            else
                              some ((), y47)) fun (d51 : (Unit × (List Int × Int))) =>
                            bif !(decide (d51.2.2 = (0 : Int))) then
                              Option.bind (
                                
                                  some ((), (d51.2.2, ((0 : Int), ((0 : Int), ((0 : Int), ((0 : Int), ((0 : Int), ((0 : Int), (false, [])))))))))) fun (d52 : (Unit × (Int × (Int × (Int × (Int × (Int × (Int × (Int × (Bool × List Int)))))))))) =>
                                some ((d52.2.2.1, ((d52.2.2.2.1, d52.2.2.2.2.1), d52.2.2.2.2.2)), d52.2.1)
                            else
                              some ((d46.2.2.2.1, ((d46.2.2.2.2.1, d46.2.2.2.2.2.1), d46.2.2.2.2.2.2)), (0 : Int))
noncomputable def r43q : ((Int × (List ((Int × Int)) × Int)) × List Int) → Option ((Int × ((Int × Int) × (Int × (Int × (Int × (Bool × List Int)))))) × Int) := fun a =>
  Option.bind (r32 a.1) fun (y1 : Int) =>
    bif !(decide (y1 = (0 : Int))) then
      some (((0 : Int), (((0 : Int), (0 : Int)), ((0 : Int), ((0 : Int), ((0 : Int), (false, [])))))), y1)
    else
      Option.bind (r52 a.2) fun (y2 : List Int) =>
        Option.bind (r54 ((y2, (0 : Int)), (6 : Int))) fun (y3 : (Int × (List Int × Int))) =>
          Option.bind (idxI tab0 y3.1) fun (b4 : (Bool × (Bool × (Bool × (Bool × (Bool × (Bool × (Bool × Bool)))))))) =>
            Option.bind (r55 y3.2) fun (y5 : ((Int × Int) × (List Int × Int))) =>
              Option.bind (
                bif b4.2.1 then
                  Option.bind (r56 (y5.2, (1 : Int))) fun (y8 : (Int × (List Int × Int))) =>
                    some ((), ((), (y8.2, (y3.1, (y5.1.1, (y5.1.2, (y8.1, ((0 : Int), ((0 : Int), (false, []))))))))))
                else
                  some ((), ((), (y5.2, (y3.1, (y5.1.1, (y5.1.2, ((0 : Int), ((0 : Int), ((0 : Int), (false, []))))))))))) fun (d9 : (Unit × (Unit × ((List Int × Int) × (Int × (Int × (Int × (Int × (Int × (Int × (Bool × List Int))))))))))) =>
                Option.bind (
                  bif b4.2.2.1 then
                    Option.bind (r56 (d9.2.2.1, (4 : Int))) fun (y12 : (Int × (List Int × Int))) =>
                      some ((), ((), (y12.2, (d9.2.2.2.1, (d9.2.2.2.2.1, (d9.2.2.2.2.2.1, (d9.2.2.2.2.2.2.1, (y12.1, d9.2.2.2.2.2.2.2.2))))))))
                  else
                    some ((), ((), d9.2.2))) fun (d13 : (Unit × (Unit × ((List Int × Int) × (Int × (Int × (Int × (Int × (Int × (Int × (Bool × List Int))))))))))) =>
                  Option.bind (
                    bif b4.2.2.2.2.1 then
                      Option.bind (r56 (d13.2.2.1, (3 : Int))) fun (y16 : (Int × (List Int × Int))) =>
                        some ((), ((), (y16.2, (d13.2.2.2.1, (d13.2.2.2.2.1, (d13.2.2.2.2.2.1, (d13.2.2.2.2.2.2.1, (d13.2.2.2.2.2.2.2.1, (y16.1, d13.2.2.2.2.2.2.2.2.2)))))))))
                    else
                      some ((), ((), d13.2.2))) fun (d17 : (Unit × (Unit × ((List Int × Int) × (Int × (Int × (Int × (Int × (Int × (Int × (Bool × List Int))))))))))) =>
                    Option.bind (
                      bif b4.2.2.2.2.2.1 then
                        Option.bind (r57 d17.2.2.1) fun (y20 : (Bool × (List Int × Int))) =>
                          some ((), ((), (y20.2, (d17.2.2.2.1, (d17.2.2.2.2.1, (d17.2.2.2.2.2.1, (d17.2.2.2.2.2.2.1, (d17.2.2.2.2.2.2.2.1, (d17.2.2.2.2.2.2.2.2.1, (y20.1, d17.2.2.2.2.2.2.2.2.2.2))))))))))
                      else
                        some ((), ((), d17.2.2))) fun (d21 : (Unit × (Unit × ((List Int × Int) × (Int × (Int × (Int × (Int × (Int × (Int × (Bool × List Int))))))))))) =>
                      Option.bind (
                        bif b4.2.2.2.2.2.2.2 then
                          Option.bind (r56 (d21.2.2.1, (1 : Int))) fun (y38 : (Int × (List Int × Int))) =>
                            Option.bind (loopR r43_L0q ((), ((), (y38.1, (y38.2, d21.2.2.2))))) fun (q45 : (Unit × (Unit × ((List Int × Int) × (Int × (Int × (Int × (Int × (Int × (Int × (Bool × List Int))))))))))) =>
                              some ((), ((), q45.2.2))
                        else
                          some ((), ((), d21.2.2))) fun (d46 : (Unit × (Unit × ((List Int × Int) × (Int × (Int × (Int × (Int × (Int × (Int × (Bool × List Int))))))))))) =>
                        Option.bind (r58 d46.2.2.1) fun (y47 : (List Int × Int)) =>
                          Option.bind (
                            bif decide (y47.2 = (0 : Int)) then
                              Option.bind (r37 (a.1, (d46.2.2.2.1, ((d46.2.2.2.2.1, d46.2.2.2.2.2.1), d46.2.2.2.2.2.2)))) fun (y50 : Int) =>
                                some ((), (y47.1, y50))
                            else
                              some ((), y47)) fun (d51 : (Unit × (List Int × Int))) =>
                            bif !(decide (d51.2.2 = (0 : Int))) then
                              Option.bind (
                                sameR (
                                  some ((), (d51.2.2, ((0 : Int), ((0 : Int), ((0 : Int), ((0 : Int), ((0 : Int), ((0 : Int), (false, []))))))))))
 (
                                  sameR (
                                    sameR (
                                      some ((), (d51.2.2, ((0 : Int), ((0 : Int), ((0 : Int), ((0 : Int), ((0 : Int), ((0 : Int), (false, []))))))))))
 (
                                      some ((), (d51.2.2, ((0 : Int), ((0 : Int), ((0 : Int), ((0 : Int), ((0 : Int), ((0 : Int), (false, [])))))))))))
 (
                                    sameR (
                                      sameR (
                                        sameR (
                                          some ((), (d51.2.2, ((0 : Int), ((0 : Int), ((0 : Int), ((0 : Int), ((0 : Int), ((0 : Int), (false, []))))))))))
 (
                                          some ((), (d51.2.2, ((0 : Int), ((0 : Int), ((0 : Int), ((0 : Int), ((0 : Int), ((0 : Int), (false, [])))))))))))
 (
                                        some ((), (d51.2.2, ((0 : Int), ((0 : Int), ((0 : Int), ((0 : Int), ((0 : Int), ((0 : Int), (false, [])))))))))))
 (
                                      sameR (
                                        sameR (
                                          sameR (
                                            sameR (
                                              some ((), (d51.2.2, ((0 : Int), ((0 : Int), ((0 : Int), ((0 : Int), ((0 : Int), ((0 : Int), (false, []))))))))))
 (
                                              some ((), (d51.2.2, ((0 : Int), ((0 : Int), ((0 : Int), ((0 : Int), ((0 : Int), ((0 : Int), (false, [])))))))))))
 (
                                            some ((), (d51.2.2, ((0 : Int), ((0 : Int), ((0 : Int), ((0 : Int), ((0 : Int), ((0 : Int), (false, [])))))))))))
 (
                                          some ((), (d51.2.2, ((0 : Int), ((0 : Int), ((0 : Int), ((0 : Int), ((0 : Int), ((0 : Int), (false, [])))))))))))
 (
                                        sameR (
                                          sameR (
                                            sameR (
                                              sameR (
                                                some ((), (d51.2.2, ((0 : Int), ((0 : Int), ((0 : Int), ((0 : Int), ((0 : Int), ((0 : Int), (false, []))))))))))
 (
                                                some ((), (d51.2.2, ((0 : Int), ((0 : Int), ((0 : Int), ((0 : Int), ((0 : Int), ((0 : Int), (false, [])))))))))))
 (
                                              some ((), (d51.2.2, ((0 : Int), ((0 : Int), ((0 : Int), ((0 : Int), ((0 : Int), ((0 : Int), (false, [])))))))))))
 (
                                            some ((), (d51.2.2, ((0 : Int), ((0 : Int), ((0 : Int), ((0 : Int), ((0 : Int), ((0 : Int), (false, [])))))))))))
 (
                                          some ((), (d51.2.2, ((0 : Int), ((0 : Int), ((0 : Int), ((0 : Int), ((0 : Int), ((0 : Int), (false, []))))))))))))))) fun (d52 : (Unit × (Int × (Int × (Int × (Int × (Int × (Int × (Int × (Bool × List Int)))))))))) =>
                                some ((d52.2.2.1, ((d52.2.2.2.1, d52.2.2.2.2.1), d52.2.2.2.2.2)), d52.2.1)
                            else
                              some ((d46.2.2.2.1, ((d46.2.2.2.2.1, d46.2.2.2.2.2.1), d46.2.2.2.2.2.2)), (0 : Int))
theorem r43e : r43q = r43 := by unfold r43q r43; simp only [sameR_self, r43_L0e]
def an43 : Ann := .two (.leaf) (.two (.two (.leaf) (.two (.leaf) (.two (.two (.leaf) (.leaf)) (.leaf)))) (.two (.leaf) (.two (.leaf) (.two (.leaf) (.two (.leaf) (.two (.join [2, 4, 9] [2, 4, 9] [⟨.normal, [], [.tmp 7 (.pt 21 [(0, 0)] 0 0 2), .tmp 8 (.pt 8 [(0, 0)] 0 0 8), .box 21 [.sl .own (.int .u8), .int .i64], .box 8 [.int .i64, .int .i64, .int .i64, .int .i64, .int .i64, .int .i64, .bool, .sl .own (.int .i64)]]⟩] (.two (.leaf) (.two (.leaf) (.leaf)))) (.two (.join [2, 4, 9] [2, 4, 9] [⟨.normal, [], [.tmp 7 (.pt 21 [(0, 0)] 0 0 2), .tmp 8 (.pt 8 [(0, 0)] 0 0 8), .box 21 [.sl .own (.int .u8), .int .i64], .box 8 [.int .i64, .int .i64, .int .i64, .int .i64, .int .i64, .int .i64, .bool, .sl .own (.int .i64)]]⟩] (.two (.leaf) (.two (.leaf) (.leaf)))) (.two (.join [2, 4, 9] [2, 4, 9] [⟨.normal, [], [.tmp 7 (.pt 21 [(0, 0)] 0 0 2), .tmp 8 (.pt 8 [(0, 0)] 0 0 8), .box 21 [.sl .own (.int .u8), .int .i64], .box 8 [.int .i64, .int .i64, .int .i64, .int .i64, .int .i64, .int .i64, .bool, .sl .own (.int .i64)]]⟩] (.two (.leaf) (.two (.leaf) (.leaf)))) (.two (.join [2, 4, 9] [2, 4, 9] [⟨.normal, [], [.tmp 7 (.pt 21 [(0, 0)] 0 0 2), .tmp 8 (.pt 8 [(0, 0)] 0 0 8), .box 21 [.sl .own (.int .u8), .int .i64], .box 8 [.int .i64, .int .i64, .int .i64, .int .i64, .int .i64, .int .i64, .bool, .sl .own (.int .i64)]]⟩] (.two (.leaf) (.two (.leaf) (.leaf)))) (.two (.join [2, 4] [2, 4] [⟨.normal, [], [.tmp 7 (.pt 21 [(0, 0)] 0 0 2), .tmp 8 (.pt 8 [(0, 0)] 0 0 8), .box 21 [.sl .own (.int .u8), .int .i64], .box 8 [.int .i64, .int .i64, .int .i64, .int .i64, .int .i64, .int .i64, .bool, .sl .own (.int .i64)]]⟩] (.two (.leaf) (.two (.two (.leaf) (.one (.loop [2, 4] [2, 4] [] [.tmp 7 (.pt 21 [(0, 0)] 0 0 2), .tmp 8 (.pt 8 [(0, 0)] 0 0 8), .tmp 10 (.int .i64), .box 21 [.sl .own (.int .u8), .int .i64], .box 8 [.int .i64, .int .i64, .int .i64, .int .i64, .int .i64, .int .i64, .bool, .sl .own (.int .i64)]] [⟨.exit 0, [], [.tmp 7 (.pt 21 [(0, 0)] 0 0 2), .tmp 8 (.pt 8 [(0, 0)] 0 0 8), .box 21 [.sl .own (.int .u8), .int .i64], .box 8 [.int .i64, .int .i64, .int .i64, .int .i64, .int .i64, .int .i64, .bool, .sl .own (.int .i64)]]⟩] (.two (.two (.join [2, 4, 7, 8, 10] [2, 4, 8, 21] [⟨.normal, [], [.tmp 64 (.bool)]⟩] (.leaf)) (.two (.leaf) (.leaf))) (.two (.one (.two (.leaf) (.leaf))) (.leaf)))))) (.leaf)))) (.two (.leaf) (.two (.join [4, 8] [4, 8] [⟨.normal, [], [.tmp 7 (.pt 21 [(0, 0)] 0 0 2), .box 21 [.sl .own (.int .u8), .int .i64]]⟩] (.two (.leaf) (.two (.leaf) (.leaf)))) (.two (.two (.leaf) (.two (.two (.join [] [] [⟨.normal, [], [.tmp 4 (.pt 4 [(0, 0)] 0 0 8), .tmp 5 (.int .i64), .box 4 [.int .i64, .int .i64, .int .i64, .int .i64, .int .i64, .int .i64, .bool, .sl .own (.int .i64)]]⟩] (.drawT [0, 1, 2, 3, 4] [1, 2, 3, 4])) (.leaf)) (.leaf))) (.two (.leaf) (.leaf)))))))))))))))
theorem s43 : SoundF cx.P cx.G 43 sg43 r43 := by
  have e : denF cx [(32, ⟨sg32, r32⟩), (37, ⟨sg37, r37⟩), (52, ⟨sg52, r52⟩), (54, ⟨sg54, r54⟩), (55, ⟨sg55, r55⟩), (56, ⟨sg56, r56⟩), (57, ⟨sg57, r57⟩), (58, ⟨sg58, r58⟩)] an43 Tryd.f43.ntmps (Tryd.f43.body.getD .skip) Tryd.f43.results.toList sg43 = r43q := by kernel_rfl
  rw [← r43e, ← e]
  exact sound_of_den (c := cx) (Known.cons (.ofF s32 (by kernel_rfl)) Tryd.func32 (by kernel_rfl) (by kernel_rfl) (Known.cons (.ofF s37 (by kernel_rfl)) Tryd.func37 (by kernel_rfl) (by kernel_rfl) (Known.cons (.ofF s52 (by kernel_rfl)) Tryd.func52 (by kernel_rfl) (by kernel_rfl) (Known.cons (.ofM s54 (by kernel_rfl)) Tryd.func54 (by kernel_rfl) (by kernel_rfl) (Known.cons (.ofM s55 (by kernel_rfl)) Tryd.func55 (by kernel_rfl) (by kernel_rfl) (Known.cons (.ofM s56 (by kernel_rfl)) Tryd.func56 (by kernel_rfl) (by kernel_rfl) (Known.cons (.ofM s57 (by kernel_rfl)) Tryd.func57 (by kernel_rfl) (by kernel_rfl) (Known.cons (.ofM s58 (by kernel_rfl)) Tryd.func58 (by kernel_rfl) (by kernel_rfl) (Known.nil))))))))) Tryd.func43 (by kernel_rfl) (Nat.le_of_ble_eq_true (by kernel_rfl)) rfl

/-! reredos/tape.Recover -/
noncomputable def r27_L0 (y1 : ((List Int × Int) × Bool)) (a : ((Int × (List ((Int × Int)) × Int)) × (List Int × Int))) (d9 : (Unit × (Int × List ((Int × ((Int × Int) × (Int × (Int × (Int × (Bool × List Int)))))))))) : Option ((Unit × (Int × List ((Int × ((Int × Int) × (Int × (Int × (Int × (Bool × List Int))))))))) ⊕ (Unit × (Int × List ((Int × ((Int × Int) × (Int × (Int × (Int × (Bool × List Int)))))))))) :=
  bif decide (d9.2.1 < (↑y1.1.1.length : Int)) then
    bif inB d9.2.1 y1.1.1.length then
      Option.bind (idxN y1.1.1 (Int.toNat d9.2.1)) fun (x10 : Int) =>
        bif decide ((↑y1.1.1.length : Int) < (Go.IntKind.wrap .i64 ((Go.IntKind.wrap .i64 (d9.2.1 + (1 : Int))) + (Go.IntKind.wrap .i64 x10)))) then
          some (Sum.inr ((), d9.2))
        else
          Option.bind (
            bif okB (some (Go.IntKind.wrap .i64 (d9.2.1 + (1 : Int)))) (some (Go.IntKind.wrap .i64 ((Go.IntKind.wrap .i64 (d9.2.1 + (1 : Int))) + (Go.IntKind.wrap .i64 x10)))) none y1.1.1.length then
              Option.bind (r43 (a.1, midL y1.1.1 (Int.toNat (Go.IntKind.wrap .i64 (d9.2.1 + (1 : Int)))) ((Int.toNat (Go.IntKind.wrap .i64 ((Go.IntKind.wrap .i64 (d9.2.1 + (1 : Int))) + (Go.IntKind.wrap .i64 x10)))) - (Int.toNat (Go.IntKind.wrap .i64 (d9.2.1 + (1 : Int))))))) fun (y13 : ((Int × ((Int × Int) × (Int × (Int × (Int × (Bool × List Int)))))) × Int)) =>
                
                  some ((), (y13.2, (y13.1.1, (y13.1.2.1.1, (y13.1.2.1.2, y13.1.2.2)))))
            else
              none) fun (d14 : (Unit × (Int × (Int × (Int × (Int × (Int × (Int × (Int × (Bool × List Int)))))))))) =>
            bif !(decide (d14.2.1 = (0 : Int))) then
              some (Sum.inr ((), d9.2))
            else
              bif roomOk false d9.2.2.length 1 80 then
                some (Sum.inl ((), ((Go.IntKind.wrap .i64 (d9.2.1 + (Go.IntKind.wrap .i64 ((1 : Int) + (Go.IntKind.wrap .i64 x10))))), app d9.2.2 [(d14.2.2.1, ((d14.2.2.2.1, d14.2.2.2.2.1), d14.2.2.2.2.2))])))
              else
                none
    else
      none
  else
    some (Sum.inr ((), d9.2))
noncomputable def r27_L0q (y1 : ((List Int × Int) × Bool)) (a : ((Int × (List ((Int × Int)) × Int)) × (List Int × Int))) : (Unit × (Int × List ((Int × ((Int × Int) × (Int × (Int × (Int × (Bool × List Int))))))))) → Option ((Unit × (Int × List ((Int × ((Int × Int) × (Int × (Int × (Int × (Bool × List Int))))))))) ⊕ (Unit × (Int × List ((Int × ((Int × Int) × (Int × (Int × (Int × (Bool × List Int)))))))))) := fun d9 =>
  bif decide (d9.2.1 < (↑y1.1.1.length : Int)) then
    bif inB d9.2.1 y1.1.1.length then
      Option.bind (idxN y1.1.1 (Int.toNat d9.2.1)) fun (x10 : Int) =>
        bif decide ((↑y1.1.1.length : Int) < (Go.IntKind.wrap .i64 ((Go.IntKind.wrap .i64 (d9.2.1 + (1 : Int))) + (Go.IntKind.wrap .i64 x10)))) then
          some (Sum.inr ((), d9.2))
        else
          Option.bind (
            bif okB (some (Go.IntKind.wrap .i64 (d9.2.1 + (1 : Int)))) (some (Go.IntKind.wrap .i64 ((Go.IntKind.wrap .i64 (d9.2.1 + (1 : Int))) + (Go.IntKind.wrap .i64 x10)))) none y1.1.1.length then
              Option.bind (r43 (a.1, midL y1.1.1 (Int.toNat (Go.IntKind.wrap .i64 (d9.2.1 + (1 : Int)))) ((Int.toNat (Go.IntKind.wrap .i64 ((Go.IntKind.wrap .i64 (d9.2.1 + (1 : Int))) + (Go.IntKind.wrap .i64 x10)))) - (Int.toNat (Go.IntKind.wrap .i64 (d9.2.1 + (1 : Int))))))) fun (y13 : ((Int × ((Int × Int) × (Int × (Int × (Int × (Bool × List Int)))))) × Int)) =>
                sameR (
                  some ((), (y13.2, (y13.1.1, (y13.1.2.1.1, (y13.1.2.1.2, y13.1.2.2))))))
 (
                  sameR (
                    some ((), (y13.2, (y13.1.1, (y13.1.2.1.1, (y13.1.2.1.2, y13.1.2.2))))))
 (
                    some ((), (y13.2, (y13.1.1, (y13.1.2.1.1, (y13.1.2.1.2, y13.1.2.2)))))))
            else
              none) fun (d14 : (Unit × (Int × (Int × (Int × (Int × (Int × (Int × (Int × (Bool × List Int)))))))))) =>
            bif !(decide (d14.2.1 = (0 : Int))) then
              some (Sum.inr ((), d9.2))
            else
              bif roomOk false d9.2.2.length 1 80 then
                some (Sum.inl ((), ((Go.IntKind.wrap .i64 (d9.2.1 + (Go.IntKind.wrap .i64 ((1 : Int) + (Go.IntKind.wrap .i64 x10))))), app d9.2.2 [(d14.2.2.1, ((d14.2.2.2.1, d14.2.2.2.2.1), d14.2.2.2.2.2))])))
              else
                none
    else
      none
  else
    some (Sum.inr ((), d9.2))
theorem r27_L0e (y1 : ((List Int × Int) × Bool)) (a : ((Int × (List ((Int × Int)) × Int)) × (List Int × Int))) : r27_L0q y1 a = r27_L0 y1 a := by unfold r27_L0q r27_L0; simp only [sameR_self]
def sg27 : Sig := ⟨[⟨true, .bo, (.pair (.int .i64) (.pair (.sl (.pair (.int .i64) (.int .i64))) (.int .i64)))⟩, ⟨true, .bo, (.pair (.sl (.int .u8)) (.int .i64))⟩], [⟨false, .own, (.sl (.pair (.int .i64) (.pair (.pair (.int .i64) (.int .i64)) (.pair (.int .i64) (.pair (.int .i64) (.pair (.int .i64) (.pair .bool (.rsl (.int .i64)))))))))⟩, ⟨true, .ro, (.pair (.sl (.int .u8)) (.int .i64))⟩, ⟨false, .own, (.int .i64)⟩]⟩
noncomputable def r27 (a : ((Int × (List ((Int × Int)) × Int)) × (List Int × Int))) : Option (List ((Int × ((Int × Int) × (Int × (Int × (Int × (Bool × List Int))))))) × ((List Int × Int) × Int)) :=
  Option.bind (r41 a.2) fun (y1 : ((List Int × Int) × Bool)) =>
    bif !(y1.2) then
      some ([], (([], (0 : Int)), (9 : Int)))
    else
      Option.bind (r43 (a.1, [])) fun (y2 : ((Int × ((Int × Int) × (Int × (Int × (Int × (Bool × List Int)))))) × Int)) =>
        bif !(decide (y2.2 = (5 : Int))) then
          some ([], (([], (0 : Int)), y2.2))
        else
          Option.bind (loopR (r27_L0 y1 a) ((), ((0 : Int), []))) fun (q15 : (Unit × (Int × List ((Int × ((Int × Int) × (Int × (Int × (Int × (Bool × List Int)))))))))) =>
            bif okB none (some q15.2.1) (some q15.2.1) y1.1.1.length then
              some (q15.2.2, ((midL y1.1.1 0 (Int.toNat q15.2.1), (min y1.1.2 q15.2.1)), (0 : Int)))
            else
              none
noncomputable def r27q : ((Int × (List ((Int × Int)) × Int)) × (List Int × Int)) → Option (List ((Int × ((Int × Int) × (Int × (Int × (Int × (Bool × List Int))))))) × ((List Int × Int) × Int)) := fun a =>
  Option.bind (r41 a.2) fun (y1 : ((List Int × Int) × Bool)) =>
    bif !(y1.2) then
      some ([], (([], (0 : Int)), (9 : Int)))
    else
      Option.bind (r43 (a.1, [])) fun (y2 : ((Int × ((Int × Int) × (Int × (Int × (Int × (Bool × List Int)))))) × Int)) =>
        bif !(decide (y2.2 = (5 : Int))) then
          some ([], (([], (0 : Int)), y2.2))
        else
          Option.bind (loopR (r27_L0q y1 a) ((), ((0 : Int), []))) fun (q15 : (Unit × (Int × List ((Int × ((Int × Int) × (Int × (Int × (Int × (Bool × List Int)))))))))) =>
            bif okB none (some q15.2.1) (some q15.2.1) y1.1.1.length then
              some (q15.2.2, ((midL y1.1.1 0 (Int.toNat q15.2.1), (min y1.1.2 q15.2.1)), (0 : Int)))
            else
              none
theorem r27e : r27q = r27 := by unfold r27q r27; simp only [r27_L0e]
def an27 : Ann := .two (.leaf) (.two (.leaf) (.two (.two (.leaf) (.two (.two (.leaf) (.leaf)) (.leaf))) (.two (.two (.leaf) (.two (.leaf) (.two (.two (.leaf) (.leaf)) (.leaf)))) (.two (.leaf) (.two (.leaf) (.two (.one (.loop [2, 5, 7] [2, 5, 7] [(11, (.pair (.int .i64) (.pair (.pair (.int .i64) (.int .i64)) (.pair (.int .i64) (.pair (.int .i64) (.pair (.int .i64) (.pair .bool (.rsl (.int .i64)))))))))] [.tmp 11 (.own 11 [(0, 0)] (.pair (.int .i64) (.pair (.pair (.int .i64) (.int .i64)) (.pair (.int .i64) (.pair (.int .i64) (.pair (.int .i64) (.pair .bool (.rsl (.int .i64))))))))), .tmp 12 (.int .i64), .row 11 [.sl .own (.pair (.int .i64) (.pair (.pair (.int .i64) (.int .i64)) (.pair (.int .i64) (.pair (.int .i64) (.pair (.int .i64) (.pair .bool (.rsl (.int .i64))))))))]] [⟨.exit 0, [], [.tmp 11 (.own 11 [(0, 0)] (.pair (.int .i64) (.pair (.pair (.int .i64) (.int .i64)) (.pair (.int .i64) (.pair (.int .i64) (.pair (.int .i64) (.pair .bool (.rsl (.int .i64))))))))), .tmp 12 (.int .i64), .row 11 [.sl .own (.pair (.int .i64) (.pair (.pair (.int .i64) (.int .i64)) (.pair (.int .i64) (.pair (.int .i64) (.pair (.int .i64) (.pair .bool (.rsl (.int .i64))))))))]]⟩] (.two (.two (.leaf) (.two (.leaf) (.leaf))) (.one (.two (.leaf) (.two (.two (.leaf) (.two (.leaf) (.leaf))) (.two (.join [2, 5, 7, 11, 12, 13] [2, 5, 7, 11] [⟨.normal, [], [.tmp 14 (.pt 14 [(0, 0)] 0 0 8), .tmp 15 (.int .i64), .box 14 [.int .i64, .int .i64, .int .i64, .int .i64, .int .i64, .int .i64, .bool, .sl .ro (.int .i64)]]⟩] (.drawT [0, 1, 2, 3, 4, 5, 6, 7, 8, 9, 10, 11, 12, 13, 14] [13])) (.two (.two (.leaf) (.two (.leaf) (.leaf))) (.two (.leaf) (.leaf)))))))))) (.two (.draw 12) (.leaf))))))))
theorem s27 : SoundF cx.P cx.G 27 sg27 r27 := by
  have e : denF cx [(41, ⟨sg41, r41⟩), (43, ⟨sg43, r43⟩)] an27 Tryd.f27.ntmps (Tryd.f27.body.getD .skip) Tryd.f27.results.toList sg27 = r27q := by kernel_rfl
  rw [← r27e, ← e]
  exact sound_of_den (c := cx) (Known.cons (.ofF s41 (by kernel_rfl)) Tryd.func41 (by kernel_rfl) (by kernel_rfl) (Known.cons (.ofF s43 (by kernel_rfl)) Tryd.func43 (by kernel_rfl) (by kernel_rfl) (Known.nil))) Tryd.func27 (by kernel_rfl) (Nat.le_of_ble_eq_true (by kernel_rfl)) rfl

/-! reredos/reredoskeep.sameInts -/
noncomputable def r44_L0 (a : (List Int × List Int)) (d1 : Int) : Option (Int ⊕ (Unit ⊕ Bool)) :=
  bif decide (d1 < (↑a.1.length : Int)) then
    Option.bind (idxI a.1 d1) fun (b4 : Int) =>
      Option.bind (idxI a.2 d1) fun (b5 : Int) =>
        bif !(decide (b4 = b5)) then
          some (Sum.inr (Sum.inr false))
        else
          some (Sum.inl (Go.IntKind.wrap .i64 (d1 + (1 : Int))))
  else
    some (Sum.inr (Sum.inl ()))
def sg44 : Sig := ⟨[⟨false, .bo, (.sl (.int .i64))⟩, ⟨false, .bo, (.sl (.int .i64))⟩], [⟨false, .own, .bool⟩]⟩
noncomputable def r44 (a : (List Int × List Int)) : Option Bool :=
  bif !(decide ((↑a.1.length : Int) = (↑a.2.length : Int))) then
    some false
  else
    Option.bind (loopR (r44_L0 a) (0 : Int)) fun (q6 : (Unit ⊕ Bool)) =>
      Sum.elim (fun (_ : Unit) =>
          some true)
        (fun (v8 : Bool) =>
          some v8) q6
def an44 : Ann := .two (.leaf) (.two (.two (.leaf) (.two (.two (.leaf) (.leaf)) (.leaf))) (.two (.two (.leaf) (.one (.loop [0, 1] [] [] [.tmp 5 (.int .i64)] [⟨.exit 0, [], []⟩, ⟨.ret, [], [.tmp 4 (.bool)]⟩] (.two (.two (.leaf) (.two (.leaf) (.leaf))) (.two (.one (.two (.draw 8) (.two (.two (.leaf) (.leaf)) (.leaf)))) (.leaf)))))) (.two (.leaf) (.leaf))))
theorem s44 : SoundF cx.P cx.G 44 sg44 r44 := by
  have e : denF cx [] an44 Tryd.f44.ntmps (Tryd.f44.body.getD .skip) Tryd.f44.results.toList sg44 = r44 := by kernel_rfl
  rw [← e]
  exact sound_of_den (c := cx) (Known.nil) Tryd.func44 (by kernel_rfl) (Nat.le_of_ble_eq_true (by kernel_rfl)) rfl

/-! reredos/reredoskeep.sameRecord -/
def sg29 : Sig := ⟨[⟨true, .bo, (.pair (.int .i64) (.pair (.pair (.int .i64) (.int .i64)) (.pair (.int .i64) (.pair (.int .i64) (.pair (.int .i64) (.pair .bool (.sl (.int .i64))))))))⟩, ⟨true, .bo, (.pair (.int .i64) (.pair (.pair (.int .i64) (.int .i64)) (.pair (.int .i64) (.pair (.int .i64) (.pair (.int .i64) (.pair .bool (.sl (.int .i64))))))))⟩], [⟨false, .own, .bool⟩]⟩
noncomputable def r29 (a : ((Int × ((Int × Int) × (Int × (Int × (Int × (Bool × List Int)))))) × (Int × ((Int × Int) × (Int × (Int × (Int × (Bool × List Int)))))))) : Option Bool :=
  Option.bind (
    bif decide (a.1.1 = a.2.1) then
      some (decide (a.1.2.1.1 = a.2.2.1.1) && (decide (a.1.2.1.2 = a.2.2.1.2) && true))
    else
      some false) fun (g1 : Bool) =>
    Option.bind (
      bif g1 then
        some (decide (a.1.2.2.1 = a.2.2.2.1))
      else
        some false) fun (g2 : Bool) =>
      Option.bind (
        bif g2 then
          some (decide (a.1.2.2.2.1 = a.2.2.2.2.1))
        else
          some false) fun (g3 : Bool) =>
        Option.bind (
          bif g3 then
            some (decide (a.1.2.2.2.2.1 = a.2.2.2.2.2.1))
          else
            some false) fun (g4 : Bool) =>
          Option.bind (
            bif g4 then
              some (decide (a.1.2.2.2.2.2.1 = a.2.2.2.2.2.2.1))
            else
              some false) fun (g5 : Bool) =>
            bif g5 then
              Option.bind (r44 (a.1.2.2.2.2.2.2, a.2.2.2.2.2.2.2)) fun (y6 : Bool) =>
                some y6
            else
              some false
def an29 : Ann := .two (.leaf) (.two (.segs [(12, ([2, 3], ([2, 3], [.tmp 16 (.bool)]))), (7, ([2, 3], ([2, 3], [.tmp 23 (.bool)]))), (7, ([2, 3], ([2, 3], [.tmp 30 (.bool)]))), (7, ([2, 3], ([2, 3], [.tmp 37 (.bool)]))), (7, ([2, 3], ([2, 3], [.tmp 44 (.bool)])))]) (.leaf))
theorem s29 : SoundF cx.P cx.G 29 sg29 r29 := by
  have e : denF cx [(44, ⟨sg44, r44⟩)] an29 Tryd.f29.ntmps (Tryd.f29.body.getD .skip) Tryd.f29.results.toList sg29 = r29 := by kernel_rfl
  rw [← e]
  exact sound_of_den (c := cx) (Known.cons (.ofF s44 (by kernel_rfl)) Tryd.func44 (by kernel_rfl) (by kernel_rfl) (Known.nil)) Tryd.func29 (by kernel_rfl) (Nat.le_of_ble_eq_true (by kernel_rfl)) rfl

/-! reredos/reredoskeep.begins -/
noncomputable def r28_L0 (a : (List ((Int × ((Int × Int) × (Int × (Int × (Int × (Bool × List Int))))))) × List ((Int × ((Int × Int) × (Int × (Int × (Int × (Bool × List Int))))))))) (d1 : Int) : Option (Int ⊕ (Unit ⊕ Bool)) :=
  bif decide (d1 < (↑a.1.length : Int)) then
    Option.bind (idxI a.1 d1) fun (b5 : (Int × ((Int × Int) × (Int × (Int × (Int × (Bool × List Int))))))) =>
      Option.bind (idxI a.2 d1) fun (b6 : (Int × ((Int × Int) × (Int × (Int × (Int × (Bool × List Int))))))) =>
        Option.bind (r29 (b5, b6)) fun (y7 : Bool) =>
          bif !(y7) then
            some (Sum.inr (Sum.inr false))
          else
            some (Sum.inl (Go.IntKind.wrap .i64 (d1 + (1 : Int))))
  else
    some (Sum.inr (Sum.inl ()))
def sg28 : Sig := ⟨[⟨false, .bo, (.sl (.pair (.int .i64) (.pair (.pair (.int .i64) (.int .i64)) (.pair (.int .i64) (.pair (.int .i64) (.pair (.int .i64) (.pair .bool (.rsl (.int .i64)))))))))⟩, ⟨false, .bo, (.sl (.pair (.int .i64) (.pair (.pair (.int .i64) (.int .i64)) (.pair (.int .i64) (.pair (.int .i64) (.pair (.int .i64) (.pair .bool (.rsl (.int .i64)))))))))⟩], [⟨false, .own, .bool⟩]⟩
noncomputable def r28 (a : (List ((Int × ((Int × Int) × (Int × (Int × (Int × (Bool × List Int))))))) × List ((Int × ((Int × Int) × (Int × (Int × (Int × (Bool × List Int))))))))) : Option Bool :=
  bif decide ((↑a.2.length : Int) < (↑a.1.length : Int)) then
    some false
  else
    Option.bind (loopR (r28_L0 a) (0 : Int)) fun (q8 : (Unit ⊕ Bool)) =>
      Sum.elim (fun (_ : Unit) =>
          some true)
        (fun (v10 : Bool) =>
          some v10) q8
def an28 : Ann := .two (.leaf) (.two (.two (.leaf) (.two (.two (.leaf) (.leaf)) (.leaf))) (.two (.two (.leaf) (.one (.loop [0, 1] [] [] [.tmp 5 (.int .i64)] [⟨.exit 0, [], []⟩, ⟨.ret, [], [.tmp 4 (.bool)]⟩] (.two (.two (.leaf) (.two (.leaf) (.leaf))) (.two (.one (.two (.draw 8) (.two (.two (.leaf) (.leaf)) (.leaf)))) (.leaf)))))) (.two (.leaf) (.leaf))))
theorem s28 : SoundF cx.P cx.G 28 sg28 r28 := by
  have e : denF cx [(29, ⟨sg29, r29⟩)] an28 Tryd.f28.ntmps (Tryd.f28.body.getD .skip) Tryd.f28.results.toList sg28 = r28 := by kernel_rfl
  rw [← e]
  exact sound_of_den (c := cx) (Known.cons (.ofF s29 (by kernel_rfl)) Tryd.func29 (by kernel_rfl) (by kernel_rfl) (Known.nil)) Tryd.func28 (by kernel_rfl) (Nat.le_of_ble_eq_true (by kernel_rfl)) rfl

/-! reredos/reredoskeep.TapeTorn -/
def sg8 : Sig := ⟨[⟨false, .bo, (.int .i64)⟩, ⟨false, .bo, (.sl (.int .i64))⟩, ⟨false, .bo, (.sl (.pair (.int .i64) (.pair (.int .i64) (.pair (.int .i64) (.pair (.int .i64) (.pair (.int .i64) (.int .i64)))))))⟩, ⟨false, .bo, (.int .i64)⟩], [⟨false, .own, .bool⟩]⟩
noncomputable def r8 (a : (Int × (List Int × (List ((Int × (Int × (Int × (Int × (Int × Int)))))) × Int)))) : Option Bool :=
  Option.bind (r11 (a.1, a.2.1, (1 : Int))) fun (y1 : (Int × (List ((Int × Int)) × Int))) =>
    Option.bind (r25 (y1, a.2.2.1, (20 : Int))) fun (y2 : List ((Int × ((Int × Int) × (Int × (Int × (Int × (Bool × List Int)))))))) =>
      Option.bind (r24 (y1, y2)) fun (y3 : ((List Int × Int) × Bool)) =>
        Option.bind (r18 (a.2.2.2, (Go.IntKind.wrap .i64 ((↑y3.1.1.length : Int) + (1 : Int))))) fun (y4 : Int) =>
          Option.bind (
            bif okB none (some y4) (some y4) y3.1.1.length then
              Option.bind (r27 (y1, (midL y3.1.1 0 (Int.toNat y4), (0 : Int)))) fun (y7 : (List ((Int × ((Int × Int) × (Int × (Int × (Int × (Bool × List Int))))))) × ((List Int × Int) × Int))) =>
                
                  some ((), ((), (y7.2.2, ((y7.1, (y7.2.1.1, (y7.2.1.2, y7.2.2))), y7.2.1))))
            else
              none) fun (d8 : (Unit × (Unit × (Int × ((List ((Int × ((Int × Int) × (Int × (Int × (Int × (Bool × List Int))))))) × (List Int × (Int × Int))) × (List Int × Int)))))) =>
            Option.bind (r27 (y1, d8.2.2.2.2)) fun (y9 : (List ((Int × ((Int × Int) × (Int × (Int × (Int × (Bool × List Int))))))) × ((List Int × Int) × Int))) =>
              Option.bind (r27 (y1, ([], (1 : Int)))) fun (y10 : (List ((Int × ((Int × Int) × (Int × (Int × (Int × (Bool × List Int))))))) × ((List Int × Int) × Int))) =>
                Option.bind (
                  bif y3.2 then
                    some (decide (d8.2.2.1 = (0 : Int)))
                  else
                    some false) fun (g11 : Bool) =>
                  Option.bind (
                    bif g11 then
                      some (decide (y9.2.2 = (0 : Int)))
                    else
                      some false) fun (g12 : Bool) =>
                    Option.bind (
                      bif g12 then
                        some (decide (y10.2.2 = (9 : Int)))
                      else
                        some false) fun (g13 : Bool) =>
                      Option.bind (
                        bif g13 then
                          Option.bind (r28 (d8.2.2.2.1.1, y2)) fun (y14 : Bool) =>
                            some y14
                        else
                          some false) fun (g15 : Bool) =>
                        Option.bind (
                          bif g15 then
                            some (decide ((↑y9.1.length : Int) = (↑d8.2.2.2.1.1.length : Int)))
                          else
                            some false) fun (g16 : Bool) =>
                          Option.bind (
                            bif g16 then
                              some (decide ((↑d8.2.2.2.2.1.length : Int) ≤ y4))
                            else
                              some false) fun (g17 : Bool) =>
                            Option.bind (
                              bif g17 then
                                some (decide ((List.map byte8 d8.2.2.2.2.1) = (List.map byte8 y9.2.1.1)))
                              else
                                some false) fun (g18 : Bool) =>
                              bif g18 then
                                some (decide (decide ((↑d8.2.2.2.1.1.length : Int) = (↑y2.length : Int)) = decide (y4 = (↑y3.1.1.length : Int))))
                              else
                                some false
noncomputable def r8q : (Int × (List Int × (List ((Int × (Int × (Int × (Int × (Int × Int)))))) × Int))) → Option Bool := fun a =>
  Option.bind (r11 (a.1, a.2.1, (1 : Int))) fun (y1 : (Int × (List ((Int × Int)) × Int))) =>
    Option.bind (r25 (y1, a.2.2.1, (20 : Int))) fun (y2 : List ((Int × ((Int × Int) × (Int × (Int × (Int × (Bool × List Int)))))))) =>
      Option.bind (r24 (y1, y2)) fun (y3 : ((List Int × Int) × Bool)) =>
        Option.bind (r18 (a.2.2.2, (Go.IntKind.wrap .i64 ((↑y3.1.1.length : Int) + (1 : Int))))) fun (y4 : Int) =>
          Option.bind (
            bif okB none (some y4) (some y4) y3.1.1.length then
              Option.bind (r27 (y1, (midL y3.1.1 0 (Int.toNat y4), (0 : Int)))) fun (y7 : (List ((Int × ((Int × Int) × (Int × (Int × (Int × (Bool × List Int))))))) × ((List Int × Int) × Int))) =>
                sameR (
                  some ((), ((), (y7.2.2, ((y7.1, (y7.2.1.1, (y7.2.1.2, y7.2.2))), y7.2.1)))))
 (
                  sameR (
                    some ((), ((), (y7.2.2, ((y7.1, (y7.2.1.1, (y7.2.1.2, y7.2.2))), y7.2.1)))))
 (
                    some ((), ((), (y7.2.2, ((y7.1, (y7.2.1.1, (y7.2.1.2, y7.2.2))), y7.2.1))))))
            else
              none) fun (d8 : (Unit × (Unit × (Int × ((List ((Int × ((Int × Int) × (Int × (Int × (Int × (Bool × List Int))))))) × (List Int × (Int × Int))) × (List Int × Int)))))) =>
            Option.bind (r27 (y1, d8.2.2.2.2)) fun (y9 : (List ((Int × ((Int × Int) × (Int × (Int × (Int × (Bool × List Int))))))) × ((List Int × Int) × Int))) =>
              Option.bind (r27 (y1, ([], (1 : Int)))) fun (y10 : (List ((Int × ((Int × Int) × (Int × (Int × (Int × (Bool × List Int))))))) × ((List Int × Int) × Int))) =>
                Option.bind (
                  bif y3.2 then
                    some (decide (d8.2.2.1 = (0 : Int)))
                  else
                    some false) fun (g11 : Bool) =>
                  Option.bind (
                    bif g11 then
                      some (decide (y9.2.2 = (0 : Int)))
                    else
                      some false) fun (g12 : Bool) =>
                    Option.bind (
                      bif g12 then
                        some (decide (y10.2.2 = (9 : Int)))
                      else
                        some false) fun (g13 : Bool) =>
                      Option.bind (
                        bif g13 then
                          Option.bind (r28 (d8.2.2.2.1.1, y2)) fun (y14 : Bool) =>
                            some y14
                        else
                          some false) fun (g15 : Bool) =>
                        Option.bind (
                          bif g15 then
                            some (decide ((↑y9.1.length : Int) = (↑d8.2.2.2.1.1.length : Int)))
                          else
                            some false) fun (g16 : Bool) =>
                          Option.bind (
                            bif g16 then
                              some (decide ((↑d8.2.2.2.2.1.length : Int) ≤ y4))
                            else
                              some false) fun (g17 : Bool) =>
                            Option.bind (
                              bif g17 then
                                some (decide ((List.map byte8 d8.2.2.2.2.1) = (List.map byte8 y9.2.1.1)))
                              else
                                some false) fun (g18 : Bool) =>
                              bif g18 then
                                some (decide (decide ((↑d8.2.2.2.1.1.length : Int) = (↑y2.length : Int)) = decide (y4 = (↑y3.1.1.length : Int))))
                              else
                                some false
theorem r8e : r8q = r8 := by unfold r8q r8; simp only [sameR_self]
def an8 : Ann := .two (.leaf) (.two (.leaf) (.two (.leaf) (.two (.leaf) (.two (.leaf) (.two (.join [9, 10, 11, 12, 13] [9, 11, 28] [⟨.normal, [], [.tmp 14 (.own 49 [(0, 0)] (.pair (.int .i64) (.pair (.pair (.int .i64) (.int .i64)) (.pair (.int .i64) (.pair (.int .i64) (.pair (.int .i64) (.pair .bool (.rsl (.int .i64))))))))), .tmp 15 (.pt 15 [(0, 0)] 0 0 2), .tmp 16 (.int .i64), .row 49 [.sl .own (.pair (.int .i64) (.pair (.pair (.int .i64) (.int .i64)) (.pair (.int .i64) (.pair (.int .i64) (.pair (.int .i64) (.pair .bool (.rsl (.int .i64)))))))), .sl .ro (.int .u8), .int .i64, .int .i64], .box 15 [.sl .ro (.int .u8), .int .i64]]⟩] (.drawT [0, 1, 2, 3, 4, 5, 6, 7, 8, 9, 10, 11, 12, 13] [11])) (.two (.leaf) (.two (.leaf) (.two (.segs [(5, ([10, 11, 13, 14, 15, 17, 18, 19, 22], ([11, 15, 18, 28, 49, 56], [.tmp 71 (.bool)]))), (4, ([10, 11, 13, 14, 15, 17, 18, 22], ([11, 15, 18, 28, 49, 56], [.tmp 75 (.bool)]))), (4, ([10, 11, 13, 14, 15, 17, 18], ([11, 15, 18, 28, 49, 56], [.tmp 79 (.bool)]))), (5, ([10, 11, 13, 14, 15, 17, 18], ([11, 15, 18, 28, 49, 56], [.tmp 84 (.bool)]))), (7, ([10, 11, 13, 14, 15, 18], ([11, 15, 18, 28, 49], [.tmp 91 (.bool)]))), (7, ([10, 11, 13, 14, 15, 18], ([11, 15, 18, 28, 49], [.tmp 98 (.bool)]))), (9, ([10, 11, 13, 14], ([11, 28, 49], [.tmp 107 (.bool)])))]) (.leaf)))))))))
theorem s8 : SoundF cx.P cx.G 8 sg8 r8 := by
  have e : denF cx [(11, ⟨sg11, r11⟩), (18, ⟨sg18, r18⟩), (24, ⟨sg24, r24⟩), (25, ⟨sg25, r25⟩), (27, ⟨sg27, r27⟩), (28, ⟨sg28, r28⟩)] an8 Tryd.f8.ntmps (Tryd.f8.body.getD .skip) Tryd.f8.results.toList sg8 = r8q := by kernel_rfl
  rw [← r8e, ← e]
  exact sound_of_den (c := cx) (Known.cons (.ofF s11 (by kernel_rfl)) Tryd.func11 (by kernel_rfl) (by kernel_rfl) (Known.cons (.ofF s18 (by kernel_rfl)) Tryd.func18 (by kernel_rfl) (by kernel_rfl) (Known.cons (.ofF s24 (by kernel_rfl)) Tryd.func24 (by kernel_rfl) (by kernel_rfl) (Known.cons (.ofF s25 (by kernel_rfl)) Tryd.func25 (by kernel_rfl) (by kernel_rfl) (Known.cons (.ofF s27 (by kernel_rfl)) Tryd.func27 (by kernel_rfl) (by kernel_rfl) (Known.cons (.ofF s28 (by kernel_rfl)) Tryd.func28 (by kernel_rfl) (by kernel_rfl) (Known.nil))))))) Tryd.func8 (by kernel_rfl) (Nat.le_of_ble_eq_true (by kernel_rfl)) rfl

/-! reredos/reredoskeep.TapeOn -/
def sg9 : Sig := ⟨[⟨false, .bo, (.int .i64)⟩, ⟨false, .bo, (.sl (.int .i64))⟩, ⟨false, .bo, (.sl (.pair (.int .i64) (.pair (.int .i64) (.pair (.int .i64) (.pair (.int .i64) (.pair (.int .i64) (.int .i64)))))))⟩, ⟨false, .bo, (.int .i64)⟩, ⟨true, .bo, (.pair (.int .i64) (.pair (.int .i64) (.pair (.int .i64) (.pair (.int .i64) (.pair (.int .i64) (.int .i64))))))⟩], [⟨false, .own, .bool⟩]⟩
noncomputable def r9 (a : (Int × (List Int × (List ((Int × (Int × (Int × (Int × (Int × Int)))))) × (Int × (Int × (Int × (Int × (Int × (Int × Int)))))))))) : Option Bool :=
  Option.bind (r11 (a.1, a.2.1, (1 : Int))) fun (y1 : (Int × (List ((Int × Int)) × Int))) =>
    Option.bind (
      Option.bind (r25 (y1, a.2.2.1, (20 : Int))) fun (y6 : List ((Int × ((Int × Int) × (Int × (Int × (Int × (Bool × List Int)))))))) =>
        Option.bind (r24 (y1, y6)) fun (y7 : ((List Int × Int) × Bool)) =>
          
            some ((), (y7.2, y7.1))) fun (d8 : (Unit × (Bool × (List Int × Int)))) =>
      Option.bind (
        Option.bind (r18 (a.2.2.2.1, (200 : Int))) fun (y13 : Int) =>
          Option.bind (r26 (d8.2.2, y13)) fun (y14 : ((List Int × Int) × Int)) =>
            
              some ((), (y14.2, y14.1))) fun (d15 : (Unit × (Int × (List Int × Int)))) =>
        Option.bind (r27 (y1, d15.2.2)) fun (y16 : (List ((Int × ((Int × Int) × (Int × (Int × (Int × (Bool × List Int))))))) × ((List Int × Int) × Int))) =>
          Option.bind (r20 (y1, a.2.2.2.2)) fun (y17 : (Int × ((Int × Int) × (Int × (Int × (Int × (Bool × List Int))))))) =>
            Option.bind (r23 (y1, y16.2.1, y17)) fun (y18 : ((List Int × Int) × Int)) =>
              Option.bind (r27 (y1, y18.1)) fun (y19 : (List ((Int × ((Int × Int) × (Int × (Int × (Int × (Bool × List Int))))))) × ((List Int × Int) × Int))) =>
                bif d8.2.1 then
                  bif decide (d15.2.1 = (0 : Int)) then
                    bif decide (y16.2.2 = (0 : Int)) then
                      bif decide (y18.2 = (0 : Int)) then
                        bif decide (y19.2.2 = (0 : Int)) then
                          bif decide ((↑y19.1.length : Int) = (Go.IntKind.wrap .i64 ((↑y16.1.length : Int) + (1 : Int)))) then
                            Option.bind (r28 (y16.1, y19.1)) fun (y23 : Bool) =>
                              bif y23 then
                                bif inB (↑y16.1.length : Int) y19.1.length then
                                  Option.bind (idxN y19.1 (Int.toNat (↑y16.1.length : Int))) fun (x24 : (Int × ((Int × Int) × (Int × (Int × (Int × (Bool × List Int))))))) =>
                                    Option.bind (r29 (x24, y17)) fun (y25 : Bool) =>
                                      some y25
                                else
                                  none
                              else
                                some false
                          else
                            some false
                        else
                          some false
                      else
                        some false
                    else
                      some false
                  else
                    some false
                else
                  some false
noncomputable def r9q : (Int × (List Int × (List ((Int × (Int × (Int × (Int × (Int × Int)))))) × (Int × (Int × (Int × (Int × (Int × (Int × Int))))))))) → Option Bool := fun a =>
  Option.bind (r11 (a.1, a.2.1, (1 : Int))) fun (y1 : (Int × (List ((Int × Int)) × Int))) =>
    Option.bind (
      Option.bind (r25 (y1, a.2.2.1, (20 : Int))) fun (y6 : List ((Int × ((Int × Int) × (Int × (Int × (Int × (Bool × List Int)))))))) =>
        Option.bind (r24 (y1, y6)) fun (y7 : ((List Int × Int) × Bool)) =>
          sameR (
            some ((), (y7.2, y7.1)))
 (
            sameR (
              some ((), (y7.2, y7.1)))
 (
              some ((), (y7.2, y7.1))))) fun (d8 : (Unit × (Bool × (List Int × Int)))) =>
      Option.bind (
        Option.bind (r18 (a.2.2.2.1, (200 : Int))) fun (y13 : Int) =>
          Option.bind (r26 (d8.2.2, y13)) fun (y14 : ((List Int × Int) × Int)) =>
            sameR (
              some ((), (y14.2, y14.1)))
 (
              sameR (
                some ((), (y14.2, y14.1)))
 (
                some ((), (y14.2, y14.1))))) fun (d15 : (Unit × (Int × (List Int × Int)))) =>
        Option.bind (r27 (y1, d15.2.2)) fun (y16 : (List ((Int × ((Int × Int) × (Int × (Int × (Int × (Bool × List Int))))))) × ((List Int × Int) × Int))) =>
          Option.bind (r20 (y1, a.2.2.2.2)) fun (y17 : (Int × ((Int × Int) × (Int × (Int × (Int × (Bool × List Int))))))) =>
            Option.bind (r23 (y1, y16.2.1, y17)) fun (y18 : ((List Int × Int) × Int)) =>
              Option.bind (r27 (y1, y18.1)) fun (y19 : (List ((Int × ((Int × Int) × (Int × (Int × (Int × (Bool × List Int))))))) × ((List Int × Int) × Int))) =>
                bif d8.2.1 then
                  bif decide (d15.2.1 = (0 : Int)) then
                    bif decide (y16.2.2 = (0 : Int)) then
                      bif decide (y18.2 = (0 : Int)) then
                        bif decide (y19.2.2 = (0 : Int)) then
                          bif decide ((↑y19.1.length : Int) = (Go.IntKind.wrap .i64 ((↑y16.1.length : Int) + (1 : Int)))) then
                            Option.bind (r28 (y16.1, y19.1)) fun (y23 : Bool) =>
                              bif y23 then
                                bif inB (↑y16.1.length : Int) y19.1.length then
                                  Option.bind (idxN y19.1 (Int.toNat (↑y16.1.length : Int))) fun (x24 : (Int × ((Int × Int) × (Int × (Int × (Int × (Bool × List Int))))))) =>
                                    Option.bind (r29 (x24, y17)) fun (y25 : Bool) =>
                                      some y25
                                else
                                  none
                              else
                                some false
                          else
                            some false
                        else
                          some false
                      else
                        some false
                    else
                      some false
                  else
                    some false
                else
                  some false
theorem r9e : r9q = r9 := by unfold r9q r9; simp only [sameR_self]
def an9 : Ann := .two (.leaf) (.two (.leaf) (.two (.join [3, 9, 11] [9, 11] [⟨.normal, [], [.tmp 12 (.pt 12 [(0, 0)] 0 0 2), .tmp 13 (.bool), .box 12 [.sl .own (.int .u8), .int .i64]]⟩] (.drawT [0, 1, 2, 3, 4, 5, 6, 7, 8] [7])) (.two (.join [9, 11, 13] [9, 11] [⟨.normal, [], [.tmp 12 (.pt 12 [(0, 0)] 0 0 2), .tmp 14 (.int .i64), .box 12 [.sl .ro (.int .u8), .int .i64]]⟩] (.drawT [0, 1, 2, 3, 4, 5, 6] [6])) (.two (.leaf) (.two (.leaf) (.two (.leaf) (.two (.leaf) (.two (.draw 37) (.leaf)))))))))
theorem s9 : SoundF cx.P cx.G 9 sg9 r9 := by
  have e : denF cx [(11, ⟨sg11, r11⟩), (18, ⟨sg18, r18⟩), (20, ⟨sg20, r20⟩), (23, ⟨sg23, r23⟩), (24, ⟨sg24, r24⟩), (25, ⟨sg25, r25⟩), (26, ⟨sg26, r26⟩), (27, ⟨sg27, r27⟩), (28, ⟨sg28, r28⟩), (29, ⟨sg29, r29⟩)] an9 Tryd.f9.ntmps (Tryd.f9.body.getD .skip) Tryd.f9.results.toList sg9 = r9q := by kernel_rfl
  rw [← r9e, ← e]
  exact sound_of_den (c := cx) (Known.cons (.ofF s11 (by kernel_rfl)) Tryd.func11 (by kernel_rfl) (by kernel_rfl) (Known.cons (.ofF s18 (by kernel_rfl)) Tryd.func18 (by kernel_rfl) (by kernel_rfl) (Known.cons (.ofF s20 (by kernel_rfl)) Tryd.func20 (by kernel_rfl) (by kernel_rfl) (Known.cons (.ofF s23 (by kernel_rfl)) Tryd.func23 (by kernel_rfl) (by kernel_rfl) (Known.cons (.ofF s24 (by kernel_rfl)) Tryd.func24 (by kernel_rfl) (by kernel_rfl) (Known.cons (.ofF s25 (by kernel_rfl)) Tryd.func25 (by kernel_rfl) (by kernel_rfl) (Known.cons (.ofF s26 (by kernel_rfl)) Tryd.func26 (by kernel_rfl) (by kernel_rfl) (Known.cons (.ofF s27 (by kernel_rfl)) Tryd.func27 (by kernel_rfl) (by kernel_rfl) (Known.cons (.ofF s28 (by kernel_rfl)) Tryd.func28 (by kernel_rfl) (by kernel_rfl) (Known.cons (.ofF s29 (by kernel_rfl)) Tryd.func29 (by kernel_rfl) (by kernel_rfl) (Known.nil))))))))))) Tryd.func9 (by kernel_rfl) (Nat.le_of_ble_eq_true (by kernel_rfl)) rfl

/-! reredos/tape.Sync -/
def sg30 : Sig := ⟨[⟨true, .bo, (.pair (.sl (.int .u8)) (.int .i64))⟩], [⟨true, .own, (.pair (.sl (.int .u8)) (.int .i64))⟩, ⟨false, .own, (.int .i64)⟩]⟩
noncomputable def r30 (a : (List Int × Int)) : Option ((List Int × Int) × Int) :=
  Option.bind (r41 a) fun (y1 : ((List Int × Int) × Bool)) =>
    bif !(y1.2) then
      some (([], (0 : Int)), (9 : Int))
    else
      some ((y1.1.1, (↑y1.1.1.length : Int)), (0 : Int))
def an30 : Ann := .two (.leaf) (.two (.leaf) (.two (.two (.leaf) (.two (.two (.leaf) (.leaf)) (.leaf))) (.two (.leaf) (.two (.leaf) (.leaf)))))
theorem s30 : SoundF cx.P cx.G 30 sg30 r30 := by
  have e : denF cx [(41, ⟨sg41, r41⟩)] an30 Tryd.f30.ntmps (Tryd.f30.body.getD .skip) Tryd.f30.results.toList sg30 = r30 := by kernel_rfl
  rw [← e]
  exact sound_of_den (c := cx) (Known.cons (.ofF s41 (by kernel_rfl)) Tryd.func41 (by kernel_rfl) (by kernel_rfl) (Known.nil)) Tryd.func30 (by kernel_rfl) (Nat.le_of_ble_eq_true (by kernel_rfl)) rfl

/-! reredos/reredoskeep.TapeKeeps -/
noncomputable def r10_L0 (y2 : List ((Int × ((Int × Int) × (Int × (Int × (Int × (Bool × List Int)))))))) (y1 : (Int × (List ((Int × Int)) × Int))) (d17 : (Unit × (Int × (List Int × Int)))) : Option ((Unit × (Int × (List Int × Int))) ⊕ ((Unit × (List Int × Int)) ⊕ Bool)) :=
  bif decide (d17.2.1 < (↑y2.length : Int)) then
    Option.bind (
      bif inB d17.2.1 y2.length then
        Option.bind (idxN y2 (Int.toNat d17.2.1)) fun (x22 : (Int × ((Int × Int) × (Int × (Int × (Int × (Bool × List Int))))))) =>
          Option.bind (r23 (y1, d17.2.2, x22)) fun (y23 : ((List Int × Int) × Int)) =>
            
              some ((), (y23.2, y23.1))
      else
        none) fun (d24 : (Unit × (Int × (List Int × Int)))) =>
      bif !(decide (d24.2.1 = (0 : Int))) then
        some (Sum.inr (Sum.inr false))
      else
        some (Sum.inl ((), ((Go.IntKind.wrap .i64 (d17.2.1 + (1 : Int))), d24.2.2)))
  else
    some (Sum.inr (Sum.inl ((), d17.2.2)))
noncomputable def r10_L0q (y2 : List ((Int × ((Int × Int) × (Int × (Int × (Int × (Bool × List Int)))))))) (y1 : (Int × (List ((Int × Int)) × Int))) : (Unit × (Int × (List Int × Int))) → Option ((Unit × (Int × (List Int × Int))) ⊕ ((Unit × (List Int × Int)) ⊕ Bool)) := fun d17 =>
  bif decide (d17.2.1 < (↑y2.length : Int)) then
    Option.bind (
      bif inB d17.2.1 y2.length then
        Option.bind (idxN y2 (Int.toNat d17.2.1)) fun (x22 : (Int × ((Int × Int) × (Int × (Int × (Int × (Bool × List Int))))))) =>
          Option.bind (r23 (y1, d17.2.2, x22)) fun (y23 : ((List Int × Int) × Int)) =>
            sameR (
              some ((), (y23.2, y23.1)))
 (
              sameR (
                some ((), (y23.2, y23.1)))
 (
                some ((), (y23.2, y23.1))))
      else
        none) fun (d24 : (Unit × (Int × (List Int × Int)))) =>
      bif !(decide (d24.2.1 = (0 : Int))) then
        some (Sum.inr (Sum.inr false))
      else
        some (Sum.inl ((), ((Go.IntKind.wrap .i64 (d17.2.1 + (1 : Int))), d24.2.2)))
  else
    some (Sum.inr (Sum.inl ((), d17.2.2)))
theorem r10_L0e (y2 : List ((Int × ((Int × Int) × (Int × (Int × (Int × (Bool × List Int)))))))) (y1 : (Int × (List ((Int × Int)) × Int))) : r10_L0q y2 y1 = r10_L0 y2 y1 := by unfold r10_L0q r10_L0; simp only [sameR_self]
def sg10 : Sig := ⟨[⟨false, .bo, (.int .i64)⟩, ⟨false, .bo, (.sl (.int .i64))⟩, ⟨false, .bo, (.sl (.pair (.int .i64) (.pair (.int .i64) (.pair (.int .i64) (.pair (.int .i64) (.pair (.int .i64) (.int .i64)))))))⟩, ⟨false, .bo, (.int .i64)⟩, ⟨false, .bo, (.int .i64)⟩], [⟨false, .own, .bool⟩]⟩
noncomputable def r10 (a : (Int × (List Int × (List ((Int × (Int × (Int × (Int × (Int × Int)))))) × (Int × Int))))) : Option Bool :=
  Option.bind (r11 (a.1, a.2.1, (1 : Int))) fun (y1 : (Int × (List ((Int × Int)) × Int))) =>
    Option.bind (r25 (y1, a.2.2.1, (25 : Int))) fun (y2 : List ((Int × ((Int × Int) × (Int × (Int × (Int × (Bool × List Int)))))))) =>
      Option.bind (r18 (a.2.2.2.1, (Go.IntKind.wrap .i64 ((↑y2.length : Int) + (1 : Int))))) fun (y3 : Int) =>
        Option.bind (
          bif okB none (some y3) (some y3) y2.length then
            Option.bind (r24 (y1, midL y2 0 (Int.toNat y3))) fun (y6 : ((List Int × Int) × Bool)) =>
              
                some ((), (y6.2, y6.1))
          else
            none) fun (d7 : (Unit × (Bool × (List Int × Int)))) =>
          Option.bind (r30 d7.2.2) fun (y8 : ((List Int × Int) × Int)) =>
            Option.bind (loopR (r10_L0 y2 y1) ((), (y3, y8.1))) fun (q25 : ((Unit × (List Int × Int)) ⊕ Bool)) =>
              Sum.elim (fun (v26 : (Unit × (List Int × Int))) =>
                  Option.bind (
                    Option.bind (r18 (a.2.2.2.2, (200 : Int))) fun (y32 : Int) =>
                      Option.bind (r26 (v26.2, y32)) fun (y33 : ((List Int × Int) × Int)) =>
                        
                          some ((), (y33.2, y33.1))) fun (d34 : (Unit × (Int × (List Int × Int)))) =>
                    Option.bind (r27 (y1, d34.2.2)) fun (y35 : (List ((Int × ((Int × Int) × (Int × (Int × (Int × (Bool × List Int))))))) × ((List Int × Int) × Int))) =>
                      Option.bind (
                        bif d7.2.1 then
                          some (decide (y8.2 = (0 : Int)))
                        else
                          some false) fun (g36 : Bool) =>
                        Option.bind (
                          bif g36 then
                            some (decide (d34.2.1 = (0 : Int)))
                          else
                            some false) fun (g37 : Bool) =>
                          Option.bind (
                            bif g37 then
                              some (decide (y35.2.2 = (0 : Int)))
                            else
                              some false) fun (g38 : Bool) =>
                            Option.bind (
                              bif g38 then
                                some (decide (y3 ≤ (↑y35.1.length : Int)))
                              else
                                some false) fun (g39 : Bool) =>
                              Option.bind (
                                bif g39 then
                                  Option.bind (r28 (y35.1, y2)) fun (y40 : Bool) =>
                                    some y40
                                else
                                  some false) fun (g41 : Bool) =>
                                Option.bind (
                                  bif g41 then
                                    some (decide (y35.2.1.2 = (↑y35.2.1.1.length : Int)))
                                  else
                                    some false) fun (g42 : Bool) =>
                                  Option.bind (
                                    bif g42 then
                                      some (decide ((↑y8.1.1.length : Int) ≤ (↑y35.2.1.1.length : Int)))
                                    else
                                      some false) fun (g43 : Bool) =>
                                    bif g43 then
                                      bif !(decide (y3 = (0 : Int))) then
                                        some (decide ((0 : Int) < (↑y8.1.1.length : Int)))
                                      else
                                        some true
                                    else
                                      some false)
                (fun (v27 : Bool) =>
                  some v27) q25
noncomputable def r10q : (Int × (List Int × (List ((Int × (Int × (Int × (Int × (Int × Int)))))) × (Int × Int)))) → Option Bool := fun a =>
  Option.bind (r11 (a.1, a.2.1, (1 : Int))) fun (y1 : (Int × (List ((Int × Int)) × Int))) =>
    Option.bind (r25 (y1, a.2.2.1, (25 : Int))) fun (y2 : List ((Int × ((Int × Int) × (Int × (Int × (Int × (Bool × List Int)))))))) =>
      Option.bind (r18 (a.2.2.2.1, (Go.IntKind.wrap .i64 ((↑y2.length : Int) + (1 : Int))))) fun (y3 : Int) =>
        Option.bind (
          bif okB none (some y3) (some y3) y2.length then
            Option.bind (r24 (y1, midL y2 0 (Int.toNat y3))) fun (y6 : ((List Int × Int) × Bool)) =>
              sameR (
                some ((), (y6.2, y6.1)))
 (
                sameR (
                  some ((), (y6.2, y6.1)))
 (
                  some ((), (y6.2, y6.1))))
          else
            none) fun (d7 : (Unit × (Bool × (List Int × Int)))) =>
          Option.bind (r30 d7.2.2) fun (y8 : ((List Int × Int) × Int)) =>
            Option.bind (loopR (r10_L0q y2 y1) ((), (y3, y8.1))) fun (q25 : ((Unit × (List Int × Int)) ⊕ Bool)) =>
              Sum.elim (fun (v26 : (Unit × (List Int × Int))) =>
                  Option.bind (
                    Option.bind (r18 (a.2.2.2.2, (200 : Int))) fun (y32 : Int) =>
                      Option.bind (r26 (v26.2, y32)) fun (y33 : ((List Int × Int) × Int)) =>
                        sameR (
                          some ((), (y33.2, y33.1)))
 (
                          sameR (
                            some ((), (y33.2, y33.1)))
 (
                            some ((), (y33.2, y33.1))))) fun (d34 : (Unit × (Int × (List Int × Int)))) =>
                    Option.bind (r27 (y1, d34.2.2)) fun (y35 : (List ((Int × ((Int × Int) × (Int × (Int × (Int × (Bool × List Int))))))) × ((List Int × Int) × Int))) =>
                      Option.bind (
                        bif d7.2.1 then
                          some (decide (y8.2 = (0 : Int)))
                        else
                          some false) fun (g36 : Bool) =>
                        Option.bind (
                          bif g36 then
                            some (decide (d34.2.1 = (0 : Int)))
                          else
                            some false) fun (g37 : Bool) =>
                          Option.bind (
                            bif g37 then
                              some (decide (y35.2.2 = (0 : Int)))
                            else
                              some false) fun (g38 : Bool) =>
                            Option.bind (
                              bif g38 then
                                some (decide (y3 ≤ (↑y35.1.length : Int)))
                              else
                                some false) fun (g39 : Bool) =>
                              Option.bind (
                                bif g39 then
                                  Option.bind (r28 (y35.1, y2)) fun (y40 : Bool) =>
                                    some y40
                                else
                                  some false) fun (g41 : Bool) =>
                                Option.bind (
                                  bif g41 then
                                    some (decide (y35.2.1.2 = (↑y35.2.1.1.length : Int)))
                                  else
                                    some false) fun (g42 : Bool) =>
                                  Option.bind (
                                    bif g42 then
                                      some (decide ((↑y8.1.1.length : Int) ≤ (↑y35.2.1.1.length : Int)))
                                    else
                                      some false) fun (g43 : Bool) =>
                                    bif g43 then
                                      bif !(decide (y3 = (0 : Int))) then
                                        some (decide ((0 : Int) < (↑y8.1.1.length : Int)))
                                      else
                                        some true
                                    else
                                      some false)
                (fun (v27 : Bool) =>
                  some v27) q25
theorem r10e : r10q = r10 := by unfold r10q r10; simp only [sameR_self, r10_L0e]
def an10 : Ann := .two (.leaf) (.two (.leaf) (.two (.leaf) (.two (.leaf) (.two (.join [4, 11, 12, 13] [11, 30] [⟨.normal, [], [.tmp 14 (.pt 14 [(0, 0)] 0 0 2), .tmp 15 (.bool), .box 14 [.sl .own (.int .u8), .int .i64]]⟩] (.drawT [0, 1, 2, 3, 4, 5, 6, 7, 8, 9] [8])) (.two (.leaf) (.two (.leaf) (.two (.two (.leaf) (.one (.loop [4, 11, 12, 13, 15, 16, 17] [11, 30] [] [.tmp 14 (.pt 14 [(0, 0)] 0 0 2), .tmp 18 (.int .i64), .box 14 [.sl .own (.int .u8), .int .i64]] [⟨.exit 0, [], [.tmp 14 (.pt 14 [(0, 0)] 0 0 2), .box 14 [.sl .own (.int .u8), .int .i64]]⟩, ⟨.ret, [], [.tmp 10 (.bool)]⟩] (.two (.two (.leaf) (.two (.leaf) (.leaf))) (.two (.one (.two (.join [4, 11, 12, 13, 14, 15, 16, 17, 18] [11, 14, 30] [⟨.normal, [], [.tmp 19 (.pt 19 [(0, 0)] 0 0 2), .tmp 20 (.int .i64), .box 19 [.sl .own (.int .u8), .int .i64]]⟩] (.drawT [0, 1, 2, 3, 4, 5, 6, 7, 8, 9, 10] [9])) (.two (.two (.leaf) (.two (.two (.leaf) (.leaf)) (.leaf))) (.leaf)))) (.leaf)))))) (.two (.join [11, 12, 13, 15, 16, 17] [11, 30] [⟨.normal, [], [.tmp 14 (.pt 14 [(0, 0)] 0 0 2), .tmp 21 (.int .i64), .box 14 [.sl .ro (.int .u8), .int .i64]]⟩] (.drawT [0, 1, 2, 3, 4, 5, 6] [6])) (.two (.leaf) (.two (.segs [(5, ([12, 13, 17, 21, 22, 23, 24], ([23, 30, 83], [.tmp 91 (.bool)]))), (4, ([12, 13, 17, 22, 23, 24], ([23, 30, 83], [.tmp 95 (.bool)]))), (4, ([12, 13, 17, 22, 23], ([23, 30, 83], [.tmp 99 (.bool)]))), (6, ([12, 13, 17, 22, 23], ([23, 30, 83], [.tmp 105 (.bool)]))), (5, ([13, 17, 23], ([23], [.tmp 110 (.bool)]))), (8, ([13, 17, 23], ([23], [.tmp 118 (.bool)]))), (7, ([13, 17], ([], [.tmp 125 (.bool)])))]) (.leaf)))))))))))
theorem s10 : SoundF cx.P cx.G 10 sg10 r10 := by
  have e : denF cx [(11, ⟨sg11, r11⟩), (18, ⟨sg18, r18⟩), (23, ⟨sg23, r23⟩), (24, ⟨sg24, r24⟩), (25, ⟨sg25, r25⟩), (26, ⟨sg26, r26⟩), (27, ⟨sg27, r27⟩), (28, ⟨sg28, r28⟩), (30, ⟨sg30, r30⟩)] an10 Tryd.f10.ntmps (Tryd.f10.body.getD .skip) Tryd.f10.results.toList sg10 = r10q := by kernel_rfl
  rw [← r10e, ← e]
  exact sound_of_den (c := cx) (Known.cons (.ofF s11 (by kernel_rfl)) Tryd.func11 (by kernel_rfl) (by kernel_rfl) (Known.cons (.ofF s18 (by kernel_rfl)) Tryd.func18 (by kernel_rfl) (by kernel_rfl) (Known.cons (.ofF s23 (by kernel_rfl)) Tryd.func23 (by kernel_rfl) (by kernel_rfl) (Known.cons (.ofF s24 (by kernel_rfl)) Tryd.func24 (by kernel_rfl) (by kernel_rfl) (Known.cons (.ofF s25 (by kernel_rfl)) Tryd.func25 (by kernel_rfl) (by kernel_rfl) (Known.cons (.ofF s26 (by kernel_rfl)) Tryd.func26 (by kernel_rfl) (by kernel_rfl) (Known.cons (.ofF s27 (by kernel_rfl)) Tryd.func27 (by kernel_rfl) (by kernel_rfl) (Known.cons (.ofF s28 (by kernel_rfl)) Tryd.func28 (by kernel_rfl) (by kernel_rfl) (Known.cons (.ofF s30 (by kernel_rfl)) Tryd.func30 (by kernel_rfl) (by kernel_rfl) (Known.nil)))))))))) Tryd.func10 (by kernel_rfl) (Nat.le_of_ble_eq_true (by kernel_rfl)) rfl

end Go.Hm
