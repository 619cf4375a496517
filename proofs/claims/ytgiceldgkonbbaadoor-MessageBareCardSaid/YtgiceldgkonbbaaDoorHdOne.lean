/- What the functions compute: written by gen.py. -/
import Derived.Test.YtgiceldgkonbbaaDoorRvThirtySeven
import Derived.Test.YtgiceldgkonbbaaDoorProg
import Derived.KernelRfl
namespace Go.Hd
open Go.RowKit Go.Proofs Go.V
def tys : List (Nat × TyInfo) := [
  (3, ⟨.int .i64, 1, 8, [.int .i64 0], false, [none], [none], (.int .i64)⟩),
  (4, ⟨.bool, 1, 1, [.bool false], false, [none], [none], .bool⟩),
  (22, ⟨.sl 3, 1, 24, [.slice none 0 0], false, [some (.int .i64)], [none], (.sl (.int .i64))⟩),
  (24, ⟨.st [(0, 3), (1, 3), (2, 3), (3, 3), (4, 3), (5, 3)], 6, 48, [.int .i64 0, .int .i64 0, .int .i64 0, .int .i64 0, .int .i64 0, .int .i64 0], false, [none, none, none, none, none, none], [none, none, none, none, none, none], (.pair (.int .i64) (.pair (.int .i64) (.pair (.int .i64) (.pair (.int .i64) (.pair (.int .i64) (.int .i64))))))⟩),
  (25, ⟨.sl 51, 1, 24, [.slice none 0 0], false, [some (.pair (.int .i64) (.int .i64))], [none], (.sl (.pair (.int .i64) (.int .i64)))⟩),
  (27, ⟨.st [(0, 3), (1, 25), (2, 3)], 3, 40, [.int .i64 0, .slice none 0 0, .int .i64 0], false, [none, some (.pair (.int .i64) (.int .i64)), none], [none, none, none], (.pair (.int .i64) (.pair (.rsl (.pair (.int .i64) (.int .i64))) (.int .i64)))⟩),
  (30, ⟨.st [(0, 3), (1, 3)], 2, 16, [.int .i64 0, .int .i64 0], false, [none, none], [none, none], (.pair (.int .i64) (.int .i64))⟩),
  (31, ⟨.int .i64, 1, 8, [.int .i64 0], false, [none], [none], (.int .i64)⟩),
  (33, ⟨.st [(0, 3), (1, 3), (2, 3), (3, 30), (5, 3), (6, 3), (7, 3), (8, 3), (9, 3), (10, 4), (11, 31)], 12, 96, [.int .i64 0, .int .i64 0, .int .i64 0, .int .i64 0, .int .i64 0, .int .i64 0, .int .i64 0, .int .i64 0, .int .i64 0, .int .i64 0, .bool false, .int .i64 0], false, [none, none, none, none, none, none, none, none, none, none, none, none], [none, none, none, none, none, none, none, none, none, none, none, none], (.pair (.int .i64) (.pair (.int .i64) (.pair (.int .i64) (.pair (.pair (.int .i64) (.int .i64)) (.pair (.int .i64) (.pair (.int .i64) (.pair (.int .i64) (.pair (.int .i64) (.pair (.int .i64) (.pair .bool (.int .i64)))))))))))⟩),
  (38, ⟨.sl 24, 1, 24, [.slice none 0 0], false, [some (.pair (.int .i64) (.pair (.int .i64) (.pair (.int .i64) (.pair (.int .i64) (.pair (.int .i64) (.int .i64))))))], [none], (.sl (.pair (.int .i64) (.pair (.int .i64) (.pair (.int .i64) (.pair (.int .i64) (.pair (.int .i64) (.int .i64)))))))⟩),
  (39, ⟨.sl 33, 1, 24, [.slice none 0 0], false, [some (.pair (.int .i64) (.pair (.int .i64) (.pair (.int .i64) (.pair (.pair (.int .i64) (.int .i64)) (.pair (.int .i64) (.pair (.int .i64) (.pair (.int .i64) (.pair (.int .i64) (.pair (.int .i64) (.pair .bool (.int .i64)))))))))))], [none], (.sl (.pair (.int .i64) (.pair (.int .i64) (.pair (.int .i64) (.pair (.pair (.int .i64) (.int .i64)) (.pair (.int .i64) (.pair (.int .i64) (.pair (.int .i64) (.pair (.int .i64) (.pair (.int .i64) (.pair .bool (.int .i64))))))))))))⟩),
  (41, ⟨.sl 39, 1, 24, [.slice none 0 0], false, [some (.sl (.pair (.int .i64) (.pair (.int .i64) (.pair (.int .i64) (.pair (.pair (.int .i64) (.int .i64)) (.pair (.int .i64) (.pair (.int .i64) (.pair (.int .i64) (.pair (.int .i64) (.pair (.int .i64) (.pair .bool (.int .i64))))))))))))], [none], (.sl (.sl (.pair (.int .i64) (.pair (.int .i64) (.pair (.int .i64) (.pair (.pair (.int .i64) (.int .i64)) (.pair (.int .i64) (.pair (.int .i64) (.pair (.int .i64) (.pair (.int .i64) (.pair (.int .i64) (.pair .bool (.int .i64)))))))))))))⟩),
  (51, ⟨.st [(0, 3), (1, 3)], 2, 16, [.int .i64 0, .int .i64 0], true, [none, none], [none, none], (.pair (.int .i64) (.int .i64))⟩),
  (54, ⟨.sl 31, 1, 24, [.slice none 0 0], false, [some (.int .i64)], [none], (.sl (.int .i64))⟩),
  (60, ⟨.st [(0, 4), (1, 4), (2, 4), (3, 4), (4, 4), (5, 4), (6, 4), (7, 4)], 8, 8, [.bool false, .bool false, .bool false, .bool false, .bool false, .bool false, .bool false, .bool false], false, [none, none, none, none, none, none, none, none], [none, none, none, none, none, none, none, none], (.pair .bool (.pair .bool (.pair .bool (.pair .bool (.pair .bool (.pair .bool (.pair .bool .bool)))))))⟩),
  (61, ⟨.arr 10 60, 80, 80, [.bool false, .bool false, .bool false, .bool false, .bool false, .bool false, .bool false, .bool false, .bool false, .bool false, .bool false, .bool false, .bool false, .bool false, .bool false, .bool false, .bool false, .bool false, .bool false, .bool false, .bool false, .bool false, .bool false, .bool false, .bool false, .bool false, .bool false, .bool false, .bool false, .bool false, .bool false, .bool false, .bool false, .bool false, .bool false, .bool false, .bool false, .bool false, .bool false, .bool false, .bool false, .bool false, .bool false, .bool false, .bool false, .bool false, .bool false, .bool false, .bool false, .bool false, .bool false, .bool false, .bool false, .bool false, .bool false, .bool false, .bool false, .bool false, .bool false, .bool false, .bool false, .bool false, .bool false, .bool false, .bool false, .bool false, .bool false, .bool false, .bool false, .bool false, .bool false, .bool false, .bool false, .bool false, .bool false, .bool false, .bool false, .bool false, .bool false, .bool false], false, [none, none, none, none, none, none, none, none, none, none, none, none, none, none, none, none, none, none, none, none, none, none, none, none, none, none, none, none, none, none, none, none, none, none, none, none, none, none, none, none, none, none, none, none, none, none, none, none, none, none, none, none, none, none, none, none, none, none, none, none, none, none, none, none, none, none, none, none, none, none, none, none, none, none, none, none, none, none, none, none], [none, none, none, none, none, none, none, none, none, none, none, none, none, none, none, none, none, none, none, none, none, none, none, none, none, none, none, none, none, none, none, none, none, none, none, none, none, none, none, none, none, none, none, none, none, none, none, none, none, none, none, none, none, none, none, none, none, none, none, none, none, none, none, none, none, none, none, none, none, none, none, none, none, none, none, none, none, none, none, none], .unit⟩)]
theorem tysOk : TyOk Tryd.prog tys := tyOk_of fun e he => by
  simp only [tys, List.mem_cons, List.not_mem_nil, or_false] at he
  rcases he with rfl | rfl | rfl | rfl | rfl | rfl | rfl | rfl | rfl | rfl | rfl | rfl | rfl | rfl | rfl | rfl
  · exact ⟨by kernel_rfl, by kernel_rfl, fun h => nomatch h⟩
  · exact ⟨by kernel_rfl, by kernel_rfl, fun h => nomatch h⟩
  · exact ⟨by kernel_rfl, by kernel_rfl, fun h => nomatch h⟩
  · exact ⟨by kernel_rfl, by kernel_rfl, fun h => nomatch h⟩
  · exact ⟨by kernel_rfl, by kernel_rfl, fun h => nomatch h⟩
  · exact ⟨by kernel_rfl, by kernel_rfl, fun h => nomatch h⟩
  · exact ⟨by kernel_rfl, by kernel_rfl, fun h => nomatch h⟩
  · exact ⟨by kernel_rfl, by kernel_rfl, fun h => nomatch h⟩
  · exact ⟨by kernel_rfl, by kernel_rfl, fun h => nomatch h⟩
  · exact ⟨by kernel_rfl, by kernel_rfl, fun h => nomatch h⟩
  · exact ⟨by kernel_rfl, by kernel_rfl, fun h => nomatch h⟩
  · exact ⟨by kernel_rfl, by kernel_rfl, fun h => nomatch h⟩
  · exact ⟨by kernel_rfl, by kernel_rfl, fun _ => ⟨by kernel_rfl, by kernel_rfl, by kernel_rfl⟩⟩
  · exact ⟨by kernel_rfl, by kernel_rfl, fun h => nomatch h⟩
  · exact ⟨by kernel_rfl, by kernel_rfl, fun h => nomatch h⟩
  · exact ⟨by kernel_rfl, by kernel_rfl, fun h => nomatch h⟩
def tab0 : List (Bool × (Bool × (Bool × (Bool × (Bool × (Bool × (Bool × Bool))))))) := [(false, (false, (false, (false, (false, (false, (false, false))))))),
  (true, (true, (false, (false, (true, (false, (false, false))))))),
  (false, (true, (true, (false, (true, (false, (false, false))))))),
  (true, (true, (false, (true, (false, (false, (false, false))))))),
  (false, (false, (false, (false, (false, (true, (false, false))))))),
  (true, (true, (true, (true, (true, (false, (true, false))))))),
  (false, (true, (false, (false, (true, (false, (true, false))))))),
  (true, (true, (false, (true, (false, (true, (false, false))))))),
  (false, (false, (false, (false, (false, (false, (false, false))))))),
  (false, (false, (false, (false, (false, (false, (false, false)))))))]
noncomputable def cx : Ctx := ⟨Tryd.prog, tys, tysOk, [(0, .ga (.pair .bool (.pair .bool (.pair .bool (.pair .bool (.pair .bool (.pair .bool (.pair .bool .bool))))))) tab0)], by kernel_rfl⟩

/-! reredos/reredoskeep.picked -/
def sg8 : Sig := ⟨[⟨false, .bo, (.int .i64)⟩, ⟨false, .bo, (.int .i64)⟩], [⟨false, .own, (.int .i64)⟩]⟩
noncomputable def r8 : (Int × Int) → Option Int := fun a =>
  Option.bind (
    bif decide (a.1 < (0 : Int)) then
      some (Go.IntKind.wrap .i64 (0 - (Go.IntKind.wrap .i64 (a.1 + (1 : Int)))))
    else
      some a.1) fun (d1 : Int) =>
    bif decide (a.2 = 0) then
      none
    else
      some (Int.tmod d1 a.2)
def an8 : Ann := .two (.leaf) (.two (.join [1] [] [⟨.normal, [], [.tmp 0 (.int .i64)]⟩] (.two (.leaf) (.two (.leaf) (.leaf)))) (.two (.leaf) (.leaf)))
theorem s8 : SoundF cx.P cx.G 8 sg8 r8 := by
  have e : denF cx [] an8 Tryd.f8.ntmps (Tryd.f8.body.getD .skip) Tryd.f8.results.toList sg8 = r8 := by kernel_rfl
  rw [← e]
  exact sound_of_den (c := cx) (Known.nil) Tryd.func8 (by kernel_rfl) (Nat.le_of_ble_eq_true (by kernel_rfl))

/-! reredos/reredoskeep.Lab -/
def sg16 : Sig := ⟨[⟨false, .bo, (.int .i64)⟩], [⟨true, .own, (.pair (.int .i64) (.int .i64))⟩]⟩
noncomputable def r16 : Int → Option (Int × Int) := fun a =>
  Option.bind (r8 (a, (3 : Int))) fun (y1 : Int) =>
    Option.bind (r8 ((Go.IntKind.wrap .i64 (Int.tdiv a (3 : Int))), (4 : Int))) fun (y2 : Int) =>
      some (y1, y2)
def an16 : Ann := .two (.leaf) (.two (.leaf) (.leaf))
theorem s16 : SoundF cx.P cx.G 16 sg16 r16 := by
  have e : denF cx [(8, ⟨sg8, r8⟩)] an16 Tryd.f16.ntmps (Tryd.f16.body.getD .skip) Tryd.f16.results.toList sg16 = r16 := by kernel_rfl
  rw [← e]
  exact sound_of_den (c := cx) (Known.cons s8 Tryd.func8 (by kernel_rfl) (by kernel_rfl) (Known.nil)) Tryd.func16 (by kernel_rfl) (Nat.le_of_ble_eq_true (by kernel_rfl))

/-! reredos/reredoskeep.Config -/
noncomputable def r6_L0 (d30 : (Unit × (Int × (Int × (List ((Int × Int)) × Int))))) (y49 : (Int × Int)) : (Bool × Int) → Option ((Bool × Int) ⊕ Bool) := fun d50 =>
  bif decide (d50.2 < (↑d30.2.2.2.1.length : Int)) then
    Option.bind (
      bif inB d50.2 d30.2.2.2.1.length then
        Option.bind (idxN d30.2.2.2.1 (Int.toNat d50.2)) fun (x53 : (Int × Int)) =>
          bif !(d50.1) then
            some (decide (x53.1 = y49.1) && (decide (x53.2 = y49.2) && true))
          else
            some true
      else
        none) fun (d54 : Bool) =>
      some (Sum.inl (d54, (Go.IntKind.wrap .i64 (d50.2 + (1 : Int)))))
  else
    some (Sum.inr d50.1)
noncomputable def r6_L1 (a : (Int × (List Int × Int))) : (Unit × (Int × (Int × (List ((Int × Int)) × Int)))) → Option ((Unit × (Int × (Int × (List ((Int × Int)) × Int)))) ⊕ (Unit × (Int × (List ((Int × Int)) × Int)))) := fun d30 =>
  Option.bind (
    bif decide (d30.2.1 < (↑a.2.1.length : Int)) then
      some (decide ((↑d30.2.2.2.1.length : Int) < (4 : Int)))
    else
      some false) fun (d31 : Bool) =>
    bif d31 then
      Option.bind (
        Option.bind (idxI a.2.1 d30.2.1) fun (b48 : Int) =>
          Option.bind (r16 b48) fun (y49 : (Int × Int)) =>
            Option.bind (loopR (r6_L0 d30 y49) (false, (0 : Int))) fun (q55 : Bool) =>
              bif !(q55) then
                bif roomOk false d30.2.2.2.1.length 1 16 then
                  some ((), (d30.2.2.1, (app d30.2.2.2.1 [y49], d30.2.2.2.2)))
                else
                  none
              else
                some ((), d30.2.2)) fun (d56 : (Unit × (Int × (List ((Int × Int)) × Int)))) =>
        some (Sum.inl ((), ((Go.IntKind.wrap .i64 (d30.2.1 + (1 : Int))), d56.2)))
    else
      some (Sum.inr ((), d30.2.2))
def sg6 : Sig := ⟨[⟨false, .bo, (.int .i64)⟩, ⟨false, .bo, (.sl (.int .i64))⟩, ⟨false, .bo, (.int .i64)⟩], [⟨true, .ro, (.pair (.int .i64) (.pair (.sl (.pair (.int .i64) (.int .i64))) (.int .i64)))⟩]⟩
noncomputable def r6 : (Int × (List Int × Int)) → Option (Int × (List ((Int × Int)) × Int)) := fun a =>
  Option.bind (r8 (a.1, (3 : Int))) fun (y1 : Int) =>
    Option.bind (r8 (a.2.2, (4 : Int))) fun (y2 : Int) =>
      Option.bind (loopR (r6_L1 a) ((), ((0 : Int), ((Go.IntKind.wrap .i64 ((1 : Int) + y1)), ([], (Go.IntKind.wrap .i64 ((1 : Int) + y2))))))) fun (q57 : (Unit × (Int × (List ((Int × Int)) × Int)))) =>
        Option.bind (
          bif decide ((↑q57.2.2.1.length : Int) = (0 : Int)) then
            some ((), (q57.2.1, ([((0 : Int), (0 : Int))], q57.2.2.2)))
          else
            some ((), q57.2)) fun (d58 : (Unit × (Int × (List ((Int × Int)) × Int)))) =>
          some d58.2
def an6 : Ann := .two (.leaf) (.two (.leaf) (.two (.two (.leaf) (.one (.loop [1, 6] [6] [] [.tmp 7 (.pt 7 [(0, 0)] 0 0 3), .tmp 8 (.int .i64), .box 7 [.int .i64, .sl .own (.pair (.int .i64) (.int .i64)), .int .i64]] [⟨.exit 0, [], [.tmp 7 (.pt 7 [(0, 0)] 0 0 3), .box 7 [.int .i64, .sl .own (.pair (.int .i64) (.int .i64)), .int .i64]]⟩] (.two (.two (.join [1, 6, 7, 8] [6, 7] [⟨.normal, [], [.tmp 29 (.bool)]⟩] (.leaf)) (.two (.leaf) (.leaf))) (.two (.join [1, 6, 8] [6] [⟨.normal, [], [.tmp 7 (.pt 7 [(0, 0)] 0 0 3), .box 7 [.int .i64, .sl .own (.pair (.int .i64) (.int .i64)), .int .i64]]⟩] (.one (.two (.leaf) (.two (.leaf) (.two (.two (.leaf) (.one (.loop [1, 6, 7, 8, 9, 38, 39] [6, 7, 9] [] [.tmp 10 (.bool), .tmp 40 (.int .i64)] [⟨.exit 2, [], [.tmp 10 (.bool)]⟩] (.two (.leaf) (.two (.two (.leaf) (.leaf)) (.two (.join [1, 6, 7, 8, 9, 38, 39, 40] [6, 7, 9] [⟨.normal, [], [.tmp 10 (.bool)]⟩] (.one (.two (.leaf) (.leaf)))) (.leaf))))))) (.two (.leaf) (.two (.leaf) (.leaf)))))))) (.leaf)))))) (.two (.join [6] [6] [⟨.normal, [], [.tmp 7 (.pt 7 [(0, 0)] 0 0 3), .box 7 [.int .i64, .sl .own (.pair (.int .i64) (.int .i64)), .int .i64]]⟩] (.two (.leaf) (.two (.leaf) (.leaf)))) (.two (.leaf) (.leaf)))))
theorem s6 : SoundF cx.P cx.G 6 sg6 r6 := by
  have e : denF cx [(8, ⟨sg8, r8⟩), (16, ⟨sg16, r16⟩)] an6 Tryd.f6.ntmps (Tryd.f6.body.getD .skip) Tryd.f6.results.toList sg6 = r6 := by kernel_rfl
  rw [← e]
  exact sound_of_den (c := cx) (Known.cons s8 Tryd.func8 (by kernel_rfl) (by kernel_rfl) (Known.cons s16 Tryd.func16 (by kernel_rfl) (by kernel_rfl) (Known.nil))) Tryd.func6 (by kernel_rfl) (Nat.le_of_ble_eq_true (by kernel_rfl))

/-! reredos/reredoskeep.Txn -/
def sg17 : Sig := ⟨[⟨true, .bo, (.pair (.int .i64) (.pair (.sl (.pair (.int .i64) (.int .i64))) (.int .i64)))⟩, ⟨false, .bo, (.int .i64)⟩, ⟨false, .bo, (.int .i64)⟩], [⟨true, .own, (.pair (.int .i64) (.int .i64))⟩]⟩
noncomputable def r17 : ((Int × (List ((Int × Int)) × Int)) × (Int × Int)) → Option (Int × Int) := fun a =>
  Option.bind (r8 (a.2.1, a.1.1)) fun (y1 : Int) =>
    Option.bind (r8 (a.2.2, (6 : Int))) fun (y2 : Int) =>
      some (y1, (Go.IntKind.wrap .i64 ((1 : Int) + y2)))
def an17 : Ann := .two (.leaf) (.two (.leaf) (.leaf))
theorem s17 : SoundF cx.P cx.G 17 sg17 r17 := by
  have e : denF cx [(8, ⟨sg8, r8⟩)] an17 Tryd.f17.ntmps (Tryd.f17.body.getD .skip) Tryd.f17.results.toList sg17 = r17 := by kernel_rfl
  rw [← e]
  exact sound_of_den (c := cx) (Known.cons s8 Tryd.func8 (by kernel_rfl) (by kernel_rfl) (Known.nil)) Tryd.func17 (by kernel_rfl) (Nat.le_of_ble_eq_true (by kernel_rfl))

/-! reredos/reredoskeep.Message -/
def sg7 : Sig := ⟨[⟨true, .bo, (.pair (.int .i64) (.pair (.sl (.pair (.int .i64) (.int .i64))) (.int .i64)))⟩, ⟨true, .bo, (.pair (.int .i64) (.pair (.int .i64) (.pair (.int .i64) (.pair (.int .i64) (.pair (.int .i64) (.int .i64))))))⟩], [⟨true, .own, (.pair (.int .i64) (.pair (.int .i64) (.pair (.int .i64) (.pair (.pair (.int .i64) (.int .i64)) (.pair (.int .i64) (.pair (.int .i64) (.pair (.int .i64) (.pair (.int .i64) (.pair (.int .i64) (.pair .bool (.int .i64)))))))))))⟩]⟩
noncomputable def r7 : ((Int × (List ((Int × Int)) × Int)) × (Int × (Int × (Int × (Int × (Int × Int)))))) → Option (Int × (Int × (Int × ((Int × Int) × (Int × (Int × (Int × (Int × (Int × (Bool × Int)))))))))) := fun a =>
  Option.bind (r8 (a.2.1, (9 : Int))) fun (y1 : Int) =>
    Option.bind (r8 (a.2.2.1, a.1.1)) fun (y2 : Int) =>
      Option.bind (r8 ((Go.IntKind.wrap .i64 (Int.tdiv a.2.2.1 (7 : Int))), a.1.1)) fun (y3 : Int) =>
        Option.bind (r17 (a.1, a.2.2.2.1, a.2.2.2.2.1)) fun (y4 : (Int × Int)) =>
          Option.bind (r8 (a.2.2.2.2.2.2, (4 : Int))) fun (y5 : Int) =>
            bif inB y5 ([(0 : Int), (0 : Int), (11 : Int), (8 : Int)].length) then
              Option.bind (idxN [(0 : Int), (0 : Int), (11 : Int), (8 : Int)] (Int.toNat y5)) fun (x6 : Int) =>
                Option.bind (r8 (a.2.2.2.2.2.1, (↑a.1.2.1.length : Int))) fun (y7 : Int) =>
                  Option.bind (r8 ((Go.IntKind.wrap .i64 (Int.tdiv a.2.2.2.2.2.1 (5 : Int))), (8 : Int))) fun (y8 : Int) =>
                    Option.bind (
                      bif decide ((Go.IntKind.wrap .i64 ((1 : Int) + y1)) = (1 : Int)) then
                        Option.bind (r8 (a.2.2.2.2.2.2, (9 : Int))) fun (y31 : Int) =>
                          some ((), ((Go.IntKind.wrap .i64 ((1 : Int) + y1)), (y2, (y3, (y4.1, (y4.2, (y7, (y8, ((0 : Int), ((0 : Int), (y31, (false, (0 : Int)))))))))))))
                      else
                        bif decide ((Go.IntKind.wrap .i64 ((1 : Int) + y1)) = (2 : Int)) then
                          Option.bind (r8 (a.2.2.2.2.2.2, (1073741824 : Int))) fun (y32 : Int) =>
                            Option.bind (r8 ((Go.IntKind.wrap .i64 (Int.tdiv a.2.2.2.2.2.2 (3 : Int))), (9 : Int))) fun (y33 : Int) =>
                              some ((), ((Go.IntKind.wrap .i64 ((1 : Int) + y1)), (y2, (y3, (y4.1, (y4.2, ((0 : Int), (y8, (y32, ((0 : Int), (y33, (false, (0 : Int)))))))))))))
                        else
                          bif decide ((Go.IntKind.wrap .i64 ((1 : Int) + y1)) = (3 : Int)) then
                            Option.bind (r8 (a.2.2.2.2.2.2, (4 : Int))) fun (y34 : Int) =>
                              some ((), ((Go.IntKind.wrap .i64 ((1 : Int) + y1)), (y2, (y3, (y4.1, (y4.2, (y7, (y8, ((0 : Int), (y34, ((0 : Int), (false, (0 : Int)))))))))))))
                          else
                            bif decide ((Go.IntKind.wrap .i64 ((1 : Int) + y1)) = (4 : Int)) then
                              Option.bind (r8 (a.2.2.2.2.2.2, (2 : Int))) fun (y35 : Int) =>
                                some ((), ((Go.IntKind.wrap .i64 ((1 : Int) + y1)), (y2, (y3, (y4.1, (y4.2, ((0 : Int), ((0 : Int), ((0 : Int), ((0 : Int), ((0 : Int), (decide (y35 = (1 : Int)), (0 : Int)))))))))))))
                            else
                              bif decide ((Go.IntKind.wrap .i64 ((1 : Int) + y1)) = (5 : Int)) then
                                Option.bind (r8 ((Go.IntKind.wrap .i64 (Int.tdiv a.2.2.2.2.2.2 (4 : Int))), (9 : Int))) fun (y36 : Int) =>
                                  bif decide (x6 = (0 : Int)) then
                                    Option.bind (r8 (a.2.2.2.2.2.2, (99 : Int))) fun (y37 : Int) =>
                                      Option.bind (r8 (a.2.2.2.2.2.2, (5 : Int))) fun (y38 : Int) =>
                                        some ((), ((Go.IntKind.wrap .i64 ((1 : Int) + y1)), (y2, (y3, (y4.1, (y4.2, (y7, (y8, (y37, (y38, (y36, (false, x6))))))))))))
                                  else
                                    some ((), ((Go.IntKind.wrap .i64 ((1 : Int) + y1)), (y2, (y3, (y4.1, (y4.2, (y7, (y8, ((0 : Int), ((0 : Int), (y36, (false, x6))))))))))))
                              else
                                bif decide ((Go.IntKind.wrap .i64 ((1 : Int) + y1)) = (6 : Int)) then
                                  Option.bind (r8 ((Go.IntKind.wrap .i64 (Int.tdiv a.2.2.2.2.2.2 (4 : Int))), (9 : Int))) fun (y39 : Int) =>
                                    some ((), ((Go.IntKind.wrap .i64 ((1 : Int) + y1)), (y2, (y3, (y4.1, (y4.2, ((0 : Int), (y8, ((0 : Int), ((0 : Int), (y39, (false, x6))))))))))))
                                else
                                  bif decide ((Go.IntKind.wrap .i64 ((1 : Int) + y1)) = (7 : Int)) then
                                    Option.bind (r8 (a.2.2.2.2.2.2, (4 : Int))) fun (y40 : Int) =>
                                      Option.bind (r8 (a.2.2.2.2.2.2, (2 : Int))) fun (y41 : Int) =>
                                        some ((), ((Go.IntKind.wrap .i64 ((1 : Int) + y1)), (y2, (y3, (y4.1, (y4.2, (y7, (y8, ((0 : Int), (y40, ((0 : Int), (decide (y41 = (1 : Int)), (0 : Int)))))))))))))
                                  else
                                    some ((), ((Go.IntKind.wrap .i64 ((1 : Int) + y1)), (y2, (y3, (y4.1, (y4.2, ((0 : Int), ((0 : Int), ((0 : Int), ((0 : Int), ((0 : Int), (false, (0 : Int)))))))))))))) fun (d42 : (Unit × (Int × (Int × (Int × (Int × (Int × (Int × (Int × (Int × (Int × (Int × (Bool × Int))))))))))))) =>
                      some (d42.2.1, (d42.2.2.1, (d42.2.2.2.1, ((d42.2.2.2.2.1, d42.2.2.2.2.2.1), d42.2.2.2.2.2.2))))
            else
              none
def an7 : Ann := .two (.leaf) (.two (.draw 23) (.two (.leaf) (.two (.leaf) (.two (.leaf) (.two (.join [4] [4] [⟨.normal, [], [.tmp 5 (.pt 5 [(0, 0)] 0 0 12), .box 5 [.int .i64, .int .i64, .int .i64, .int .i64, .int .i64, .int .i64, .int .i64, .int .i64, .int .i64, .int .i64, .bool, .int .i64]]⟩] (.two (.leaf) (.one (.two (.leaf) (.two (.two (.leaf) (.two (.leaf) (.leaf))) (.two (.leaf) (.two (.two (.leaf) (.two (.leaf) (.leaf))) (.two (.leaf) (.two (.two (.leaf) (.two (.leaf) (.leaf))) (.two (.leaf) (.two (.leaf) (.two (.leaf) (.two (.two (.leaf) (.two (.leaf) (.two (.leaf) (.two (.leaf) (.two (.leaf) (.two (.two (.leaf) (.leaf)) (.leaf))))))) (.two (.leaf) (.two (.two (.leaf) (.two (.leaf) (.leaf))) (.two (.leaf) (.two (.two (.leaf) (.two (.leaf) (.two (.leaf) (.leaf)))) (.leaf)))))))))))))))))) (.two (.leaf) (.leaf)))))))
theorem s7 : SoundF cx.P cx.G 7 sg7 r7 := by
  have e : denF cx [(8, ⟨sg8, r8⟩), (17, ⟨sg17, r17⟩)] an7 Tryd.f7.ntmps (Tryd.f7.body.getD .skip) Tryd.f7.results.toList sg7 = r7 := by kernel_rfl
  rw [← e]
  exact sound_of_den (c := cx) (Known.cons s8 Tryd.func8 (by kernel_rfl) (by kernel_rfl) (Known.cons s17 Tryd.func17 (by kernel_rfl) (by kernel_rfl) (Known.nil))) Tryd.func7 (by kernel_rfl) (Nat.le_of_ble_eq_true (by kernel_rfl))

/-! reredos/label.one -/
def sg26 : Sig := ⟨[⟨true, .bo, (.pair (.int .i64) (.int .i64))⟩], [⟨false, .own, .bool⟩]⟩
noncomputable def r26 : (Int × Int) → Option Bool := fun a =>
  Option.bind (
    bif decide ((0 : Int) ≤ a.1) then
      some (decide (a.1 ≤ (9 : Int)))
    else
      some false) fun (g1 : Bool) =>
    Option.bind (
      bif g1 then
        some (decide ((0 : Int) ≤ a.2))
      else
        some false) fun (g2 : Bool) =>
      bif g2 then
        some (decide (a.2 ≤ (15 : Int)))
      else
        some false
def an26 : Ann := .two (.leaf) (.two (.segs [(8, ([1], ([1], [.tmp 10 (.bool)]))), (5, ([1], ([1], [.tmp 15 (.bool)])))]) (.leaf))
theorem s26 : SoundF cx.P cx.G 26 sg26 r26 := by
  have e : denF cx [] an26 Tryd.f26.ntmps (Tryd.f26.body.getD .skip) Tryd.f26.results.toList sg26 = r26 := by kernel_rfl
  rw [← e]
  exact sound_of_den (c := cx) (Known.nil) Tryd.func26 (by kernel_rfl) (Nat.le_of_ble_eq_true (by kernel_rfl))

/-! reredos/label.Check -/
noncomputable def r18_L0 (d3 : Int) (a : (Int × (List ((Int × Int)) × Int))) (b4 : (Int × Int)) : Int → Option (Int ⊕ (Unit ⊕ Int)) := fun d6 =>
  bif decide (d6 < (↑((List.take (Int.toNat d3) a.2.1).length) : Int)) then
    Option.bind (idxI (List.take (Int.toNat d3) a.2.1) d6) fun (b7 : (Int × Int)) =>
      bif (decide (b7.1 = b4.1) && (decide (b7.2 = b4.2) && true)) then
        some (Sum.inr (Sum.inr (7 : Int)))
      else
        some (Sum.inl (Go.IntKind.wrap .i64 (d6 + (1 : Int))))
  else
    some (Sum.inr (Sum.inl ()))
noncomputable def r18_L1 (a : (Int × (List ((Int × Int)) × Int))) : Int → Option (Int ⊕ (Unit ⊕ Int)) := fun d3 =>
  bif decide (d3 < (↑a.2.1.length : Int)) then
    Option.bind (idxI a.2.1 d3) fun (b4 : (Int × Int)) =>
      Option.bind (r26 b4) fun (y5 : Bool) =>
        bif !(y5) then
          some (Sum.inr (Sum.inr (2 : Int)))
        else
          bif okB none (some d3) none a.2.1.length then
            Option.bind (loopR (r18_L0 d3 a b4) (0 : Int)) fun (q8 : (Unit ⊕ Int)) =>
              Sum.elim (fun (v9 : Unit) =>
                  some (Sum.inl (Go.IntKind.wrap .i64 (d3 + (1 : Int)))))
                (fun (v10 : Int) =>
                  some (Sum.inr (Sum.inr v10))) q8
          else
            none
  else
    some (Sum.inr (Sum.inl ()))
def sg18 : Sig := ⟨[⟨true, .bo, (.pair (.int .i64) (.pair (.sl (.pair (.int .i64) (.int .i64))) (.int .i64)))⟩], [⟨false, .own, (.int .i64)⟩]⟩
noncomputable def r18 : (Int × (List ((Int × Int)) × Int)) → Option Int := fun a =>
  Option.bind (
    bif !(decide (a.1 < (1 : Int))) then
      some (decide ((4 : Int) < a.1))
    else
      some true) fun (d1 : Bool) =>
    bif d1 then
      some (2 : Int)
    else
      Option.bind (
        bif !(decide ((↑a.2.1.length : Int) < (1 : Int))) then
          some (decide ((6 : Int) < (↑a.2.1.length : Int)))
        else
          some true) fun (d2 : Bool) =>
        bif d2 then
          some (1 : Int)
        else
          Option.bind (loopR (r18_L1 a) (0 : Int)) fun (q11 : (Unit ⊕ Int)) =>
            Sum.elim (fun (v12 : Unit) =>
                Option.bind (
                  bif !(decide (a.2.2 < (1 : Int))) then
                    some (decide ((1048576 : Int) < a.2.2))
                  else
                    some true) fun (d14 : Bool) =>
                  bif d14 then
                    some (2 : Int)
                  else
                    some (0 : Int))
              (fun (v13 : Int) =>
                some v13) q11
def an18 : Ann := .two (.leaf) (.two (.two (.join [1] [1] [⟨.normal, [], [.tmp 14 (.bool)]⟩] (.leaf)) (.two (.two (.leaf) (.leaf)) (.leaf))) (.two (.two (.join [1] [1] [⟨.normal, [], [.tmp 24 (.bool)]⟩] (.leaf)) (.two (.two (.leaf) (.leaf)) (.leaf))) (.two (.two (.leaf) (.one (.loop [1, 26, 27] [1] [] [.tmp 28 (.int .i64)] [⟨.exit 0, [], []⟩, ⟨.ret, [], [.tmp 2 (.int .i64)]⟩] (.two (.leaf) (.two (.two (.leaf) (.leaf)) (.two (.one (.two (.leaf) (.two (.two (.leaf) (.two (.two (.leaf) (.leaf)) (.leaf))) (.two (.leaf) (.one (.loop [1, 4, 26, 27, 28, 39, 40] [1, 4] [] [.tmp 41 (.int .i64)] [⟨.exit 2, [], []⟩, ⟨.ret, [], [.tmp 2 (.int .i64)]⟩] (.two (.leaf) (.two (.two (.leaf) (.leaf)) (.two (.one (.two (.leaf) (.two (.leaf) (.two (.two (.leaf) (.leaf)) (.leaf))))) (.leaf)))))))))) (.leaf))))))) (.two (.two (.join [] [] [⟨.normal, [], [.tmp 57 (.bool)]⟩] (.leaf)) (.two (.two (.leaf) (.leaf)) (.leaf))) (.two (.leaf) (.leaf))))))
theorem s18 : SoundF cx.P cx.G 18 sg18 r18 := by
  have e : denF cx [(26, ⟨sg26, r26⟩)] an18 Tryd.f18.ntmps (Tryd.f18.body.getD .skip) Tryd.f18.results.toList sg18 = r18 := by kernel_rfl
  rw [← e]
  exact sound_of_den (c := cx) (Known.cons s26 Tryd.func26 (by kernel_rfl) (by kernel_rfl) (Known.nil)) Tryd.func18 (by kernel_rfl) (Nat.le_of_ble_eq_true (by kernel_rfl))

/-! reredos/wire.txn -/
def sg19 : Sig := ⟨[⟨true, .bo, (.pair (.int .i64) (.pair (.sl (.pair (.int .i64) (.int .i64))) (.int .i64)))⟩, ⟨true, .bo, (.pair (.int .i64) (.int .i64))⟩], [⟨false, .own, .bool⟩]⟩
noncomputable def r19 : ((Int × (List ((Int × Int)) × Int)) × (Int × Int)) → Option Bool := fun a =>
  Option.bind (
    bif decide ((0 : Int) ≤ a.2.1) then
      some (decide (a.2.1 < a.1.1))
    else
      some false) fun (g1 : Bool) =>
    Option.bind (
      bif g1 then
        some (decide ((1 : Int) ≤ a.2.2))
      else
        some false) fun (g2 : Bool) =>
      bif g2 then
        some (decide (a.2.2 ≤ (1048576 : Int)))
      else
        some false
def an19 : Ann := .two (.leaf) (.two (.segs [(10, ([3], ([3], [.tmp 14 (.bool)]))), (5, ([3], ([3], [.tmp 19 (.bool)])))]) (.leaf))
theorem s19 : SoundF cx.P cx.G 19 sg19 r19 := by
  have e : denF cx [] an19 Tryd.f19.ntmps (Tryd.f19.body.getD .skip) Tryd.f19.results.toList sg19 = r19 := by kernel_rfl
  rw [← e]
  exact sound_of_den (c := cx) (Known.nil) Tryd.func19 (by kernel_rfl) (Nat.le_of_ble_eq_true (by kernel_rfl))

/-! reredos/wire.key -/
def sg20 : Sig := ⟨[⟨false, .bo, (.int .i64)⟩], [⟨false, .own, .bool⟩]⟩
noncomputable def r20 : Int → Option Bool := fun a =>
  bif decide ((0 : Int) ≤ a) then
    some (decide (a < (8 : Int)))
  else
    some false
def an20 : Ann := .two (.leaf) (.two (.leaf) (.leaf))
theorem s20 : SoundF cx.P cx.G 20 sg20 r20 := by
  have e : denF cx [] an20 Tryd.f20.ntmps (Tryd.f20.body.getD .skip) Tryd.f20.results.toList sg20 = r20 := by kernel_rfl
  rw [← e]
  exact sound_of_den (c := cx) (Known.nil) Tryd.func20 (by kernel_rfl) (Nat.le_of_ble_eq_true (by kernel_rfl))

/-! reredos/wire.value -/
def sg21 : Sig := ⟨[⟨false, .bo, (.int .i64)⟩], [⟨false, .own, .bool⟩]⟩
noncomputable def r21 : Int → Option Bool := fun a =>
  bif decide ((0 : Int) ≤ a) then
    some (decide (a ≤ (1073741824 : Int)))
  else
    some false
def an21 : Ann := .two (.leaf) (.two (.leaf) (.leaf))
theorem s21 : SoundF cx.P cx.G 21 sg21 r21 := by
  have e : denF cx [] an21 Tryd.f21.ntmps (Tryd.f21.body.getD .skip) Tryd.f21.results.toList sg21 = r21 := by kernel_rfl
  rw [← e]
  exact sound_of_den (c := cx) (Known.nil) Tryd.func21 (by kernel_rfl) (Nat.le_of_ble_eq_true (by kernel_rfl))

/-! reredos/wire.ask -/
def sg22 : Sig := ⟨[⟨false, .bo, (.int .i64)⟩], [⟨false, .own, .bool⟩]⟩
noncomputable def r22 : Int → Option Bool := fun a =>
  bif decide ((0 : Int) ≤ a) then
    some (decide (a ≤ (1048576 : Int)))
  else
    some false
def an22 : Ann := .two (.leaf) (.two (.leaf) (.leaf))
theorem s22 : SoundF cx.P cx.G 22 sg22 r22 := by
  have e : denF cx [] an22 Tryd.f22.ntmps (Tryd.f22.body.getD .skip) Tryd.f22.results.toList sg22 = r22 := by kernel_rfl
  rw [← e]
  exact sound_of_den (c := cx) (Known.nil) Tryd.func22 (by kernel_rfl) (Nat.le_of_ble_eq_true (by kernel_rfl))

/-! reredos/wire.code -/
def sg23 : Sig := ⟨[⟨false, .bo, (.int .i64)⟩], [⟨false, .own, .bool⟩]⟩
noncomputable def r23 : Int → Option Bool := fun a =>
  Option.bind (
    bif !(decide (a = (0 : Int))) then
      some (decide (a = (11 : Int)))
    else
      some true) fun (g1 : Bool) =>
    bif !(g1) then
      some (decide (a = (8 : Int)))
    else
      some true
def an23 : Ann := .two (.leaf) (.two (.segs [(6, ([0], ([], [.tmp 8 (.bool)])))]) (.leaf))
theorem s23 : SoundF cx.P cx.G 23 sg23 r23 := by
  have e : denF cx [] an23 Tryd.f23.ntmps (Tryd.f23.body.getD .skip) Tryd.f23.results.toList sg23 = r23 := by kernel_rfl
  rw [← e]
  exact sound_of_den (c := cx) (Known.nil) Tryd.func23 (by kernel_rfl) (Nat.le_of_ble_eq_true (by kernel_rfl))

/-! reredos/wire.CheckMessage -/
def sg9 : Sig := ⟨[⟨true, .bo, (.pair (.int .i64) (.pair (.sl (.pair (.int .i64) (.int .i64))) (.int .i64)))⟩, ⟨true, .bo, (.pair (.int .i64) (.pair (.int .i64) (.pair (.int .i64) (.pair (.pair (.int .i64) (.int .i64)) (.pair (.int .i64) (.pair (.int .i64) (.pair (.int .i64) (.pair (.int .i64) (.pair (.int .i64) (.pair .bool (.int .i64)))))))))))⟩], [⟨false, .own, (.int .i64)⟩]⟩
noncomputable def r9 : ((Int × (List ((Int × Int)) × Int)) × (Int × (Int × (Int × ((Int × Int) × (Int × (Int × (Int × (Int × (Int × (Bool × Int))))))))))) → Option Int := fun a =>
  Option.bind (r18 a.1) fun (y1 : Int) =>
    bif !(decide (y1 = (0 : Int))) then
      some y1
    else
      Option.bind (
        bif !(decide (a.2.1 < (1 : Int))) then
          some (decide ((9 : Int) < a.2.1))
        else
          some true) fun (d2 : Bool) =>
        bif d2 then
          some (3 : Int)
        else
          Option.bind (
            Option.bind (
              bif !(decide (a.2.2.1 < (0 : Int))) then
                some (decide (a.1.1 ≤ a.2.2.1))
              else
                some true) fun (g35 : Bool) =>
              Option.bind (
                bif !(g35) then
                  some (decide (a.2.2.2.1 < (0 : Int)))
                else
                  some true) fun (g36 : Bool) =>
                Option.bind (
                  bif !(g36) then
                    some (decide (a.1.1 ≤ a.2.2.2.1))
                  else
                    some true) fun (g37 : Bool) =>
                  Option.bind (
                    bif !(g37) then
                      Option.bind (r19 (a.1, a.2.2.2.2.1)) fun (y38 : Bool) =>
                        some !(y38)
                    else
                      some true) fun (g39 : Bool) =>
                    Option.bind (
                      bif !(g39) then
                        some (decide (a.2.2.2.2.2.1 < (0 : Int)))
                      else
                        some true) fun (g40 : Bool) =>
                      Option.bind (
                        bif !(g40) then
                          some (decide ((↑a.1.2.1.length : Int) ≤ a.2.2.2.2.2.1))
                        else
                          some true) fun (g41 : Bool) =>
                        Option.bind (
                          bif !(g41) then
                            Option.bind (r20 a.2.2.2.2.2.2.1) fun (y42 : Bool) =>
                              some !(y42)
                          else
                            some true) fun (g43 : Bool) =>
                          Option.bind (
                            bif !(g43) then
                              Option.bind (r21 a.2.2.2.2.2.2.2.1) fun (y44 : Bool) =>
                                some !(y44)
                            else
                              some true) fun (g45 : Bool) =>
                            Option.bind (
                              bif !(g45) then
                                some (decide (a.2.2.2.2.2.2.2.2.1 < (0 : Int)))
                              else
                                some true) fun (g46 : Bool) =>
                              Option.bind (
                                bif !(g46) then
                                  some (decide ((1048576 : Int) < a.2.2.2.2.2.2.2.2.1))
                                else
                                  some true) fun (g47 : Bool) =>
                                Option.bind (
                                  bif !(g47) then
                                    Option.bind (r22 a.2.2.2.2.2.2.2.2.2.1) fun (y48 : Bool) =>
                                      some !(y48)
                                  else
                                    some true) fun (g49 : Bool) =>
                                  bif !(g49) then
                                    Option.bind (r23 a.2.2.2.2.2.2.2.2.2.2.2) fun (y50 : Bool) =>
                                      some !(y50)
                                  else
                                    some true) fun (d51 : Bool) =>
            bif d51 then
              some (2 : Int)
            else
              Option.bind (idxI tab0 a.2.1) fun (b52 : (Bool × (Bool × (Bool × (Bool × (Bool × (Bool × (Bool × Bool)))))))) =>
                Option.bind (
                  Option.bind (
                    bif !(b52.1) then
                      some (!(decide (a.2.2.2.2.2.1 = (0 : Int))))
                    else
                      some false) fun (g67 : Bool) =>
                    Option.bind (
                      bif !(g67) then
                        bif !(b52.2.1) then
                          some (!(decide (a.2.2.2.2.2.2.1 = (0 : Int))))
                        else
                          some false
                      else
                        some true) fun (g68 : Bool) =>
                      Option.bind (
                        bif !(g68) then
                          bif !(b52.2.2.1) then
                            some (!(decide (a.2.2.2.2.2.2.2.1 = (0 : Int))))
                          else
                            some false
                        else
                          some true) fun (g69 : Bool) =>
                        Option.bind (
                          bif !(g69) then
                            bif !(b52.2.2.2.1) then
                              some (!(decide (a.2.2.2.2.2.2.2.2.1 = (0 : Int))))
                            else
                              some false
                          else
                            some true) fun (g70 : Bool) =>
                          Option.bind (
                            bif !(g70) then
                              bif !(b52.2.2.2.2.1) then
                                some (!(decide (a.2.2.2.2.2.2.2.2.2.1 = (0 : Int))))
                              else
                                some false
                            else
                              some true) fun (g71 : Bool) =>
                            Option.bind (
                              bif !(g71) then
                                bif !(b52.2.2.2.2.2.1) then
                                  some a.2.2.2.2.2.2.2.2.2.2.1
                                else
                                  some false
                              else
                                some true) fun (g72 : Bool) =>
                              Option.bind (
                                bif !(g72) then
                                  bif !(b52.2.2.2.2.2.2.1) then
                                    some (!(decide (a.2.2.2.2.2.2.2.2.2.2.2 = (0 : Int))))
                                  else
                                    some false
                                else
                                  some true) fun (g73 : Bool) =>
                                bif !(g73) then
                                  bif !(decide (a.2.2.2.2.2.2.2.2.2.2.2 = (0 : Int))) then
                                    some (!(decide ((Go.IntKind.wrap .i64 (a.2.2.2.2.2.2.2.1 + a.2.2.2.2.2.2.2.2.1)) = (0 : Int))))
                                  else
                                    some false
                                else
                                  some true) fun (d74 : Bool) =>
                  bif d74 then
                    some (4 : Int)
                  else
                    some (0 : Int)
def an9 : Ann := .two (.leaf) (.two (.two (.leaf) (.two (.leaf) (.two (.two (.leaf) (.leaf)) (.leaf)))) (.two (.two (.join [2, 3] [2, 3] [⟨.normal, [], [.tmp 19 (.bool)]⟩] (.leaf)) (.two (.two (.leaf) (.leaf)) (.leaf))) (.two (.two (.join [3] [3] [⟨.normal, [], [.tmp 95 (.bool)]⟩] (.segs [(10, ([2, 3], ([2, 3], [.tmp 29 (.bool)]))), (5, ([2, 3], ([2, 3], [.tmp 34 (.bool)]))), (7, ([2, 3], ([2, 3], [.tmp 41 (.bool)]))), (7, ([2, 3], ([2, 3], [.tmp 48 (.bool)]))), (5, ([2, 3], ([2, 3], [.tmp 53 (.bool)]))), (8, ([3], ([3], [.tmp 61 (.bool)]))), (6, ([3], ([3], [.tmp 67 (.bool)]))), (6, ([3], ([3], [.tmp 73 (.bool)]))), (5, ([3], ([3], [.tmp 78 (.bool)]))), (5, ([3], ([3], [.tmp 83 (.bool)]))), (6, ([3], ([3], [.tmp 89 (.bool)])))])) (.two (.two (.leaf) (.leaf)) (.leaf))) (.two (.leaf) (.two (.two (.join [] [] [⟨.normal, [], [.tmp 179 (.bool)]⟩] (.segs [(8, ([3, 6], ([3, 6], [.tmp 107 (.bool)]))), (10, ([3, 6], ([3, 6], [.tmp 117 (.bool)]))), (10, ([3, 6], ([3, 6], [.tmp 127 (.bool)]))), (10, ([3, 6], ([3, 6], [.tmp 137 (.bool)]))), (10, ([3, 6], ([3, 6], [.tmp 147 (.bool)]))), (9, ([3, 6], ([3, 6], [.tmp 156 (.bool)]))), (10, ([3], ([3], [.tmp 166 (.bool)])))])) (.two (.two (.leaf) (.leaf)) (.leaf))) (.two (.leaf) (.leaf)))))))
theorem s9 : SoundF cx.P cx.G 9 sg9 r9 := by
  have e : denF cx [(18, ⟨sg18, r18⟩), (19, ⟨sg19, r19⟩), (20, ⟨sg20, r20⟩), (21, ⟨sg21, r21⟩), (22, ⟨sg22, r22⟩), (23, ⟨sg23, r23⟩)] an9 Tryd.f9.ntmps (Tryd.f9.body.getD .skip) Tryd.f9.results.toList sg9 = r9 := by kernel_rfl
  rw [← e]
  exact sound_of_den (c := cx) (Known.cons s18 Tryd.func18 (by kernel_rfl) (by kernel_rfl) (Known.cons s19 Tryd.func19 (by kernel_rfl) (by kernel_rfl) (Known.cons s20 Tryd.func20 (by kernel_rfl) (by kernel_rfl) (Known.cons s21 Tryd.func21 (by kernel_rfl) (by kernel_rfl) (Known.cons s22 Tryd.func22 (by kernel_rfl) (by kernel_rfl) (Known.cons s23 Tryd.func23 (by kernel_rfl) (by kernel_rfl) (Known.nil))))))) Tryd.func9 (by kernel_rfl) (Nat.le_of_ble_eq_true (by kernel_rfl))

/-! reredos/reredoskeep.MessageBare -/
def sg3 : Sig := ⟨[⟨false, .bo, (.int .i64)⟩, ⟨false, .bo, (.sl (.int .i64))⟩, ⟨true, .bo, (.pair (.int .i64) (.pair (.int .i64) (.pair (.int .i64) (.pair (.int .i64) (.pair (.int .i64) (.int .i64))))))⟩, ⟨false, .bo, (.int .i64)⟩], [⟨false, .own, .bool⟩]⟩
noncomputable def r3 : (Int × (List Int × ((Int × (Int × (Int × (Int × (Int × Int))))) × Int))) → Option Bool := fun a =>
  Option.bind (r6 (a.1, a.2.1, (1 : Int))) fun (y1 : (Int × (List ((Int × Int)) × Int))) =>
    Option.bind (r7 (y1, a.2.2.1)) fun (y2 : (Int × (Int × (Int × ((Int × Int) × (Int × (Int × (Int × (Int × (Int × (Bool × Int))))))))))) =>
      Option.bind (
        Option.bind (r8 (a.2.2.2, (4 : Int))) fun (y5 : Int) =>
          bif decide (y5 = (0 : Int)) then
            some ((), ((4 : Int), ((8 : Int), ((0 : Int), ((0 : Int), ((0 : Int), ((1 : Int), ((0 : Int), ((0 : Int), ((0 : Int), ((0 : Int), ((0 : Int), (true, (0 : Int))))))))))))))
          else
            bif decide (y5 = (1 : Int)) then
              some ((), ((4 : Int), ((6 : Int), ((0 : Int), ((0 : Int), ((0 : Int), ((1 : Int), ((0 : Int), ((0 : Int), ((1 : Int), ((0 : Int), ((0 : Int), (false, (0 : Int))))))))))))))
            else
              bif decide (y5 = (2 : Int)) then
                some ((), ((3 : Int), ((10 : Int), (y2.2.1, (y2.2.2.1, (y2.2.2.2.1.1, (y2.2.2.2.1.2, y2.2.2.2.2)))))))
              else
                some ((), ((2 : Int), (y2.1, (y1.1, (y2.2.2.1, (y2.2.2.2.1.1, (y2.2.2.2.1.2, y2.2.2.2.2)))))))) fun (d6 : (Unit × (Int × (Int × (Int × (Int × (Int × (Int × (Int × (Int × (Int × (Int × (Int × (Bool × Int)))))))))))))) =>
        Option.bind (r9 (y1, y2)) fun (y7 : Int) =>
          bif decide (y7 = (0 : Int)) then
            Option.bind (r9 (y1, (d6.2.2.1, (d6.2.2.2.1, (d6.2.2.2.2.1, ((d6.2.2.2.2.2.1, d6.2.2.2.2.2.2.1), d6.2.2.2.2.2.2.2)))))) fun (y8 : Int) =>
              some (decide (y8 = d6.2.1))
          else
            some false
def an3 : Ann := .two (.leaf) (.two (.leaf) (.two (.leaf) (.two (.leaf) (.two (.leaf) (.two (.join [9, 10] [9, 10] [⟨.normal, [], [.tmp 11 (.pt 11 [(0, 0)] 0 0 12), .tmp 12 (.int .i64), .box 11 [.int .i64, .int .i64, .int .i64, .int .i64, .int .i64, .int .i64, .int .i64, .int .i64, .int .i64, .int .i64, .bool, .int .i64]]⟩] (.two (.leaf) (.one (.two (.leaf) (.two (.leaf) (.two (.leaf) (.two (.leaf) (.two (.leaf) (.two (.two (.leaf) (.leaf)) (.two (.leaf) (.leaf))))))))))) (.two (.leaf) (.leaf)))))))
theorem s3 : SoundF cx.P cx.G 3 sg3 r3 := by
  have e : denF cx [(6, ⟨sg6, r6⟩), (7, ⟨sg7, r7⟩), (8, ⟨sg8, r8⟩), (9, ⟨sg9, r9⟩)] an3 Tryd.f3.ntmps (Tryd.f3.body.getD .skip) Tryd.f3.results.toList sg3 = r3 := by kernel_rfl
  rw [← e]
  exact sound_of_den (c := cx) (Known.cons s6 Tryd.func6 (by kernel_rfl) (by kernel_rfl) (Known.cons s7 Tryd.func7 (by kernel_rfl) (by kernel_rfl) (Known.cons s8 Tryd.func8 (by kernel_rfl) (by kernel_rfl) (Known.cons s9 Tryd.func9 (by kernel_rfl) (by kernel_rfl) (Known.nil))))) Tryd.func3 (by kernel_rfl) (Nat.le_of_ble_eq_true (by kernel_rfl))

/-! reredos/reredoskeep.messages -/
noncomputable def r10_L0 (a : ((Int × (List ((Int × Int)) × Int)) × (List ((Int × (Int × (Int × (Int × (Int × Int)))))) × Int))) : (Unit × (Int × List ((Int × (Int × (Int × ((Int × Int) × (Int × (Int × (Int × (Int × (Int × (Bool × Int))))))))))))) → Option ((Unit × (Int × List ((Int × (Int × (Int × ((Int × Int) × (Int × (Int × (Int × (Int × (Int × (Bool × Int))))))))))))) ⊕ (Unit × List ((Int × (Int × (Int × ((Int × Int) × (Int × (Int × (Int × (Int × (Int × (Bool × Int))))))))))))) := fun d5 =>
  Option.bind (
    bif decide (d5.2.1 < (↑a.2.1.length : Int)) then
      some (decide (d5.2.1 < a.2.2))
    else
      some false) fun (d6 : Bool) =>
    bif d6 then
      Option.bind (idxI a.2.1 d5.2.1) fun (b7 : (Int × (Int × (Int × (Int × (Int × Int)))))) =>
        Option.bind (r7 (a.1, b7)) fun (y8 : (Int × (Int × (Int × ((Int × Int) × (Int × (Int × (Int × (Int × (Int × (Bool × Int))))))))))) =>
          bif roomOk false d5.2.2.length 1 96 then
            some (Sum.inl ((), ((Go.IntKind.wrap .i64 (d5.2.1 + (1 : Int))), app d5.2.2 [y8])))
          else
            none
    else
      some (Sum.inr ((), d5.2.2))
def sg10 : Sig := ⟨[⟨true, .bo, (.pair (.int .i64) (.pair (.sl (.pair (.int .i64) (.int .i64))) (.int .i64)))⟩, ⟨false, .bo, (.sl (.pair (.int .i64) (.pair (.int .i64) (.pair (.int .i64) (.pair (.int .i64) (.pair (.int .i64) (.int .i64)))))))⟩, ⟨false, .bo, (.int .i64)⟩], [⟨false, .own, (.sl (.pair (.int .i64) (.pair (.int .i64) (.pair (.int .i64) (.pair (.pair (.int .i64) (.int .i64)) (.pair (.int .i64) (.pair (.int .i64) (.pair (.int .i64) (.pair (.int .i64) (.pair (.int .i64) (.pair .bool (.int .i64))))))))))))⟩]⟩
noncomputable def r10 : ((Int × (List ((Int × Int)) × Int)) × (List ((Int × (Int × (Int × (Int × (Int × Int)))))) × Int)) → Option (List ((Int × (Int × (Int × ((Int × Int) × (Int × (Int × (Int × (Int × (Int × (Bool × Int)))))))))))) := fun a =>
  Option.bind (loopR (r10_L0 a) ((), ((0 : Int), []))) fun (q9 : (Unit × List ((Int × (Int × (Int × ((Int × Int) × (Int × (Int × (Int × (Int × (Int × (Bool × Int))))))))))))) =>
    some q9.2
def an10 : Ann := .two (.leaf) (.two (.leaf) (.two (.two (.leaf) (.one (.loop [1, 2, 3] [3] [(7, (.pair (.int .i64) (.pair (.int .i64) (.pair (.int .i64) (.pair (.pair (.int .i64) (.int .i64)) (.pair (.int .i64) (.pair (.int .i64) (.pair (.int .i64) (.pair (.int .i64) (.pair (.int .i64) (.pair .bool (.int .i64))))))))))))] [.tmp 7 (.own 7 [(0, 0)] (.pair (.int .i64) (.pair (.int .i64) (.pair (.int .i64) (.pair (.pair (.int .i64) (.int .i64)) (.pair (.int .i64) (.pair (.int .i64) (.pair (.int .i64) (.pair (.int .i64) (.pair (.int .i64) (.pair .bool (.int .i64)))))))))))), .tmp 8 (.int .i64), .row 7 [.sl .own (.pair (.int .i64) (.pair (.int .i64) (.pair (.int .i64) (.pair (.pair (.int .i64) (.int .i64)) (.pair (.int .i64) (.pair (.int .i64) (.pair (.int .i64) (.pair (.int .i64) (.pair (.int .i64) (.pair .bool (.int .i64)))))))))))]] [⟨.exit 0, [], [.tmp 7 (.own 7 [(0, 0)] (.pair (.int .i64) (.pair (.int .i64) (.pair (.int .i64) (.pair (.pair (.int .i64) (.int .i64)) (.pair (.int .i64) (.pair (.int .i64) (.pair (.int .i64) (.pair (.int .i64) (.pair (.int .i64) (.pair .bool (.int .i64)))))))))))), .row 7 [.sl .own (.pair (.int .i64) (.pair (.int .i64) (.pair (.int .i64) (.pair (.pair (.int .i64) (.int .i64)) (.pair (.int .i64) (.pair (.int .i64) (.pair (.int .i64) (.pair (.int .i64) (.pair (.int .i64) (.pair .bool (.int .i64)))))))))))]]⟩] (.two (.two (.join [1, 2, 3, 7, 8] [3, 7] [⟨.normal, [], [.tmp 18 (.bool)]⟩] (.leaf)) (.two (.leaf) (.leaf))) (.two (.one (.two (.draw 7) (.leaf))) (.leaf)))))) (.two (.leaf) (.leaf))))
theorem s10 : SoundF cx.P cx.G 10 sg10 r10 := by
  have e : denF cx [(7, ⟨sg7, r7⟩)] an10 Tryd.f10.ntmps (Tryd.f10.body.getD .skip) Tryd.f10.results.toList sg10 = r10 := by kernel_rfl
  rw [← e]
  exact sound_of_den (c := cx) (Known.cons s7 Tryd.func7 (by kernel_rfl) (by kernel_rfl) (Known.nil)) Tryd.func10 (by kernel_rfl) (Nat.le_of_ble_eq_true (by kernel_rfl))

/-! reredos/net.Empty -/
def sg11 : Sig := ⟨[⟨true, .bo, (.pair (.int .i64) (.pair (.sl (.pair (.int .i64) (.int .i64))) (.int .i64)))⟩], [⟨false, .own, (.sl (.sl (.pair (.int .i64) (.pair (.int .i64) (.pair (.int .i64) (.pair (.pair (.int .i64) (.int .i64)) (.pair (.int .i64) (.pair (.int .i64) (.pair (.int .i64) (.pair (.int .i64) (.pair (.int .i64) (.pair .bool (.int .i64)))))))))))))⟩, ⟨false, .own, (.int .i64)⟩]⟩
noncomputable def r11 : (Int × (List ((Int × Int)) × Int)) → Option (List (List ((Int × (Int × (Int × ((Int × Int) × (Int × (Int × (Int × (Int × (Int × (Bool × Int)))))))))))) × Int) := fun a =>
  Option.bind (r18 a) fun (y1 : Int) =>
    bif !(decide (y1 = (0 : Int))) then
      some ([], y1)
    else
      bif (decide (0 ≤ (Go.IntKind.wrap .i64 (a.1 * a.1))) && (decide ((Go.IntKind.wrap .i64 (a.1 * a.1)) ≤ (Go.IntKind.wrap .i64 (a.1 * a.1))) && (decide ((24 : Int) * (Go.IntKind.wrap .i64 (a.1 * a.1)) ≤ 281474976710656) && decide ((Go.IntKind.wrap .i64 (a.1 * a.1)) ≤ 9223372036854775807)))) then
        some (List.replicate (Int.toNat (Go.IntKind.wrap .i64 (a.1 * a.1))) [], (0 : Int))
      else
        none
def an11 : Ann := .two (.leaf) (.two (.two (.leaf) (.two (.leaf) (.two (.two (.leaf) (.leaf)) (.leaf)))) (.two (.leaf) (.leaf)))
theorem s11 : SoundF cx.P cx.G 11 sg11 r11 := by
  have e : denF cx [(18, ⟨sg18, r18⟩)] an11 Tryd.f11.ntmps (Tryd.f11.body.getD .skip) Tryd.f11.results.toList sg11 = r11 := by kernel_rfl
  rw [← e]
  exact sound_of_den (c := cx) (Known.cons s18 Tryd.func18 (by kernel_rfl) (by kernel_rfl) (Known.nil)) Tryd.func11 (by kernel_rfl) (Nat.le_of_ble_eq_true (by kernel_rfl))

/-! reredos/net.Check -/
noncomputable def r14_L0 (b3 : List ((Int × (Int × (Int × ((Int × Int) × (Int × (Int × (Int × (Int × (Int × (Bool × Int)))))))))))) (a : ((Int × (List ((Int × Int)) × Int)) × List (List ((Int × (Int × (Int × ((Int × Int) × (Int × (Int × (Int × (Int × (Int × (Bool × Int)))))))))))))) (d2 : Int) : Int → Option (Int ⊕ (Unit ⊕ Int)) := fun d4 =>
  bif decide (d4 < (↑b3.length : Int)) then
    Option.bind (idxI b3 d4) fun (b5 : (Int × (Int × (Int × ((Int × Int) × (Int × (Int × (Int × (Int × (Int × (Bool × Int))))))))))) =>
      Option.bind (
        Option.bind (r9 (a.1, b5)) fun (y8 : Int) =>
          bif !(!(decide (y8 = (0 : Int)))) then
            bif decide (a.1.1 = 0) then
              none
            else
              bif !(!(decide (b5.2.1 = (Go.IntKind.wrap .i64 (Int.tdiv d2 a.1.1))))) then
                bif decide (a.1.1 = 0) then
                  none
                else
                  some (!(decide (b5.2.2.1 = (Int.tmod d2 a.1.1))))
              else
                some true
          else
            some true) fun (d9 : Bool) =>
        bif d9 then
          some (Sum.inr (Sum.inr (9 : Int)))
        else
          some (Sum.inl (Go.IntKind.wrap .i64 (d4 + (1 : Int))))
  else
    some (Sum.inr (Sum.inl ()))
noncomputable def r14_L1 (a : ((Int × (List ((Int × Int)) × Int)) × List (List ((Int × (Int × (Int × ((Int × Int) × (Int × (Int × (Int × (Int × (Int × (Bool × Int)))))))))))))) : Int → Option (Int ⊕ (Unit ⊕ Int)) := fun d2 =>
  bif decide (d2 < (↑a.2.length : Int)) then
    Option.bind (idxI a.2 d2) fun (b3 : List ((Int × (Int × (Int × ((Int × Int) × (Int × (Int × (Int × (Int × (Int × (Bool × Int)))))))))))) =>
      bif decide ((30 : Int) < (↑b3.length : Int)) then
        some (Sum.inr (Sum.inr (9 : Int)))
      else
        Option.bind (loopR (r14_L0 b3 a d2) (0 : Int)) fun (q10 : (Unit ⊕ Int)) =>
          Sum.elim (fun (v11 : Unit) =>
              some (Sum.inl (Go.IntKind.wrap .i64 (d2 + (1 : Int)))))
            (fun (v12 : Int) =>
              some (Sum.inr (Sum.inr v12))) q10
  else
    some (Sum.inr (Sum.inl ()))
def sg14 : Sig := ⟨[⟨true, .bo, (.pair (.int .i64) (.pair (.sl (.pair (.int .i64) (.int .i64))) (.int .i64)))⟩, ⟨false, .bo, (.sl (.sl (.pair (.int .i64) (.pair (.int .i64) (.pair (.int .i64) (.pair (.pair (.int .i64) (.int .i64)) (.pair (.int .i64) (.pair (.int .i64) (.pair (.int .i64) (.pair (.int .i64) (.pair (.int .i64) (.pair .bool (.int .i64)))))))))))))⟩], [⟨false, .own, (.int .i64)⟩]⟩
noncomputable def r14 : ((Int × (List ((Int × Int)) × Int)) × List (List ((Int × (Int × (Int × ((Int × Int) × (Int × (Int × (Int × (Int × (Int × (Bool × Int))))))))))))) → Option Int := fun a =>
  Option.bind (r18 a.1) fun (y1 : Int) =>
    bif !(decide (y1 = (0 : Int))) then
      some y1
    else
      bif !(decide ((↑a.2.length : Int) = (Go.IntKind.wrap .i64 (a.1.1 * a.1.1)))) then
        some (9 : Int)
      else
        Option.bind (loopR (r14_L1 a) (0 : Int)) fun (q13 : (Unit ⊕ Int)) =>
          Sum.elim (fun (v14 : Unit) =>
              some (0 : Int))
            (fun (v15 : Int) =>
              some v15) q13
def an14 : Ann := .two (.leaf) (.two (.two (.leaf) (.two (.leaf) (.two (.two (.leaf) (.leaf)) (.leaf)))) (.two (.two (.leaf) (.two (.two (.leaf) (.leaf)) (.leaf))) (.two (.two (.leaf) (.one (.loop [2, 23, 24] [2] [] [.tmp 25 (.int .i64)] [⟨.exit 0, [], []⟩, ⟨.ret, [], [.tmp 4 (.int .i64)]⟩] (.two (.leaf) (.two (.two (.leaf) (.leaf)) (.two (.one (.two (.leaf) (.two (.two (.leaf) (.two (.two (.leaf) (.leaf)) (.leaf))) (.two (.leaf) (.one (.loop [2, 6, 23, 24, 25, 33, 34] [2] [] [.tmp 35 (.int .i64)] [⟨.exit 2, [], []⟩, ⟨.ret, [], [.tmp 4 (.int .i64)]⟩] (.two (.leaf) (.two (.two (.leaf) (.leaf)) (.two (.one (.two (.leaf) (.two (.join [2, 6, 23, 24, 25, 33, 34, 35] [2] [⟨.normal, [], [.tmp 60 (.bool)]⟩] (.draw 20)) (.two (.two (.leaf) (.leaf)) (.leaf))))) (.leaf)))))))))) (.leaf))))))) (.two (.leaf) (.leaf)))))
theorem s14 : SoundF cx.P cx.G 14 sg14 r14 := by
  have e : denF cx [(9, ⟨sg9, r9⟩), (18, ⟨sg18, r18⟩)] an14 Tryd.f14.ntmps (Tryd.f14.body.getD .skip) Tryd.f14.results.toList sg14 = r14 := by kernel_rfl
  rw [← e]
  exact sound_of_den (c := cx) (Known.cons s9 Tryd.func9 (by kernel_rfl) (by kernel_rfl) (Known.cons s18 Tryd.func18 (by kernel_rfl) (by kernel_rfl) (Known.nil))) Tryd.func14 (by kernel_rfl) (Nat.le_of_ble_eq_true (by kernel_rfl))

/-! slices.Clone[[]reredos/api.Message,reredos/api.Message] -/
def sg27 : Sig := ⟨[⟨false, .bo, (.sl (.pair (.int .i64) (.pair (.int .i64) (.pair (.int .i64) (.pair (.pair (.int .i64) (.int .i64)) (.pair (.int .i64) (.pair (.int .i64) (.pair (.int .i64) (.pair (.int .i64) (.pair (.int .i64) (.pair .bool (.int .i64))))))))))))⟩], [⟨false, .own, (.sl (.pair (.int .i64) (.pair (.int .i64) (.pair (.int .i64) (.pair (.pair (.int .i64) (.int .i64)) (.pair (.int .i64) (.pair (.int .i64) (.pair (.int .i64) (.pair (.int .i64) (.pair (.int .i64) (.pair .bool (.int .i64))))))))))))⟩]⟩
noncomputable def r27 : List ((Int × (Int × (Int × ((Int × Int) × (Int × (Int × (Int × (Int × (Int × (Bool × Int))))))))))) → Option (List ((Int × (Int × (Int × ((Int × Int) × (Int × (Int × (Int × (Int × (Int × (Bool × Int)))))))))))) := fun a =>
  nilR a fun (n1 : Bool) =>
    bif n1 then
      some []
    else
      bif roomOk false 0 a.length 96 then
        some a
      else
        none
def an27 : Ann := .two (.leaf) (.two (.two (.leaf) (.two (.two (.leaf) (.leaf)) (.leaf))) (.two (.leaf) (.leaf)))
theorem s27 : SoundF cx.P cx.G 27 sg27 r27 := by
  have e : denF cx [] an27 Tryd.f27.ntmps (Tryd.f27.body.getD .skip) Tryd.f27.results.toList sg27 = r27 := by kernel_rfl
  rw [← e]
  exact sound_of_den (c := cx) (Known.nil) Tryd.func27 (by kernel_rfl) (Nat.le_of_ble_eq_true (by kernel_rfl))

/-! reredos/net.own -/
noncomputable def r24_L0 (a : List (List ((Int × (Int × (Int × ((Int × Int) × (Int × (Int × (Int × (Int × (Int × (Bool × Int))))))))))))) : (Unit × (Int × List (List ((Int × (Int × (Int × ((Int × Int) × (Int × (Int × (Int × (Int × (Int × (Bool × Int)))))))))))))) → Option ((Unit × (Int × List (List ((Int × (Int × (Int × ((Int × Int) × (Int × (Int × (Int × (Int × (Int × (Bool × Int)))))))))))))) ⊕ (Unit × List (List ((Int × (Int × (Int × ((Int × Int) × (Int × (Int × (Int × (Int × (Int × (Bool × Int)))))))))))))) := fun d4 =>
  bif decide (d4.2.1 < (↑a.length : Int)) then
    Option.bind (idxI a d4.2.1) fun (b5 : List ((Int × (Int × (Int × ((Int × Int) × (Int × (Int × (Int × (Int × (Int × (Bool × Int)))))))))))) =>
      Option.bind (r27 b5) fun (y6 : List ((Int × (Int × (Int × ((Int × Int) × (Int × (Int × (Int × (Int × (Int × (Bool × Int)))))))))))) =>
        bif roomOk false d4.2.2.length 1 24 then
          some (Sum.inl ((), ((Go.IntKind.wrap .i64 (d4.2.1 + (1 : Int))), app d4.2.2 [y6])))
        else
          none
  else
    some (Sum.inr ((), d4.2.2))
def sg24 : Sig := ⟨[⟨false, .bo, (.sl (.sl (.pair (.int .i64) (.pair (.int .i64) (.pair (.int .i64) (.pair (.pair (.int .i64) (.int .i64)) (.pair (.int .i64) (.pair (.int .i64) (.pair (.int .i64) (.pair (.int .i64) (.pair (.int .i64) (.pair .bool (.int .i64)))))))))))))⟩], [⟨false, .own, (.sl (.sl (.pair (.int .i64) (.pair (.int .i64) (.pair (.int .i64) (.pair (.pair (.int .i64) (.int .i64)) (.pair (.int .i64) (.pair (.int .i64) (.pair (.int .i64) (.pair (.int .i64) (.pair (.int .i64) (.pair .bool (.int .i64)))))))))))))⟩]⟩
noncomputable def r24 : List (List ((Int × (Int × (Int × ((Int × Int) × (Int × (Int × (Int × (Int × (Int × (Bool × Int)))))))))))) → Option (List (List ((Int × (Int × (Int × ((Int × Int) × (Int × (Int × (Int × (Int × (Int × (Bool × Int))))))))))))) := fun a =>
  Option.bind (loopR (r24_L0 a) ((), ((0 : Int), []))) fun (q7 : (Unit × List (List ((Int × (Int × (Int × ((Int × Int) × (Int × (Int × (Int × (Int × (Int × (Bool × Int)))))))))))))) =>
    some q7.2
def an24 : Ann := .two (.leaf) (.two (.leaf) (.two (.two (.leaf) (.one (.loop [6, 7] [] [(3, (.sl (.pair (.int .i64) (.pair (.int .i64) (.pair (.int .i64) (.pair (.pair (.int .i64) (.int .i64)) (.pair (.int .i64) (.pair (.int .i64) (.pair (.int .i64) (.pair (.int .i64) (.pair (.int .i64) (.pair .bool (.int .i64)))))))))))))] [.tmp 3 (.own 3 [(0, 0)] (.sl (.pair (.int .i64) (.pair (.int .i64) (.pair (.int .i64) (.pair (.pair (.int .i64) (.int .i64)) (.pair (.int .i64) (.pair (.int .i64) (.pair (.int .i64) (.pair (.int .i64) (.pair (.int .i64) (.pair .bool (.int .i64))))))))))))), .tmp 8 (.int .i64), .row 3 [.sl .own (.sl (.pair (.int .i64) (.pair (.int .i64) (.pair (.int .i64) (.pair (.pair (.int .i64) (.int .i64)) (.pair (.int .i64) (.pair (.int .i64) (.pair (.int .i64) (.pair (.int .i64) (.pair (.int .i64) (.pair .bool (.int .i64))))))))))))]] [⟨.exit 0, [], [.tmp 3 (.own 3 [(0, 0)] (.sl (.pair (.int .i64) (.pair (.int .i64) (.pair (.int .i64) (.pair (.pair (.int .i64) (.int .i64)) (.pair (.int .i64) (.pair (.int .i64) (.pair (.int .i64) (.pair (.int .i64) (.pair (.int .i64) (.pair .bool (.int .i64))))))))))))), .row 3 [.sl .own (.sl (.pair (.int .i64) (.pair (.int .i64) (.pair (.int .i64) (.pair (.pair (.int .i64) (.int .i64)) (.pair (.int .i64) (.pair (.int .i64) (.pair (.int .i64) (.pair (.int .i64) (.pair (.int .i64) (.pair .bool (.int .i64))))))))))))]]⟩] (.two (.leaf) (.two (.two (.leaf) (.leaf)) (.two (.one (.two (.leaf) (.leaf))) (.leaf))))))) (.two (.leaf) (.leaf))))
theorem s24 : SoundF cx.P cx.G 24 sg24 r24 := by
  have e : denF cx [(27, ⟨sg27, r27⟩)] an24 Tryd.f24.ntmps (Tryd.f24.body.getD .skip) Tryd.f24.results.toList sg24 = r24 := by kernel_rfl
  rw [← e]
  exact sound_of_den (c := cx) (Known.cons s27 Tryd.func27 (by kernel_rfl) (by kernel_rfl) (Known.nil)) Tryd.func24 (by kernel_rfl) (Nat.le_of_ble_eq_true (by kernel_rfl))

/-! reredos/reredoskeep.count -/
noncomputable def r13_L0 (a : List (List ((Int × (Int × (Int × ((Int × Int) × (Int × (Int × (Int × (Int × (Int × (Bool × Int))))))))))))) : (Int × Int) → Option ((Int × Int) ⊕ Int) := fun d1 =>
  bif decide (d1.2 < (↑a.length : Int)) then
    Option.bind (idxI a d1.2) fun (b2 : List ((Int × (Int × (Int × ((Int × Int) × (Int × (Int × (Int × (Int × (Int × (Bool × Int)))))))))))) =>
      some (Sum.inl ((Go.IntKind.wrap .i64 (d1.1 + (↑b2.length : Int))), (Go.IntKind.wrap .i64 (d1.2 + (1 : Int)))))
  else
    some (Sum.inr d1.1)
def sg13 : Sig := ⟨[⟨false, .bo, (.sl (.sl (.pair (.int .i64) (.pair (.int .i64) (.pair (.int .i64) (.pair (.pair (.int .i64) (.int .i64)) (.pair (.int .i64) (.pair (.int .i64) (.pair (.int .i64) (.pair (.int .i64) (.pair (.int .i64) (.pair .bool (.int .i64)))))))))))))⟩], [⟨false, .own, (.int .i64)⟩]⟩
noncomputable def r13 : List (List ((Int × (Int × (Int × ((Int × Int) × (Int × (Int × (Int × (Int × (Int × (Bool × Int)))))))))))) → Option Int := fun a =>
  Option.bind (loopR (r13_L0 a) ((0 : Int), (0 : Int))) fun (q3 : Int) =>
    some q3
def an13 : Ann := .two (.leaf) (.two (.leaf) (.two (.two (.leaf) (.one (.loop [6, 7] [] [] [.tmp 3 (.int .i64), .tmp 8 (.int .i64)] [⟨.exit 0, [], [.tmp 3 (.int .i64)]⟩] (.two (.leaf) (.two (.two (.leaf) (.leaf)) (.two (.one (.two (.leaf) (.leaf))) (.leaf))))))) (.two (.leaf) (.leaf))))
theorem s13 : SoundF cx.P cx.G 13 sg13 r13 := by
  have e : denF cx [] an13 Tryd.f13.ntmps (Tryd.f13.body.getD .skip) Tryd.f13.results.toList sg13 = r13 := by kernel_rfl
  rw [← e]
  exact sound_of_den (c := cx) (Known.nil) Tryd.func13 (by kernel_rfl) (Nat.le_of_ble_eq_true (by kernel_rfl))

end Go.Hd
