/- What the functions compute: written by gen.py. -/
import Derived.Test.YtohfplomliampaaDoorRvThirtySeven
import Derived.Test.YtohfplomliampaaDoorProg
import Derived.KernelRfl
namespace Go.Hg
open Go.RowKit Go.Proofs Go.V
def tys : List (Nat × TyInfo) := [
  (3, ⟨.int .i64, 1, 8, [.int .i64 0], false, [none], [none], (.int .i64)⟩),
  (4, ⟨.bool, 1, 1, [.bool false], false, [none], [none], .bool⟩),
  (5, ⟨.int .u8, 1, 1, [.int .u8 0], false, [none], [none], (.int .u8)⟩),
  (9, ⟨.str, 1, 16, [.string ⟨#[]⟩], false, [none], [none], .str⟩),
  (22, ⟨.sl 3, 1, 24, [.slice none 0 0], false, [some (.int .i64)], [none], (.sl (.int .i64))⟩),
  (24, ⟨.sl 82, 1, 24, [.slice none 0 0], false, [some (.pair (.int .i64) (.int .i64))], [none], (.sl (.pair (.int .i64) (.int .i64)))⟩),
  (26, ⟨.st [(0, 3), (1, 24), (2, 3)], 3, 40, [.int .i64 0, .slice none 0 0, .int .i64 0], false, [none, some (.pair (.int .i64) (.int .i64)), none], [none, none, none], (.pair (.int .i64) (.pair (.rsl (.pair (.int .i64) (.int .i64))) (.int .i64)))⟩),
  (31, ⟨.int .i64, 1, 8, [.int .i64 0], false, [none], [none], (.int .i64)⟩),
  (36, ⟨.st [(0, 3), (1, 3)], 2, 16, [.int .i64 0, .int .i64 0], true, [none, none], [none, none], (.pair (.int .i64) (.int .i64))⟩),
  (45, ⟨.st [(0, 3), (1, 3), (2, 3), (3, 3), (4, 3), (5, 3)], 6, 48, [.int .i64 0, .int .i64 0, .int .i64 0, .int .i64 0, .int .i64 0, .int .i64 0], false, [none, none, none, none, none, none], [none, none, none, none, none, none], (.pair (.int .i64) (.pair (.int .i64) (.pair (.int .i64) (.pair (.int .i64) (.pair (.int .i64) (.int .i64))))))⟩),
  (47, ⟨.st [(0, 3), (1, 36), (3, 3), (4, 3), (5, 3), (6, 4), (7, 22)], 8, 80, [.int .i64 0, .int .i64 0, .int .i64 0, .int .i64 0, .int .i64 0, .int .i64 0, .bool false, .slice none 0 0], false, [none, none, none, none, none, none, none, some (.int .i64)], [none, none, none, none, none, none, none, none], (.pair (.int .i64) (.pair (.pair (.int .i64) (.int .i64)) (.pair (.int .i64) (.pair (.int .i64) (.pair (.int .i64) (.pair .bool (.rsl (.int .i64))))))))⟩),
  (49, ⟨.sl 5, 1, 24, [.slice none 0 0], false, [some (.int .u8)], [none], (.sl (.int .u8))⟩),
  (82, ⟨.st [(0, 3), (1, 3)], 2, 16, [.int .i64 0, .int .i64 0], true, [none, none], [none, none], (.pair (.int .i64) (.int .i64))⟩),
  (92, ⟨.st [(0, 49)], 1, 24, [.slice none 0 0], false, [some (.int .u8)], [none], (.rsl (.int .u8))⟩),
  (96, ⟨.st [(0, 4), (1, 4), (2, 4), (3, 4), (4, 4), (5, 4), (6, 4), (7, 4)], 8, 8, [.bool false, .bool false, .bool false, .bool false, .bool false, .bool false, .bool false, .bool false], false, [none, none, none, none, none, none, none, none], [none, none, none, none, none, none, none, none], (.pair .bool (.pair .bool (.pair .bool (.pair .bool (.pair .bool (.pair .bool (.pair .bool .bool)))))))⟩),
  (97, ⟨.arr 7 96, 56, 56, [.bool false, .bool false, .bool false, .bool false, .bool false, .bool false, .bool false, .bool false, .bool false, .bool false, .bool false, .bool false, .bool false, .bool false, .bool false, .bool false, .bool false, .bool false, .bool false, .bool false, .bool false, .bool false, .bool false, .bool false, .bool false, .bool false, .bool false, .bool false, .bool false, .bool false, .bool false, .bool false, .bool false, .bool false, .bool false, .bool false, .bool false, .bool false, .bool false, .bool false, .bool false, .bool false, .bool false, .bool false, .bool false, .bool false, .bool false, .bool false, .bool false, .bool false, .bool false, .bool false, .bool false, .bool false, .bool false, .bool false], false, [none, none, none, none, none, none, none, none, none, none, none, none, none, none, none, none, none, none, none, none, none, none, none, none, none, none, none, none, none, none, none, none, none, none, none, none, none, none, none, none, none, none, none, none, none, none, none, none, none, none, none, none, none, none, none, none], [none, none, none, none, none, none, none, none, none, none, none, none, none, none, none, none, none, none, none, none, none, none, none, none, none, none, none, none, none, none, none, none, none, none, none, none, none, none, none, none, none, none, none, none, none, none, none, none, none, none, none, none, none, none, none, none], .unit⟩),
  (104, ⟨.st [(0, 49), (1, 31)], 2, 32, [.slice none 0 0, .int .i64 0], false, [some (.int .u8), none], [none, none], (.pair (.rsl (.int .u8)) (.int .i64))⟩),
  (110, ⟨.arr 10 96, 80, 80, [.bool false, .bool false, .bool false, .bool false, .bool false, .bool false, .bool false, .bool false, .bool false, .bool false, .bool false, .bool false, .bool false, .bool false, .bool false, .bool false, .bool false, .bool false, .bool false, .bool false, .bool false, .bool false, .bool false, .bool false, .bool false, .bool false, .bool false, .bool false, .bool false, .bool false, .bool false, .bool false, .bool false, .bool false, .bool false, .bool false, .bool false, .bool false, .bool false, .bool false, .bool false, .bool false, .bool false, .bool false, .bool false, .bool false, .bool false, .bool false, .bool false, .bool false, .bool false, .bool false, .bool false, .bool false, .bool false, .bool false, .bool false, .bool false, .bool false, .bool false, .bool false, .bool false, .bool false, .bool false, .bool false, .bool false, .bool false, .bool false, .bool false, .bool false, .bool false, .bool false, .bool false, .bool false, .bool false, .bool false, .bool false, .bool false, .bool false, .bool false], false, [none, none, none, none, none, none, none, none, none, none, none, none, none, none, none, none, none, none, none, none, none, none, none, none, none, none, none, none, none, none, none, none, none, none, none, none, none, none, none, none, none, none, none, none, none, none, none, none, none, none, none, none, none, none, none, none, none, none, none, none, none, none, none, none, none, none, none, none, none, none, none, none, none, none, none, none, none, none, none, none], [none, none, none, none, none, none, none, none, none, none, none, none, none, none, none, none, none, none, none, none, none, none, none, none, none, none, none, none, none, none, none, none, none, none, none, none, none, none, none, none, none, none, none, none, none, none, none, none, none, none, none, none, none, none, none, none, none, none, none, none, none, none, none, none, none, none, none, none, none, none, none, none, none, none, none, none, none, none, none, none], .unit⟩)]
theorem tysOk : TyOk Tryd.prog tys := tyOk_of fun e he => by
  simp only [tys, List.mem_cons, List.not_mem_nil, or_false] at he
  rcases he with rfl | rfl | rfl | rfl | rfl | rfl | rfl | rfl | rfl | rfl | rfl | rfl | rfl | rfl | rfl | rfl | rfl | rfl
  · exact ⟨by kernel_rfl, by kernel_rfl, fun h => nomatch h⟩
  · exact ⟨by kernel_rfl, by kernel_rfl, fun h => nomatch h⟩
  · exact ⟨by kernel_rfl, by kernel_rfl, fun h => nomatch h⟩
  · exact ⟨by kernel_rfl, by kernel_rfl, fun h => nomatch h⟩
  · exact ⟨by kernel_rfl, by kernel_rfl, fun h => nomatch h⟩
  · exact ⟨by kernel_rfl, by kernel_rfl, fun h => nomatch h⟩
  · exact ⟨by kernel_rfl, by kernel_rfl, fun h => nomatch h⟩
  · exact ⟨by kernel_rfl, by kernel_rfl, fun h => nomatch h⟩
  · exact ⟨by kernel_rfl, by kernel_rfl, fun _ => ⟨by kernel_rfl, by kernel_rfl, by kernel_rfl⟩⟩
  · exact ⟨by kernel_rfl, by kernel_rfl, fun h => nomatch h⟩
  · exact ⟨by kernel_rfl, by kernel_rfl, fun h => nomatch h⟩
  · exact ⟨by kernel_rfl, by kernel_rfl, fun h => nomatch h⟩
  · exact ⟨by kernel_rfl, by kernel_rfl, fun _ => ⟨by kernel_rfl, by kernel_rfl, by kernel_rfl⟩⟩
  · exact ⟨by kernel_rfl, by kernel_rfl, fun h => nomatch h⟩
  · exact ⟨by kernel_rfl, by kernel_rfl, fun h => nomatch h⟩
  · exact ⟨by kernel_rfl, by kernel_rfl, fun h => nomatch h⟩
  · exact ⟨by kernel_rfl, by kernel_rfl, fun h => nomatch h⟩
  · exact ⟨by kernel_rfl, by kernel_rfl, fun h => nomatch h⟩
def tab0 : List (Bool × (Bool × (Bool × (Bool × (Bool × (Bool × (Bool × Bool))))))) := [(false, (false, (false, (false, (false, (false, (false, false))))))),
  (false, (true, (true, (false, (true, (false, (false, false))))))),
  (false, (false, (false, (false, (false, (true, (false, false))))))),
  (false, (false, (false, (false, (false, (false, (false, true))))))),
  (false, (false, (false, (false, (false, (false, (false, false))))))),
  (false, (false, (false, (false, (false, (false, (false, false))))))),
  (false, (false, (false, (false, (false, (true, (false, false)))))))]
def tab1 : List (Bool × (Bool × (Bool × (Bool × (Bool × (Bool × (Bool × Bool))))))) := [(false, (false, (false, (false, (false, (false, (false, false))))))),
  (true, (true, (false, (false, (true, (false, (false, false))))))),
  (false, (true, (true, (false, (true, (false, (false, false))))))),
  (true, (true, (false, (true, (false, (false, (false, false))))))),
  (false, (false, (false, (false, (false, (true, (false, false))))))),
  (true, (true, (true, (true, (true, (false, (true, false))))))),
  (false, (true, (false, (false, (true, (false, (true, false))))))),
  (true, (true, (false, (true, (false, (true, (false, false))))))),
  (false, (false, (false, (false, (false, (false, (false, false))))))),
  (false, (false, (false, (false, (false, (false, (false, false)))))))]
noncomputable def cx : Ctx := ⟨Tryd.prog, tys, tysOk, [(0, .ga (.pair .bool (.pair .bool (.pair .bool (.pair .bool (.pair .bool (.pair .bool (.pair .bool .bool))))))) tab0)], by kernel_rfl⟩

/-! reredos/reredoskeep.picked -/
def sg19 : Sig := ⟨[⟨false, .bo, (.int .i64)⟩, ⟨false, .bo, (.int .i64)⟩], [⟨false, .own, (.int .i64)⟩]⟩
noncomputable def r19 : (Int × Int) → Option Int := fun a =>
  Option.bind (
    bif decide (a.1 < (0 : Int)) then
      some (Go.IntKind.wrap .i64 (0 - (Go.IntKind.wrap .i64 (a.1 + (1 : Int)))))
    else
      some a.1) fun (d1 : Int) =>
    bif decide (a.2 = 0) then
      none
    else
      some (Int.tmod d1 a.2)
def an19 : Ann := .two (.leaf) (.two (.join [1] [] [⟨.normal, [], [.tmp 0 (.int .i64)]⟩] (.two (.leaf) (.two (.leaf) (.leaf)))) (.two (.leaf) (.leaf)))
theorem s19 : SoundF cx.P cx.G 19 sg19 r19 := by
  have e : denF cx [] an19 Tryd.f19.ntmps (Tryd.f19.body.getD .skip) Tryd.f19.results.toList sg19 = r19 := by kernel_rfl
  rw [← e]
  exact sound_of_den (c := cx) (Known.nil) Tryd.func19 (by kernel_rfl) (Nat.le_of_ble_eq_true (by kernel_rfl))

/-! reredos/reredoskeep.Lab -/
def sg37 : Sig := ⟨[⟨false, .bo, (.int .i64)⟩], [⟨true, .own, (.pair (.int .i64) (.int .i64))⟩]⟩
noncomputable def r37 : Int → Option (Int × Int) := fun a =>
  Option.bind (r19 (a, (3 : Int))) fun (y1 : Int) =>
    Option.bind (r19 ((Go.IntKind.wrap .i64 (Int.tdiv a (3 : Int))), (4 : Int))) fun (y2 : Int) =>
      some (y1, y2)
def an37 : Ann := .two (.leaf) (.two (.leaf) (.leaf))
theorem s37 : SoundF cx.P cx.G 37 sg37 r37 := by
  have e : denF cx [(19, ⟨sg19, r19⟩)] an37 Tryd.f37.ntmps (Tryd.f37.body.getD .skip) Tryd.f37.results.toList sg37 = r37 := by kernel_rfl
  rw [← e]
  exact sound_of_den (c := cx) (Known.cons (.ofF s19 (by kernel_rfl)) Tryd.func19 (by kernel_rfl) (by kernel_rfl) (Known.nil)) Tryd.func37 (by kernel_rfl) (Nat.le_of_ble_eq_true (by kernel_rfl))

/-! reredos/reredoskeep.Config -/
noncomputable def r14_L0 (d30 : (Unit × (Int × (Int × (List ((Int × Int)) × Int))))) (y49 : (Int × Int)) : (Bool × Int) → Option ((Bool × Int) ⊕ Bool) := fun d50 =>
  bif decide (d50.2 < (↑d30.2.2.2.1.length : Int)) then
    Option.bind (
      bif inB d50.2 d30.2.2.2.1.length then
        Option.bind (idxN d30.2.2.2.1 (Int.toNat d50.2)) fun (x53 : (Int × Int)) =>
          bif !(d50.1) then
            some (decide (x53.1 = y49.1) && (decide (x53.2 = y49.2) && true))
          else
            some true
      else
        none) fun (d54 : Bool) =>
      some (Sum.inl (d54, (Go.IntKind.wrap .i64 (d50.2 + (1 : Int)))))
  else
    some (Sum.inr d50.1)
noncomputable def r14_L1 (a : (Int × (List Int × Int))) : (Unit × (Int × (Int × (List ((Int × Int)) × Int)))) → Option ((Unit × (Int × (Int × (List ((Int × Int)) × Int)))) ⊕ (Unit × (Int × (List ((Int × Int)) × Int)))) := fun d30 =>
  Option.bind (
    bif decide (d30.2.1 < (↑a.2.1.length : Int)) then
      some (decide ((↑d30.2.2.2.1.length : Int) < (4 : Int)))
    else
      some false) fun (d31 : Bool) =>
    bif d31 then
      Option.bind (
        Option.bind (idxI a.2.1 d30.2.1) fun (b48 : Int) =>
          Option.bind (r37 b48) fun (y49 : (Int × Int)) =>
            Option.bind (loopR (r14_L0 d30 y49) (false, (0 : Int))) fun (q55 : Bool) =>
              bif !(q55) then
                bif roomOk false d30.2.2.2.1.length 1 16 then
                  some ((), (d30.2.2.1, (app d30.2.2.2.1 [y49], d30.2.2.2.2)))
                else
                  none
              else
                some ((), d30.2.2)) fun (d56 : (Unit × (Int × (List ((Int × Int)) × Int)))) =>
        some (Sum.inl ((), ((Go.IntKind.wrap .i64 (d30.2.1 + (1 : Int))), d56.2)))
    else
      some (Sum.inr ((), d30.2.2))
def sg14 : Sig := ⟨[⟨false, .bo, (.int .i64)⟩, ⟨false, .bo, (.sl (.int .i64))⟩, ⟨false, .bo, (.int .i64)⟩], [⟨true, .ro, (.pair (.int .i64) (.pair (.sl (.pair (.int .i64) (.int .i64))) (.int .i64)))⟩]⟩
noncomputable def r14 : (Int × (List Int × Int)) → Option (Int × (List ((Int × Int)) × Int)) := fun a =>
  Option.bind (r19 (a.1, (3 : Int))) fun (y1 : Int) =>
    Option.bind (r19 (a.2.2, (4 : Int))) fun (y2 : Int) =>
      Option.bind (loopR (r14_L1 a) ((), ((0 : Int), ((Go.IntKind.wrap .i64 ((1 : Int) + y1)), ([], (Go.IntKind.wrap .i64 ((1 : Int) + y2))))))) fun (q57 : (Unit × (Int × (List ((Int × Int)) × Int)))) =>
        Option.bind (
          bif decide ((↑q57.2.2.1.length : Int) = (0 : Int)) then
            some ((), (q57.2.1, ([((0 : Int), (0 : Int))], q57.2.2.2)))
          else
            some ((), q57.2)) fun (d58 : (Unit × (Int × (List ((Int × Int)) × Int)))) =>
          some d58.2
def an14 : Ann := .two (.leaf) (.two (.leaf) (.two (.two (.leaf) (.one (.loop [1, 6] [6] [] [.tmp 7 (.pt 7 [(0, 0)] 0 0 3), .tmp 8 (.int .i64), .box 7 [.int .i64, .sl .own (.pair (.int .i64) (.int .i64)), .int .i64]] [⟨.exit 0, [], [.tmp 7 (.pt 7 [(0, 0)] 0 0 3), .box 7 [.int .i64, .sl .own (.pair (.int .i64) (.int .i64)), .int .i64]]⟩] (.two (.two (.join [1, 6, 7, 8] [6, 7] [⟨.normal, [], [.tmp 29 (.bool)]⟩] (.leaf)) (.two (.leaf) (.leaf))) (.two (.join [1, 6, 8] [6] [⟨.normal, [], [.tmp 7 (.pt 7 [(0, 0)] 0 0 3), .box 7 [.int .i64, .sl .own (.pair (.int .i64) (.int .i64)), .int .i64]]⟩] (.one (.two (.leaf) (.two (.leaf) (.two (.two (.leaf) (.one (.loop [1, 6, 7, 8, 9, 38, 39] [6, 7, 9] [] [.tmp 10 (.bool), .tmp 40 (.int .i64)] [⟨.exit 2, [], [.tmp 10 (.bool)]⟩] (.two (.leaf) (.two (.two (.leaf) (.leaf)) (.two (.join [1, 6, 7, 8, 9, 38, 39, 40] [6, 7, 9] [⟨.normal, [], [.tmp 10 (.bool)]⟩] (.one (.two (.leaf) (.leaf)))) (.leaf))))))) (.two (.leaf) (.two (.leaf) (.leaf)))))))) (.leaf)))))) (.two (.join [6] [6] [⟨.normal, [], [.tmp 7 (.pt 7 [(0, 0)] 0 0 3), .box 7 [.int .i64, .sl .own (.pair (.int .i64) (.int .i64)), .int .i64]]⟩] (.two (.leaf) (.two (.leaf) (.leaf)))) (.two (.leaf) (.leaf)))))
theorem s14 : SoundF cx.P cx.G 14 sg14 r14 := by
  have e : denF cx [(19, ⟨sg19, r19⟩), (37, ⟨sg37, r37⟩)] an14 Tryd.f14.ntmps (Tryd.f14.body.getD .skip) Tryd.f14.results.toList sg14 = r14 := by kernel_rfl
  rw [← e]
  exact sound_of_den (c := cx) (Known.cons (.ofF s19 (by kernel_rfl)) Tryd.func19 (by kernel_rfl) (by kernel_rfl) (Known.cons (.ofF s37 (by kernel_rfl)) Tryd.func37 (by kernel_rfl) (by kernel_rfl) (Known.nil))) Tryd.func14 (by kernel_rfl) (Nat.le_of_ble_eq_true (by kernel_rfl))

/-! reredos/reredoskeep.Txn -/
def sg42 : Sig := ⟨[⟨true, .bo, (.pair (.int .i64) (.pair (.sl (.pair (.int .i64) (.int .i64))) (.int .i64)))⟩, ⟨false, .bo, (.int .i64)⟩, ⟨false, .bo, (.int .i64)⟩], [⟨true, .own, (.pair (.int .i64) (.int .i64))⟩]⟩
noncomputable def r42 : ((Int × (List ((Int × Int)) × Int)) × (Int × Int)) → Option (Int × Int) := fun a =>
  Option.bind (r19 (a.2.1, a.1.1)) fun (y1 : Int) =>
    Option.bind (r19 (a.2.2, (6 : Int))) fun (y2 : Int) =>
      some (y1, (Go.IntKind.wrap .i64 ((1 : Int) + y2)))
def an42 : Ann := .two (.leaf) (.two (.leaf) (.leaf))
theorem s42 : SoundF cx.P cx.G 42 sg42 r42 := by
  have e : denF cx [(19, ⟨sg19, r19⟩)] an42 Tryd.f42.ntmps (Tryd.f42.body.getD .skip) Tryd.f42.results.toList sg42 = r42 := by kernel_rfl
  rw [← e]
  exact sound_of_den (c := cx) (Known.cons (.ofF s19 (by kernel_rfl)) Tryd.func19 (by kernel_rfl) (by kernel_rfl) (Known.nil)) Tryd.func42 (by kernel_rfl) (Nat.le_of_ble_eq_true (by kernel_rfl))

/-! reredos/reredoskeep.Record -/
noncomputable def r21_L0 (a : ((Int × (List ((Int × Int)) × Int)) × (Int × (Int × (Int × (Int × (Int × Int))))))) : (Unit × (Int × (Int × (Int × (Int × (Int × (Int × (Int × (Bool × List Int))))))))) → Option ((Unit × (Int × (Int × (Int × (Int × (Int × (Int × (Int × (Bool × List Int))))))))) ⊕ (Unit × (Int × (Int × (Int × (Int × (Int × (Int × (Bool × List Int))))))))) := fun d47 =>
  bif decide (d47.2.1 < a.1.1) then
    Option.bind (
      Option.bind (r19 (a.2.2.2.2.1, (16 : Int))) fun (y50 : Int) =>
        bif decide (d47.2.1 < 0) then
          none
        else
          bif decide ((Int.tmod (Int.fdiv y50 (2 ^ (min (Int.toNat d47.2.1) (Go.IntKind.bits .i64)))) (2 : Int)) = (1 : Int)) then
            bif roomOk false d47.2.2.2.2.2.2.2.2.2.length 1 8 then
              some ((), (d47.2.2.1, (d47.2.2.2.1, (d47.2.2.2.2.1, (d47.2.2.2.2.2.1, (d47.2.2.2.2.2.2.1, (d47.2.2.2.2.2.2.2.1, (d47.2.2.2.2.2.2.2.2.1, app d47.2.2.2.2.2.2.2.2.2 [d47.2.1]))))))))
            else
              none
          else
            some ((), d47.2.2)) fun (d51 : (Unit × (Int × (Int × (Int × (Int × (Int × (Int × (Bool × List Int))))))))) =>
      some (Sum.inl ((), ((Go.IntKind.wrap .i64 (d47.2.1 + (1 : Int))), d51.2)))
  else
    some (Sum.inr ((), d47.2.2))
def sg21 : Sig := ⟨[⟨true, .bo, (.pair (.int .i64) (.pair (.sl (.pair (.int .i64) (.int .i64))) (.int .i64)))⟩, ⟨true, .bo, (.pair (.int .i64) (.pair (.int .i64) (.pair (.int .i64) (.pair (.int .i64) (.pair (.int .i64) (.int .i64))))))⟩], [⟨true, .ro, (.pair (.int .i64) (.pair (.pair (.int .i64) (.int .i64)) (.pair (.int .i64) (.pair (.int .i64) (.pair (.int .i64) (.pair .bool (.sl (.int .i64))))))))⟩]⟩
noncomputable def r21 : ((Int × (List ((Int × Int)) × Int)) × (Int × (Int × (Int × (Int × (Int × Int)))))) → Option (Int × ((Int × Int) × (Int × (Int × (Int × (Bool × List Int)))))) := fun a =>
  Option.bind (r19 (a.2.1, (6 : Int))) fun (y3 : Int) =>
    Option.bind (r42 (a.1, a.2.2.1, a.2.2.2.1)) fun (y4 : (Int × Int)) =>
      Option.bind (
        bif decide ((Go.IntKind.wrap .i64 ((1 : Int) + y3)) = (1 : Int)) then
          Option.bind (r19 (a.2.2.2.2.1, (8 : Int))) fun (y37 : Int) =>
            Option.bind (r19 (a.2.2.2.2.2.1, (1073741824 : Int))) fun (y38 : Int) =>
              Option.bind (r19 (a.2.2.2.2.2.2, (9 : Int))) fun (y39 : Int) =>
                some ((), ((Go.IntKind.wrap .i64 ((1 : Int) + y3)), (y4.1, (y4.2, (y37, (y38, (y39, (false, []))))))))
        else
          Option.bind (
            bif decide ((Go.IntKind.wrap .i64 ((1 : Int) + y3)) = (2 : Int)) then
              some (decide ((Go.IntKind.wrap .i64 ((1 : Int) + y3)) = (2 : Int)))
            else
              some (decide ((Go.IntKind.wrap .i64 ((1 : Int) + y3)) = (6 : Int)))) fun (d40 : Bool) =>
            bif d40 then
              Option.bind (r19 (a.2.2.2.2.1, (2 : Int))) fun (y41 : Int) =>
                some ((), ((Go.IntKind.wrap .i64 ((1 : Int) + y3)), (y4.1, (y4.2, ((0 : Int), ((0 : Int), ((0 : Int), (decide (y41 = (1 : Int)), []))))))))
            else
              bif decide ((Go.IntKind.wrap .i64 ((1 : Int) + y3)) = (3 : Int)) then
                Option.bind (loopR (r21_L0 a) ((), ((0 : Int), ((Go.IntKind.wrap .i64 ((1 : Int) + y3)), (y4.1, (y4.2, ((0 : Int), ((0 : Int), ((0 : Int), (false, [])))))))))) fun (q52 : (Unit × (Int × (Int × (Int × (Int × (Int × (Int × (Bool × List Int))))))))) =>
                  some ((), q52.2)
              else
                some ((), ((Go.IntKind.wrap .i64 ((1 : Int) + y3)), (y4.1, (y4.2, ((0 : Int), ((0 : Int), ((0 : Int), (false, []))))))))) fun (d53 : (Unit × (Int × (Int × (Int × (Int × (Int × (Int × (Bool × List Int))))))))) =>
        some (d53.2.1, ((d53.2.2.1, d53.2.2.2.1), d53.2.2.2.2))
def an21 : Ann := .two (.leaf) (.two (.draw 12) (.two (.join [4] [4] [⟨.normal, [], [.tmp 5 (.pt 5 [(0, 0)] 0 0 8), .box 5 [.int .i64, .int .i64, .int .i64, .int .i64, .int .i64, .int .i64, .bool, .sl .own (.int .i64)]]⟩] (.two (.leaf) (.one (.two (.leaf) (.two (.two (.leaf) (.two (.leaf) (.leaf))) (.two (.join [2, 3, 4, 5, 19] [2, 3, 4, 5] [⟨.normal, [], [.tmp 34 (.bool)]⟩] (.two (.leaf) (.two (.leaf) (.leaf)))) (.two (.leaf) (.two (.leaf) (.two (.two (.leaf) (.one (.loop [2, 3, 4] [2, 3, 4] [] [.tmp 5 (.pt 5 [(0, 0)] 0 0 8), .tmp 6 (.int .i64), .box 5 [.int .i64, .int .i64, .int .i64, .int .i64, .int .i64, .int .i64, .bool, .sl .own (.int .i64)]] [⟨.exit 1, [], [.tmp 5 (.pt 5 [(0, 0)] 0 0 8), .box 5 [.int .i64, .int .i64, .int .i64, .int .i64, .int .i64, .int .i64, .bool, .sl .own (.int .i64)]]⟩] (.two (.two (.leaf) (.two (.leaf) (.leaf))) (.two (.join [2, 3, 4, 6] [2, 3, 4] [⟨.normal, [], [.tmp 5 (.pt 5 [(0, 0)] 0 0 8), .box 5 [.int .i64, .int .i64, .int .i64, .int .i64, .int .i64, .int .i64, .bool, .sl .own (.int .i64)]]⟩] (.one (.two (.leaf) (.two (.leaf) (.leaf))))) (.leaf)))))) (.leaf)))))))))) (.two (.leaf) (.leaf))))
theorem s21 : SoundF cx.P cx.G 21 sg21 r21 := by
  have e : denF cx [(19, ⟨sg19, r19⟩), (42, ⟨sg42, r42⟩)] an21 Tryd.f21.ntmps (Tryd.f21.body.getD .skip) Tryd.f21.results.toList sg21 = r21 := by kernel_rfl
  rw [← e]
  exact sound_of_den (c := cx) (Known.cons (.ofF s19 (by kernel_rfl)) Tryd.func19 (by kernel_rfl) (by kernel_rfl) (Known.cons (.ofF s42 (by kernel_rfl)) Tryd.func42 (by kernel_rfl) (by kernel_rfl) (Known.nil))) Tryd.func21 (by kernel_rfl) (Nat.le_of_ble_eq_true (by kernel_rfl))

/-! reredos/label.one -/
def sg61 : Sig := ⟨[⟨true, .bo, (.pair (.int .i64) (.int .i64))⟩], [⟨false, .own, .bool⟩]⟩
noncomputable def r61 : (Int × Int) → Option Bool := fun a =>
  Option.bind (
    bif decide ((0 : Int) ≤ a.1) then
      some (decide (a.1 ≤ (9 : Int)))
    else
      some false) fun (g1 : Bool) =>
    Option.bind (
      bif g1 then
        some (decide ((0 : Int) ≤ a.2))
      else
        some false) fun (g2 : Bool) =>
      bif g2 then
        some (decide (a.2 ≤ (15 : Int)))
      else
        some false
def an61 : Ann := .two (.leaf) (.two (.segs [(8, ([1], ([1], [.tmp 10 (.bool)]))), (5, ([1], ([1], [.tmp 15 (.bool)])))]) (.leaf))
theorem s61 : SoundF cx.P cx.G 61 sg61 r61 := by
  have e : denF cx [] an61 Tryd.f61.ntmps (Tryd.f61.body.getD .skip) Tryd.f61.results.toList sg61 = r61 := by kernel_rfl
  rw [← e]
  exact sound_of_den (c := cx) (Known.nil) Tryd.func61 (by kernel_rfl) (Nat.le_of_ble_eq_true (by kernel_rfl))

/-! reredos/label.Check -/
noncomputable def r38_L0 (d3 : Int) (a : (Int × (List ((Int × Int)) × Int))) (b4 : (Int × Int)) : Int → Option (Int ⊕ (Unit ⊕ Int)) := fun d6 =>
  bif decide (d6 < (↑((List.take (Int.toNat d3) a.2.1).length) : Int)) then
    Option.bind (idxI (List.take (Int.toNat d3) a.2.1) d6) fun (b7 : (Int × Int)) =>
      bif (decide (b7.1 = b4.1) && (decide (b7.2 = b4.2) && true)) then
        some (Sum.inr (Sum.inr (7 : Int)))
      else
        some (Sum.inl (Go.IntKind.wrap .i64 (d6 + (1 : Int))))
  else
    some (Sum.inr (Sum.inl ()))
noncomputable def r38_L1 (a : (Int × (List ((Int × Int)) × Int))) : Int → Option (Int ⊕ (Unit ⊕ Int)) := fun d3 =>
  bif decide (d3 < (↑a.2.1.length : Int)) then
    Option.bind (idxI a.2.1 d3) fun (b4 : (Int × Int)) =>
      Option.bind (r61 b4) fun (y5 : Bool) =>
        bif !(y5) then
          some (Sum.inr (Sum.inr (2 : Int)))
        else
          bif okB none (some d3) none a.2.1.length then
            Option.bind (loopR (r38_L0 d3 a b4) (0 : Int)) fun (q8 : (Unit ⊕ Int)) =>
              Sum.elim (fun (v9 : Unit) =>
                  some (Sum.inl (Go.IntKind.wrap .i64 (d3 + (1 : Int)))))
                (fun (v10 : Int) =>
                  some (Sum.inr (Sum.inr v10))) q8
          else
            none
  else
    some (Sum.inr (Sum.inl ()))
def sg38 : Sig := ⟨[⟨true, .bo, (.pair (.int .i64) (.pair (.sl (.pair (.int .i64) (.int .i64))) (.int .i64)))⟩], [⟨false, .own, (.int .i64)⟩]⟩
noncomputable def r38 : (Int × (List ((Int × Int)) × Int)) → Option Int := fun a =>
  Option.bind (
    bif !(decide (a.1 < (1 : Int))) then
      some (decide ((4 : Int) < a.1))
    else
      some true) fun (d1 : Bool) =>
    bif d1 then
      some (2 : Int)
    else
      Option.bind (
        bif !(decide ((↑a.2.1.length : Int) < (1 : Int))) then
          some (decide ((6 : Int) < (↑a.2.1.length : Int)))
        else
          some true) fun (d2 : Bool) =>
        bif d2 then
          some (1 : Int)
        else
          Option.bind (loopR (r38_L1 a) (0 : Int)) fun (q11 : (Unit ⊕ Int)) =>
            Sum.elim (fun (v12 : Unit) =>
                Option.bind (
                  bif !(decide (a.2.2 < (1 : Int))) then
                    some (decide ((1048576 : Int) < a.2.2))
                  else
                    some true) fun (d14 : Bool) =>
                  bif d14 then
                    some (2 : Int)
                  else
                    some (0 : Int))
              (fun (v13 : Int) =>
                some v13) q11
def an38 : Ann := .two (.leaf) (.two (.two (.join [1] [1] [⟨.normal, [], [.tmp 14 (.bool)]⟩] (.leaf)) (.two (.two (.leaf) (.leaf)) (.leaf))) (.two (.two (.join [1] [1] [⟨.normal, [], [.tmp 24 (.bool)]⟩] (.leaf)) (.two (.two (.leaf) (.leaf)) (.leaf))) (.two (.two (.leaf) (.one (.loop [1, 26, 27] [1] [] [.tmp 28 (.int .i64)] [⟨.exit 0, [], []⟩, ⟨.ret, [], [.tmp 2 (.int .i64)]⟩] (.two (.leaf) (.two (.two (.leaf) (.leaf)) (.two (.one (.two (.leaf) (.two (.two (.leaf) (.two (.two (.leaf) (.leaf)) (.leaf))) (.two (.leaf) (.one (.loop [1, 4, 26, 27, 28, 39, 40] [1, 4] [] [.tmp 41 (.int .i64)] [⟨.exit 2, [], []⟩, ⟨.ret, [], [.tmp 2 (.int .i64)]⟩] (.two (.leaf) (.two (.two (.leaf) (.leaf)) (.two (.one (.two (.leaf) (.two (.leaf) (.two (.two (.leaf) (.leaf)) (.leaf))))) (.leaf)))))))))) (.leaf))))))) (.two (.two (.join [] [] [⟨.normal, [], [.tmp 57 (.bool)]⟩] (.leaf)) (.two (.two (.leaf) (.leaf)) (.leaf))) (.two (.leaf) (.leaf))))))
theorem s38 : SoundF cx.P cx.G 38 sg38 r38 := by
  have e : denF cx [(61, ⟨sg61, r61⟩)] an38 Tryd.f38.ntmps (Tryd.f38.body.getD .skip) Tryd.f38.results.toList sg38 = r38 := by kernel_rfl
  rw [← e]
  exact sound_of_den (c := cx) (Known.cons (.ofF s61 (by kernel_rfl)) Tryd.func61 (by kernel_rfl) (by kernel_rfl) (Known.nil)) Tryd.func38 (by kernel_rfl) (Nat.le_of_ble_eq_true (by kernel_rfl))

/-! reredos/wire.txn -/
def sg56 : Sig := ⟨[⟨true, .bo, (.pair (.int .i64) (.pair (.sl (.pair (.int .i64) (.int .i64))) (.int .i64)))⟩, ⟨true, .bo, (.pair (.int .i64) (.int .i64))⟩], [⟨false, .own, .bool⟩]⟩
noncomputable def r56 : ((Int × (List ((Int × Int)) × Int)) × (Int × Int)) → Option Bool := fun a =>
  Option.bind (
    bif decide ((0 : Int) ≤ a.2.1) then
      some (decide (a.2.1 < a.1.1))
    else
      some false) fun (g1 : Bool) =>
    Option.bind (
      bif g1 then
        some (decide ((1 : Int) ≤ a.2.2))
      else
        some false) fun (g2 : Bool) =>
      bif g2 then
        some (decide (a.2.2 ≤ (1048576 : Int)))
      else
        some false
def an56 : Ann := .two (.leaf) (.two (.segs [(10, ([3], ([3], [.tmp 14 (.bool)]))), (5, ([3], ([3], [.tmp 19 (.bool)])))]) (.leaf))
theorem s56 : SoundF cx.P cx.G 56 sg56 r56 := by
  have e : denF cx [] an56 Tryd.f56.ntmps (Tryd.f56.body.getD .skip) Tryd.f56.results.toList sg56 = r56 := by kernel_rfl
  rw [← e]
  exact sound_of_den (c := cx) (Known.nil) Tryd.func56 (by kernel_rfl) (Nat.le_of_ble_eq_true (by kernel_rfl))

/-! reredos/wire.key -/
def sg57 : Sig := ⟨[⟨false, .bo, (.int .i64)⟩], [⟨false, .own, .bool⟩]⟩
noncomputable def r57 : Int → Option Bool := fun a =>
  bif decide ((0 : Int) ≤ a) then
    some (decide (a < (8 : Int)))
  else
    some false
def an57 : Ann := .two (.leaf) (.two (.leaf) (.leaf))
theorem s57 : SoundF cx.P cx.G 57 sg57 r57 := by
  have e : denF cx [] an57 Tryd.f57.ntmps (Tryd.f57.body.getD .skip) Tryd.f57.results.toList sg57 = r57 := by kernel_rfl
  rw [← e]
  exact sound_of_den (c := cx) (Known.nil) Tryd.func57 (by kernel_rfl) (Nat.le_of_ble_eq_true (by kernel_rfl))

/-! reredos/wire.value -/
def sg58 : Sig := ⟨[⟨false, .bo, (.int .i64)⟩], [⟨false, .own, .bool⟩]⟩
noncomputable def r58 : Int → Option Bool := fun a =>
  bif decide ((0 : Int) ≤ a) then
    some (decide (a ≤ (1073741824 : Int)))
  else
    some false
def an58 : Ann := .two (.leaf) (.two (.leaf) (.leaf))
theorem s58 : SoundF cx.P cx.G 58 sg58 r58 := by
  have e : denF cx [] an58 Tryd.f58.ntmps (Tryd.f58.body.getD .skip) Tryd.f58.results.toList sg58 = r58 := by kernel_rfl
  rw [← e]
  exact sound_of_den (c := cx) (Known.nil) Tryd.func58 (by kernel_rfl) (Nat.le_of_ble_eq_true (by kernel_rfl))

/-! reredos/wire.ask -/
def sg59 : Sig := ⟨[⟨false, .bo, (.int .i64)⟩], [⟨false, .own, .bool⟩]⟩
noncomputable def r59 : Int → Option Bool := fun a =>
  bif decide ((0 : Int) ≤ a) then
    some (decide (a ≤ (1048576 : Int)))
  else
    some false
def an59 : Ann := .two (.leaf) (.two (.leaf) (.leaf))
theorem s59 : SoundF cx.P cx.G 59 sg59 r59 := by
  have e : denF cx [] an59 Tryd.f59.ntmps (Tryd.f59.body.getD .skip) Tryd.f59.results.toList sg59 = r59 := by kernel_rfl
  rw [← e]
  exact sound_of_den (c := cx) (Known.nil) Tryd.func59 (by kernel_rfl) (Nat.le_of_ble_eq_true (by kernel_rfl))

/-! reredos/wire.CheckRecord -/
noncomputable def r43_L0 (a : ((Int × (List ((Int × Int)) × Int)) × (Int × ((Int × Int) × (Int × (Int × (Int × (Bool × List Int)))))))) : Int → Option (Int ⊕ (Unit ⊕ Int)) := fun d22 =>
  bif decide (d22 < (↑a.2.2.2.2.2.2.2.length : Int)) then
    Option.bind (idxI a.2.2.2.2.2.2.2 d22) fun (b23 : Int) =>
      Option.bind (
        Option.bind (
          bif !(decide (b23 < (0 : Int))) then
            some (decide (a.1.1 ≤ b23))
          else
            some true) fun (g28 : Bool) =>
          bif !(g28) then
            bif decide ((0 : Int) < d22) then
              Option.bind (idxI a.2.2.2.2.2.2.2 (Go.IntKind.wrap .i64 (d22 - (1 : Int)))) fun (b29 : Int) =>
                some (decide (b23 ≤ b29))
            else
              some false
          else
            some true) fun (d30 : Bool) =>
        bif d30 then
          some (Sum.inr (Sum.inr (2 : Int)))
        else
          some (Sum.inl (Go.IntKind.wrap .i64 (d22 + (1 : Int))))
  else
    some (Sum.inr (Sum.inl ()))
def sg43 : Sig := ⟨[⟨true, .bo, (.pair (.int .i64) (.pair (.sl (.pair (.int .i64) (.int .i64))) (.int .i64)))⟩, ⟨true, .bo, (.pair (.int .i64) (.pair (.pair (.int .i64) (.int .i64)) (.pair (.int .i64) (.pair (.int .i64) (.pair (.int .i64) (.pair .bool (.sl (.int .i64))))))))⟩], [⟨false, .own, (.int .i64)⟩]⟩
noncomputable def r43 : ((Int × (List ((Int × Int)) × Int)) × (Int × ((Int × Int) × (Int × (Int × (Int × (Bool × List Int))))))) → Option Int := fun a =>
  Option.bind (r38 a.1) fun (y1 : Int) =>
    bif !(decide (y1 = (0 : Int))) then
      some y1
    else
      Option.bind (
        bif !(decide (a.2.1 < (1 : Int))) then
          some (decide ((6 : Int) < a.2.1))
        else
          some true) fun (d2 : Bool) =>
        bif d2 then
          some (3 : Int)
        else
          Option.bind (
            Option.bind (
              Option.bind (r56 (a.1, a.2.2.1)) fun (y15 : Bool) =>
                bif !(!(y15)) then
                  Option.bind (r57 a.2.2.2.1) fun (y16 : Bool) =>
                    some !(y16)
                else
                  some true) fun (g17 : Bool) =>
              Option.bind (
                bif !(g17) then
                  Option.bind (r58 a.2.2.2.2.1) fun (y18 : Bool) =>
                    some !(y18)
                else
                  some true) fun (g19 : Bool) =>
                bif !(g19) then
                  Option.bind (r59 a.2.2.2.2.2.1) fun (y20 : Bool) =>
                    some !(y20)
                else
                  some true) fun (d21 : Bool) =>
            bif d21 then
              some (2 : Int)
            else
              Option.bind (loopR (r43_L0 a) (0 : Int)) fun (q31 : (Unit ⊕ Int)) =>
                Sum.elim (fun (v32 : Unit) =>
                    Option.bind (idxI tab0 a.2.1) fun (b34 : (Bool × (Bool × (Bool × (Bool × (Bool × (Bool × (Bool × Bool)))))))) =>
                      Option.bind (
                        Option.bind (
                          bif !(b34.2.1) then
                            some (!(decide (a.2.2.2.1 = (0 : Int))))
                          else
                            some false) fun (g43 : Bool) =>
                          Option.bind (
                            bif !(g43) then
                              bif !(b34.2.2.1) then
                                some (!(decide (a.2.2.2.2.1 = (0 : Int))))
                              else
                                some false
                            else
                              some true) fun (g44 : Bool) =>
                            Option.bind (
                              bif !(g44) then
                                bif !(b34.2.2.2.2.1) then
                                  some (!(decide (a.2.2.2.2.2.1 = (0 : Int))))
                                else
                                  some false
                              else
                                some true) fun (g45 : Bool) =>
                              Option.bind (
                                bif !(g45) then
                                  bif !(b34.2.2.2.2.2.1) then
                                    some a.2.2.2.2.2.2.1
                                  else
                                    some false
                                else
                                  some true) fun (g46 : Bool) =>
                                bif !(g46) then
                                  bif !(b34.2.2.2.2.2.2.2) then
                                    some (decide ((0 : Int) < (↑a.2.2.2.2.2.2.2.length : Int)))
                                  else
                                    some false
                                else
                                  some true) fun (d47 : Bool) =>
                        bif d47 then
                          some (4 : Int)
                        else
                          some (0 : Int))
                  (fun (v33 : Int) =>
                    some v33) q31
def an43 : Ann := .two (.leaf) (.two (.two (.leaf) (.two (.leaf) (.two (.two (.leaf) (.leaf)) (.leaf)))) (.two (.two (.join [2, 3] [2, 3] [⟨.normal, [], [.tmp 21 (.bool)]⟩] (.leaf)) (.two (.two (.leaf) (.leaf)) (.leaf))) (.two (.two (.join [2, 3] [2, 3] [⟨.normal, [], [.tmp 44 (.bool)]⟩] (.segs [(11, ([2, 3], ([2, 3], [.tmp 32 (.bool)]))), (6, ([2, 3], ([2, 3], [.tmp 38 (.bool)])))])) (.two (.two (.leaf) (.leaf)) (.leaf))) (.two (.two (.leaf) (.one (.loop [2, 3, 46, 47] [2, 3] [] [.tmp 48 (.int .i64)] [⟨.exit 0, [], []⟩, ⟨.ret, [], [.tmp 4 (.int .i64)]⟩] (.two (.leaf) (.two (.two (.leaf) (.leaf)) (.two (.one (.two (.leaf) (.two (.join [2, 3, 46, 47, 48] [2, 3] [⟨.normal, [], [.tmp 74 (.bool)]⟩] (.segs [(8, ([2, 3, 6, 7, 46, 47, 48], ([2, 3], [.tmp 60 (.bool)])))])) (.two (.two (.leaf) (.leaf)) (.leaf))))) (.leaf))))))) (.two (.leaf) (.two (.two (.join [] [] [⟨.normal, [], [.tmp 127 (.bool)]⟩] (.segs [(8, ([3, 8], ([3, 8], [.tmp 87 (.bool)]))), (10, ([3, 8], ([3, 8], [.tmp 97 (.bool)]))), (10, ([3, 8], ([3, 8], [.tmp 107 (.bool)]))), (9, ([3, 8], ([3, 8], [.tmp 116 (.bool)])))])) (.two (.two (.leaf) (.leaf)) (.leaf))) (.two (.leaf) (.leaf))))))))
theorem s43 : SoundF cx.P cx.G 43 sg43 r43 := by
  have e : denF cx [(38, ⟨sg38, r38⟩), (56, ⟨sg56, r56⟩), (57, ⟨sg57, r57⟩), (58, ⟨sg58, r58⟩), (59, ⟨sg59, r59⟩)] an43 Tryd.f43.ntmps (Tryd.f43.body.getD .skip) Tryd.f43.results.toList sg43 = r43 := by kernel_rfl
  rw [← e]
  exact sound_of_den (c := cx) (Known.cons (.ofF s38 (by kernel_rfl)) Tryd.func38 (by kernel_rfl) (by kernel_rfl) (Known.cons (.ofF s56 (by kernel_rfl)) Tryd.func56 (by kernel_rfl) (by kernel_rfl) (Known.cons (.ofF s57 (by kernel_rfl)) Tryd.func57 (by kernel_rfl) (by kernel_rfl) (Known.cons (.ofF s58 (by kernel_rfl)) Tryd.func58 (by kernel_rfl) (by kernel_rfl) (Known.cons (.ofF s59 (by kernel_rfl)) Tryd.func59 (by kernel_rfl) (by kernel_rfl) (Known.nil)))))) Tryd.func43 (by kernel_rfl) (Nat.le_of_ble_eq_true (by kernel_rfl))

/-! (*reredos/wire.writer).put -/
noncomputable def r44_L0 (a : (List Int × (Int × Int))) : (Unit × (Int × List Int)) → Option ((Unit × (Int × List Int)) ⊕ (Unit × List Int)) := fun d3 =>
  bif decide ((0 : Int) ≤ d3.2.1) then
    Option.bind (
      bif decide ((Go.IntKind.wrap .i64 ((8 : Int) * d3.2.1)) < 0) then
        none
      else
        
          bif roomOk false d3.2.2.length 1 1 then
            some ((), app d3.2.2 [(Go.IntKind.wrap .u8 (Int.fdiv a.2.1 (2 ^ (min (Int.toNat (Go.IntKind.wrap .i64 ((8 : Int) * d3.2.1))) (Go.IntKind.bits .i64)))))])
          else
            none) fun (d4 : (Unit × List Int)) =>
      some (Sum.inl ((), ((Go.IntKind.wrap .i64 (d3.2.1 - (1 : Int))), d4.2)))
  else
    some (Sum.inr ((), d3.2.2))
noncomputable def r44_L0q (a : (List Int × (Int × Int))) : (Unit × (Int × List Int)) → Option ((Unit × (Int × List Int)) ⊕ (Unit × List Int)) := fun d3 =>
  bif decide ((0 : Int) ≤ d3.2.1) then
    Option.bind (
      bif decide ((Go.IntKind.wrap .i64 ((8 : Int) * d3.2.1)) < 0) then
        none
      else
        sameR (
          bif roomOk false d3.2.2.length 1 1 then
            some ((), app d3.2.2 [(Go.IntKind.wrap .u8 (Int.fdiv a.2.1 (2 ^ (min (Int.toNat (Go.IntKind.wrap .i64 ((8 : Int) * d3.2.1))) (Go.IntKind.bits .i64)))))])
          else
            none)
 (
          sameR (
            bif roomOk false d3.2.2.length 1 1 then
              some ((), app d3.2.2 [(Go.IntKind.wrap .u8 (Int.fdiv a.2.1 (2 ^ (min (Int.toNat (Go.IntKind.wrap .i64 ((8 : Int) * d3.2.1))) (Go.IntKind.bits .i64)))))])
            else
              none)
 (
            bif roomOk false d3.2.2.length 1 1 then
              some ((), app d3.2.2 [(Go.IntKind.wrap .u8 (Int.fdiv a.2.1 (2 ^ (min (Int.toNat (Go.IntKind.wrap .i64 ((8 : Int) * d3.2.1))) (Go.IntKind.bits .i64)))))])
            else
              none))) fun (d4 : (Unit × List Int)) =>
      some (Sum.inl ((), ((Go.IntKind.wrap .i64 (d3.2.1 - (1 : Int))), d4.2)))
  else
    some (Sum.inr ((), d3.2.2))
theorem r44_L0e (a : (List Int × (Int × Int))) : r44_L0q a = r44_L0 a := by unfold r44_L0q r44_L0; simp only [sameR_self]
def sg44 : Sig := ⟨[⟨false, .own, (.ptr (.sl (.int .u8)))⟩, ⟨false, .bo, (.int .i64)⟩, ⟨false, .bo, (.int .i64)⟩], [⟨false, .own, (.ptr (.sl (.int .u8)))⟩]⟩
noncomputable def r44 : (List Int × (Int × Int)) → Option (List Int) := fun a =>
  Option.bind (loopR (r44_L0 a) ((), ((Go.IntKind.wrap .i64 (a.2.2 - (1 : Int))), a.1))) fun (q5 : (Unit × List Int)) =>
    some q5.2
noncomputable def r44q : (List Int × (Int × Int)) → Option (List Int) := fun a =>
  Option.bind (loopR (r44_L0q a) ((), ((Go.IntKind.wrap .i64 (a.2.2 - (1 : Int))), a.1))) fun (q5 : (Unit × List Int)) =>
    some q5.2
theorem r44e : r44q = r44 := by unfold r44q r44; simp only [sameR_self, r44_L0e]
def an44 : Ann := .two (.leaf) (.one (.loop [1] [] [] [.tmp 0 (.pt 0 [(0, 0)] 0 0 0), .tmp 6 (.int .i64), .box 0 [.sl .own (.int .u8)]] [⟨.exit 0, [], [.tmp 0 (.pt 0 [(0, 0)] 0 0 0), .box 0 [.sl .own (.int .u8)]]⟩] (.two (.two (.leaf) (.two (.leaf) (.leaf))) (.two (.one (.join [1, 6] [] [⟨.normal, [], [.tmp 0 (.pt 0 [(0, 0)] 0 0 0), .box 0 [.sl .own (.int .u8)]]⟩] (.drawT [0, 1, 2, 3, 4, 5, 6, 7, 8, 9, 10] [0]))) (.leaf)))))
theorem s44 : SoundM cx.P cx.G 44 sg44 r44 := by
  have e : denM cx [] an44 Tryd.f44.ntmps (Tryd.f44.body.getD .skip) Tryd.f44.results.toList sg44 = r44q := by kernel_rfl
  rw [← r44e, ← e]
  exact sound_of_denM (c := cx) (Known.nil) Tryd.func44 (by kernel_rfl) (Nat.le_of_ble_eq_true (by kernel_rfl))

/-! (*reredos/wire.writer).txn -/
def sg45 : Sig := ⟨[⟨false, .own, (.ptr (.sl (.int .u8)))⟩, ⟨true, .bo, (.pair (.int .i64) (.int .i64))⟩], [⟨false, .own, (.ptr (.sl (.int .u8)))⟩]⟩
noncomputable def r45 : (List Int × (Int × Int)) → Option (List Int) := fun a =>
  Option.bind (r44 (a.1, a.2.1, (1 : Int))) fun (y1 : List Int) =>
    Option.bind (r44 (y1, a.2.2, (3 : Int))) fun (y2 : List Int) =>
      some y2
def an45 : Ann := .two (.leaf) (.two (.leaf) (.leaf))
theorem s45 : SoundM cx.P cx.G 45 sg45 r45 := by
  have e : denM cx [(44, ⟨sg44, r44⟩)] an45 Tryd.f45.ntmps (Tryd.f45.body.getD .skip) Tryd.f45.results.toList sg45 = r45 := by kernel_rfl
  rw [← e]
  exact sound_of_denM (c := cx) (Known.cons (.ofM s44 (by kernel_rfl)) Tryd.func44 (by kernel_rfl) (by kernel_rfl) (Known.nil)) Tryd.func45 (by kernel_rfl) (Nat.le_of_ble_eq_true (by kernel_rfl))

/-! (*reredos/wire.writer).bit -/
def sg46 : Sig := ⟨[⟨false, .own, (.ptr (.sl (.int .u8)))⟩, ⟨false, .bo, .bool⟩], [⟨false, .own, (.ptr (.sl (.int .u8)))⟩]⟩
noncomputable def r46 : (List Int × Bool) → Option (List Int) := fun a =>
  Option.bind (
    bif a.2 then
      some (1 : Int)
    else
      some (0 : Int)) fun (d1 : Int) =>
    Option.bind (r44 (a.1, d1, (1 : Int))) fun (y2 : List Int) =>
      some y2
def an46 : Ann := .two (.leaf) (.two (.join [0] [0] [⟨.normal, [], [.tmp 4 (.int .i64)]⟩] (.two (.leaf) (.two (.leaf) (.leaf)))) (.leaf))
theorem s46 : SoundM cx.P cx.G 46 sg46 r46 := by
  have e : denM cx [(44, ⟨sg44, r44⟩)] an46 Tryd.f46.ntmps (Tryd.f46.body.getD .skip) Tryd.f46.results.toList sg46 = r46 := by kernel_rfl
  rw [← e]
  exact sound_of_denM (c := cx) (Known.cons (.ofM s44 (by kernel_rfl)) Tryd.func44 (by kernel_rfl) (by kernel_rfl) (Known.nil)) Tryd.func46 (by kernel_rfl) (Nat.le_of_ble_eq_true (by kernel_rfl))

/-! reredos/wire.EncodeRecord -/
noncomputable def r22_L0 (a : ((Int × (List ((Int × Int)) × Int)) × (Int × ((Int × Int) × (Int × (Int × (Int × (Bool × List Int)))))))) : (Unit × (Int × List Int)) → Option ((Unit × (Int × List Int)) ⊕ (Unit × List Int)) := fun d41 =>
  bif decide (d41.2.1 < (↑a.2.2.2.2.2.2.2.length : Int)) then
    Option.bind (idxI a.2.2.2.2.2.2.2 d41.2.1) fun (b42 : Int) =>
      Option.bind (r44 (d41.2.2, b42, (1 : Int))) fun (y43 : List Int) =>
        some (Sum.inl ((), ((Go.IntKind.wrap .i64 (d41.2.1 + (1 : Int))), y43)))
  else
    some (Sum.inr ((), d41.2.2))
def sg22 : Sig := ⟨[⟨true, .bo, (.pair (.int .i64) (.pair (.sl (.pair (.int .i64) (.int .i64))) (.int .i64)))⟩, ⟨true, .bo, (.pair (.int .i64) (.pair (.pair (.int .i64) (.int .i64)) (.pair (.int .i64) (.pair (.int .i64) (.pair (.int .i64) (.pair .bool (.sl (.int .i64))))))))⟩], [⟨false, .own, (.sl (.int .u8))⟩, ⟨false, .own, (.int .i64)⟩]⟩
noncomputable def r22 : ((Int × (List ((Int × Int)) × Int)) × (Int × ((Int × Int) × (Int × (Int × (Int × (Bool × List Int))))))) → Option (List Int × Int) := fun a =>
  Option.bind (r43 (a.1, a.2)) fun (y1 : Int) =>
    bif !(decide (y1 = (0 : Int))) then
      some ([], y1)
    else
      Option.bind (r44 ([], a.2.1, (1 : Int))) fun (y2 : List Int) =>
        Option.bind (r45 (y2, a.2.2.1)) fun (y3 : List Int) =>
          Option.bind (idxI tab0 a.2.1) fun (b4 : (Bool × (Bool × (Bool × (Bool × (Bool × (Bool × (Bool × Bool)))))))) =>
            Option.bind (
              bif b4.2.1 then
                Option.bind (r44 (y3, a.2.2.2.1, (1 : Int))) fun (y7 : List Int) =>
                  some ((), y7)
              else
                some ((), y3)) fun (d8 : (Unit × List Int)) =>
              Option.bind (
                bif b4.2.2.1 then
                  Option.bind (r44 (d8.2, a.2.2.2.2.1, (4 : Int))) fun (y11 : List Int) =>
                    some ((), y11)
                else
                  some ((), d8.2)) fun (d12 : (Unit × List Int)) =>
                Option.bind (
                  bif b4.2.2.2.2.1 then
                    Option.bind (r44 (d12.2, a.2.2.2.2.2.1, (3 : Int))) fun (y15 : List Int) =>
                      some ((), y15)
                  else
                    some ((), d12.2)) fun (d16 : (Unit × List Int)) =>
                  Option.bind (
                    bif b4.2.2.2.2.2.1 then
                      Option.bind (r46 (d16.2, a.2.2.2.2.2.2.1)) fun (y19 : List Int) =>
                        some ((), y19)
                    else
                      some ((), d16.2)) fun (d20 : (Unit × List Int)) =>
                    Option.bind (
                      bif b4.2.2.2.2.2.2.2 then
                        Option.bind (r44 (d20.2, (↑a.2.2.2.2.2.2.2.length : Int), (1 : Int))) fun (y37 : List Int) =>
                          Option.bind (loopR (r22_L0 a) ((), ((0 : Int), y37))) fun (q44 : (Unit × List Int)) =>
                            some ((), q44.2)
                      else
                        some ((), d20.2)) fun (d45 : (Unit × List Int)) =>
                      some (d45.2, (0 : Int))
def an22 : Ann := .two (.leaf) (.two (.two (.leaf) (.two (.leaf) (.two (.two (.leaf) (.leaf)) (.leaf)))) (.two (.leaf) (.two (.leaf) (.two (.leaf) (.two (.leaf) (.two (.join [3, 8] [3, 8] [⟨.normal, [], [.tmp 7 (.pt 18 [(0, 0)] 0 0 1), .box 18 [.sl .own (.int .u8)]]⟩] (.two (.leaf) (.two (.leaf) (.leaf)))) (.two (.join [3, 8] [3, 8] [⟨.normal, [], [.tmp 7 (.pt 18 [(0, 0)] 0 0 1), .box 18 [.sl .own (.int .u8)]]⟩] (.two (.leaf) (.two (.leaf) (.leaf)))) (.two (.join [3, 8] [3, 8] [⟨.normal, [], [.tmp 7 (.pt 18 [(0, 0)] 0 0 1), .box 18 [.sl .own (.int .u8)]]⟩] (.two (.leaf) (.two (.leaf) (.leaf)))) (.two (.join [3, 8] [3, 8] [⟨.normal, [], [.tmp 7 (.pt 18 [(0, 0)] 0 0 1), .box 18 [.sl .own (.int .u8)]]⟩] (.two (.leaf) (.two (.leaf) (.leaf)))) (.two (.join [] [] [⟨.normal, [], [.tmp 7 (.pt 18 [(0, 0)] 0 0 1), .box 18 [.sl .own (.int .u8)]]⟩] (.two (.leaf) (.two (.two (.leaf) (.two (.leaf) (.one (.loop [63, 64] [] [] [.tmp 7 (.pt 18 [(0, 0)] 0 0 1), .tmp 65 (.int .i64), .box 18 [.sl .own (.int .u8)]] [⟨.exit 0, [], [.tmp 7 (.pt 18 [(0, 0)] 0 0 1), .box 18 [.sl .own (.int .u8)]]⟩] (.two (.leaf) (.two (.two (.leaf) (.leaf)) (.two (.one (.two (.leaf) (.leaf))) (.leaf)))))))) (.leaf)))) (.two (.leaf) (.leaf))))))))))))
theorem s22 : SoundF cx.P cx.G 22 sg22 r22 := by
  have e : denF cx [(43, ⟨sg43, r43⟩), (44, ⟨sg44, r44⟩), (45, ⟨sg45, r45⟩), (46, ⟨sg46, r46⟩)] an22 Tryd.f22.ntmps (Tryd.f22.body.getD .skip) Tryd.f22.results.toList sg22 = r22 := by kernel_rfl
  rw [← e]
  exact sound_of_den (c := cx) (Known.cons (.ofF s43 (by kernel_rfl)) Tryd.func43 (by kernel_rfl) (by kernel_rfl) (Known.cons (.ofM s44 (by kernel_rfl)) Tryd.func44 (by kernel_rfl) (by kernel_rfl) (Known.cons (.ofM s45 (by kernel_rfl)) Tryd.func45 (by kernel_rfl) (by kernel_rfl) (Known.cons (.ofM s46 (by kernel_rfl)) Tryd.func46 (by kernel_rfl) (by kernel_rfl) (Known.nil))))) Tryd.func22 (by kernel_rfl) (Nat.le_of_ble_eq_true (by kernel_rfl))

/-! slices.Clone[[]byte,byte] -/
def sg49 : Sig := ⟨[⟨false, .bo, (.sl (.int .u8))⟩], [⟨false, .own, (.sl (.int .u8))⟩]⟩
noncomputable def r49 : List Int → Option (List Int) := fun a =>
  nilR a fun (n1 : Bool) =>
    bif n1 then
      some []
    else
      bif roomOk false 0 a.length 1 then
        some a
      else
        none
def an49 : Ann := .two (.leaf) (.two (.two (.leaf) (.two (.two (.leaf) (.leaf)) (.leaf))) (.two (.leaf) (.leaf)))
theorem s49 : SoundF cx.P cx.G 49 sg49 r49 := by
  have e : denF cx [] an49 Tryd.f49.ntmps (Tryd.f49.body.getD .skip) Tryd.f49.results.toList sg49 = r49 := by kernel_rfl
  rw [← e]
  exact sound_of_den (c := cx) (Known.nil) Tryd.func49 (by kernel_rfl) (Nat.le_of_ble_eq_true (by kernel_rfl))

/-! (*reredos/wire.reader).take -/
noncomputable def r52_L0 (a : ((List Int × Int) × Int)) : (Int × Int) → Option ((Int × Int) ⊕ Int) := fun d2 =>
  bif decide (d2.2 < (↑(Int.toNat a.2) : Int)) then
    bif inB d2.2 (Int.toNat a.2) then
      Option.bind (idxN a.1.1 (0 + (Int.toNat d2.2))) fun (x3 : Int) =>
        some (Sum.inl ((Go.bits .or .i64 (Go.IntKind.wrap .i64 (d2.1 * 2 ^ 8)) (Go.IntKind.wrap .i64 x3)), (Go.IntKind.wrap .i64 (d2.2 + (1 : Int)))))
    else
      none
  else
    some (Sum.inr d2.1)
def sg52 : Sig := ⟨[⟨false, .own, (.ptr (.pair (.sl (.int .u8)) (.int .i64)))⟩, ⟨false, .bo, (.int .i64)⟩], [⟨false, .own, (.int .i64)⟩, ⟨false, .own, (.ptr (.pair (.sl (.int .u8)) (.int .i64)))⟩]⟩
noncomputable def r52 : ((List Int × Int) × Int) → Option (Int × (List Int × Int)) := fun a =>
  bif decide ((↑a.1.1.length : Int) < a.2) then
    Option.bind (
      bif decide (a.1.2 = (0 : Int)) then
        some ((), (a.1.1, (5 : Int)))
      else
        some ((), a.1)) fun (d1 : (Unit × (List Int × Int))) =>
      some ((0 : Int), ([], d1.2.2))
  else
    bif okB none (some a.2) none a.1.1.length then
      Option.bind (loopR (r52_L0 a) ((0 : Int), (0 : Int))) fun (q4 : Int) =>
        bif okB (some a.2) none none a.1.1.length then
          some (q4, (midL a.1.1 (Int.toNat a.2) (a.1.1.length - (Int.toNat a.2)), a.1.2))
        else
          none
    else
      none
def an52 : Ann := .two (.leaf) (.two (.two (.leaf) (.two (.two (.join [] [] [⟨.normal, [], [.tmp 0 (.pt 0 [(0, 0)] 0 0 0), .box 0 [.sl .own (.int .u8), .int .i64]]⟩] (.two (.leaf) (.two (.leaf) (.leaf)))) (.two (.leaf) (.two (.leaf) (.leaf)))) (.leaf))) (.two (.leaf) (.two (.two (.leaf) (.one (.loop [0, 1, 31, 32] [0] [] [.tmp 5 (.int .i64), .tmp 33 (.int .i64)] [⟨.exit 0, [], [.tmp 5 (.int .i64)]⟩] (.two (.leaf) (.two (.two (.leaf) (.leaf)) (.two (.one (.two (.leaf) (.leaf))) (.leaf))))))) (.two (.leaf) (.two (.leaf) (.leaf))))))
theorem s52 : SoundM cx.P cx.G 52 sg52 r52 := by
  have e : denM cx [] an52 Tryd.f52.ntmps (Tryd.f52.body.getD .skip) Tryd.f52.results.toList sg52 = r52 := by kernel_rfl
  rw [← e]
  exact sound_of_denM (c := cx) (Known.nil) Tryd.func52 (by kernel_rfl) (Nat.le_of_ble_eq_true (by kernel_rfl))

/-! (*reredos/wire.reader).kind -/
def sg50 : Sig := ⟨[⟨false, .own, (.ptr (.pair (.sl (.int .u8)) (.int .i64)))⟩, ⟨false, .bo, (.int .i64)⟩], [⟨false, .own, (.int .i64)⟩, ⟨false, .own, (.ptr (.pair (.sl (.int .u8)) (.int .i64)))⟩]⟩
noncomputable def r50 : ((List Int × Int) × Int) → Option (Int × (List Int × Int)) := fun a =>
  Option.bind (r52 (a.1, (1 : Int))) fun (y1 : (Int × (List Int × Int))) =>
    Option.bind (
      Option.bind (
        Option.bind (
          bif !(decide (y1.1 < (1 : Int))) then
            some (decide (a.2 < y1.1))
          else
            some true) fun (g12 : Bool) =>
          bif g12 then
            some (decide (y1.2.2 = (0 : Int)))
          else
            some false) fun (d13 : Bool) =>
        bif d13 then
          some ((), (y1.2.1, (3 : Int)))
        else
          some ((), y1.2)) fun (d14 : (Unit × (List Int × Int))) =>
      bif !(decide (d14.2.2 = (0 : Int))) then
        some ((0 : Int), d14.2)
      else
        some (y1.1, d14.2)
def an50 : Ann := .two (.leaf) (.two (.leaf) (.two (.join [5] [] [⟨.normal, [], [.tmp 0 (.pt 0 [(0, 0)] 0 0 0), .box 0 [.sl .own (.int .u8), .int .i64]]⟩] (.two (.join [0, 5] [0] [⟨.normal, [], [.tmp 21 (.bool)]⟩] (.segs [(7, ([0, 5], ([0], [.tmp 14 (.bool)])))])) (.two (.leaf) (.leaf)))) (.two (.two (.leaf) (.two (.two (.leaf) (.leaf)) (.leaf))) (.two (.leaf) (.leaf)))))
theorem s50 : SoundM cx.P cx.G 50 sg50 r50 := by
  have e : denM cx [(52, ⟨sg52, r52⟩)] an50 Tryd.f50.ntmps (Tryd.f50.body.getD .skip) Tryd.f50.results.toList sg50 = r50 := by kernel_rfl
  rw [← e]
  exact sound_of_denM (c := cx) (Known.cons (.ofM s52 (by kernel_rfl)) Tryd.func52 (by kernel_rfl) (by kernel_rfl) (Known.nil)) Tryd.func50 (by kernel_rfl) (Nat.le_of_ble_eq_true (by kernel_rfl))

/-! (*reredos/wire.reader).txn -/
def sg51 : Sig := ⟨[⟨false, .own, (.ptr (.pair (.sl (.int .u8)) (.int .i64)))⟩], [⟨true, .own, (.pair (.int .i64) (.int .i64))⟩, ⟨false, .own, (.ptr (.pair (.sl (.int .u8)) (.int .i64)))⟩]⟩
noncomputable def r51 : (List Int × Int) → Option ((Int × Int) × (List Int × Int)) := fun a =>
  Option.bind (r52 (a, (1 : Int))) fun (y1 : (Int × (List Int × Int))) =>
    Option.bind (r52 (y1.2, (3 : Int))) fun (y2 : (Int × (List Int × Int))) =>
      some ((y1.1, y2.1), y2.2)
def an51 : Ann := .two (.leaf) (.two (.leaf) (.two (.leaf) (.leaf)))
theorem s51 : SoundM cx.P cx.G 51 sg51 r51 := by
  have e : denM cx [(52, ⟨sg52, r52⟩)] an51 Tryd.f51.ntmps (Tryd.f51.body.getD .skip) Tryd.f51.results.toList sg51 = r51 := by kernel_rfl
  rw [← e]
  exact sound_of_denM (c := cx) (Known.cons (.ofM s52 (by kernel_rfl)) Tryd.func52 (by kernel_rfl) (by kernel_rfl) (Known.nil)) Tryd.func51 (by kernel_rfl) (Nat.le_of_ble_eq_true (by kernel_rfl))

/-! (*reredos/wire.reader).bit -/
def sg53 : Sig := ⟨[⟨false, .own, (.ptr (.pair (.sl (.int .u8)) (.int .i64)))⟩], [⟨false, .own, .bool⟩, ⟨false, .own, (.ptr (.pair (.sl (.int .u8)) (.int .i64)))⟩]⟩
noncomputable def r53 : (List Int × Int) → Option (Bool × (List Int × Int)) := fun a =>
  Option.bind (r52 (a, (1 : Int))) fun (y1 : (Int × (List Int × Int))) =>
    Option.bind (
      Option.bind (
        bif decide ((1 : Int) < y1.1) then
          some (decide (y1.2.2 = (0 : Int)))
        else
          some false) fun (d4 : Bool) =>
        bif d4 then
          some ((), (y1.2.1, (4 : Int)))
        else
          some ((), y1.2)) fun (d5 : (Unit × (List Int × Int))) =>
      some (decide (y1.1 = (1 : Int)), d5.2)
def an53 : Ann := .two (.leaf) (.two (.leaf) (.two (.join [3] [] [⟨.normal, [], [.tmp 0 (.pt 0 [(0, 0)] 0 0 0), .box 0 [.sl .own (.int .u8), .int .i64]]⟩] (.two (.join [0, 3] [0] [⟨.normal, [], [.tmp 14 (.bool)]⟩] (.leaf)) (.two (.leaf) (.leaf)))) (.two (.leaf) (.leaf))))
theorem s53 : SoundM cx.P cx.G 53 sg53 r53 := by
  have e : denM cx [(52, ⟨sg52, r52⟩)] an53 Tryd.f53.ntmps (Tryd.f53.body.getD .skip) Tryd.f53.results.toList sg53 = r53 := by kernel_rfl
  rw [← e]
  exact sound_of_denM (c := cx) (Known.cons (.ofM s52 (by kernel_rfl)) Tryd.func52 (by kernel_rfl) (by kernel_rfl) (Known.nil)) Tryd.func53 (by kernel_rfl) (Nat.le_of_ble_eq_true (by kernel_rfl))

/-! (*reredos/wire.reader).end -/
def sg54 : Sig := ⟨[⟨false, .own, (.ptr (.pair (.sl (.int .u8)) (.int .i64)))⟩], [⟨false, .own, (.ptr (.pair (.sl (.int .u8)) (.int .i64)))⟩]⟩
noncomputable def r54 : (List Int × Int) → Option (List Int × Int) := fun a =>
  Option.bind (
    bif decide (a.2 = (0 : Int)) then
      some (decide ((0 : Int) < (↑a.1.length : Int)))
    else
      some false) fun (d1 : Bool) =>
    bif d1 then
      some (a.1, (4 : Int))
    else
      some a
def an54 : Ann := .two (.join [0] [0] [⟨.normal, [], [.tmp 14 (.bool)]⟩] (.leaf)) (.two (.leaf) (.leaf))
theorem s54 : SoundM cx.P cx.G 54 sg54 r54 := by
  have e : denM cx [] an54 Tryd.f54.ntmps (Tryd.f54.body.getD .skip) Tryd.f54.results.toList sg54 = r54 := by kernel_rfl
  rw [← e]
  exact sound_of_denM (c := cx) (Known.nil) Tryd.func54 (by kernel_rfl) (Nat.le_of_ble_eq_true (by kernel_rfl))

/-! reredos/wire.DecodeRecord -/
noncomputable def r28_L0 : (Unit × (Unit × (Int × ((List Int × Int) × (Int × (Int × (Int × (Int × (Int × (Int × (Bool × List Int))))))))))) → Option ((Unit × (Unit × (Int × ((List Int × Int) × (Int × (Int × (Int × (Int × (Int × (Int × (Bool × List Int))))))))))) ⊕ (Unit × (Unit × ((List Int × Int) × (Int × (Int × (Int × (Int × (Int × (Int × (Bool × List Int))))))))))) := fun d42 =>
  Option.bind (
    bif decide ((0 : Int) < d42.2.2.1) then
      some (decide (d42.2.2.2.1.2 = (0 : Int)))
    else
      some false) fun (d43 : Bool) =>
    bif d43 then
      Option.bind (r52 (d42.2.2.2.1, (1 : Int))) fun (y44 : (Int × (List Int × Int))) =>
        bif roomOk false d42.2.2.2.2.2.2.2.2.2.2.2.length 1 8 then
          some (Sum.inl ((), ((), ((Go.IntKind.wrap .i64 (d42.2.2.1 - (1 : Int))), (y44.2, (d42.2.2.2.2.1, (d42.2.2.2.2.2.1, (d42.2.2.2.2.2.2.1, (d42.2.2.2.2.2.2.2.1, (d42.2.2.2.2.2.2.2.2.1, (d42.2.2.2.2.2.2.2.2.2.1, (d42.2.2.2.2.2.2.2.2.2.2.1, app d42.2.2.2.2.2.2.2.2.2.2.2 [y44.1]))))))))))))
        else
          none
    else
      some (Sum.inr ((), ((), d42.2.2.2)))
noncomputable def r28_L0q : (Unit × (Unit × (Int × ((List Int × Int) × (Int × (Int × (Int × (Int × (Int × (Int × (Bool × List Int))))))))))) → Option ((Unit × (Unit × (Int × ((List Int × Int) × (Int × (Int × (Int × (Int × (Int × (Int × (Bool × List Int))))))))))) ⊕ (Unit × (Unit × ((List Int × Int) × (Int × (Int × (Int × (Int × (Int × (Int × (Bool × List Int))))))))))) := fun d42 =>
  Option.bind (
    bif decide ((0 : Int) < d42.2.2.1) then
      some (decide (d42.2.2.2.1.2 = (0 : Int)))
    else
      some false) fun (d43 : Bool) =>
    bif d43 then
      Option.bind (r52 (d42.2.2.2.1, (1 : Int))) fun (y44 : (Int × (List Int × Int))) =>
        bif roomOk false d42.2.2.2.2.2.2.2.2.2.2.2.length 1 8 then
          some (Sum.inl ((), ((), ((Go.IntKind.wrap .i64 (d42.2.2.1 - (1 : Int))), (y44.2, (d42.2.2.2.2.1, (d42.2.2.2.2.2.1, (d42.2.2.2.2.2.2.1, (d42.2.2.2.2.2.2.2.1, (d42.2.2.2.2.2.2.2.2.1, (d42.2.2.2.2.2.2.2.2.2.1, (d42.2.2.2.2.2.2.2.2.2.2.1, app d42.2.2.2.2.2.2.2.2.2.2.2 [y44.1]))))))))))))
        else
          none
    else
      some (Sum.inr ((), ((), d42.2.2.2)))
theorem r28_L0e : r28_L0q = r28_L0 := by unfold r28_L0q r28_L0; simp only [sameR_self]
def sg28 : Sig := ⟨[⟨true, .bo, (.pair (.int .i64) (.pair (.sl (.pair (.int .i64) (.int .i64))) (.int .i64)))⟩, ⟨false, .bo, (.sl (.int .u8))⟩], [⟨true, .ro, (.pair (.int .i64) (.pair (.pair (.int .i64) (.int .i64)) (.pair (.int .i64) (.pair (.int .i64) (.pair (.int .i64) (.pair .bool (.sl (.int .i64))))))))⟩, ⟨false, .own, (.int .i64)⟩]⟩
noncomputable def r28 : ((Int × (List ((Int × Int)) × Int)) × List Int) → Option ((Int × ((Int × Int) × (Int × (Int × (Int × (Bool × List Int)))))) × Int) := fun a =>
  Option.bind (r38 a.1) fun (y1 : Int) =>
    bif !(decide (y1 = (0 : Int))) then
      some (((0 : Int), (((0 : Int), (0 : Int)), ((0 : Int), ((0 : Int), ((0 : Int), (false, [])))))), y1)
    else
      Option.bind (r49 a.2) fun (y2 : List Int) =>
        Option.bind (r50 ((y2, (0 : Int)), (6 : Int))) fun (y3 : (Int × (List Int × Int))) =>
          Option.bind (idxI tab0 y3.1) fun (b4 : (Bool × (Bool × (Bool × (Bool × (Bool × (Bool × (Bool × Bool)))))))) =>
            Option.bind (r51 y3.2) fun (y5 : ((Int × Int) × (List Int × Int))) =>
              Option.bind (
                bif b4.2.1 then
                  Option.bind (r52 (y5.2, (1 : Int))) fun (y8 : (Int × (List Int × Int))) =>
                    some ((), ((), (y8.2, (y3.1, (y5.1.1, (y5.1.2, (y8.1, ((0 : Int), ((0 : Int), (false, []))))))))))
                else
                  some ((), ((), (y5.2, (y3.1, (y5.1.1, (y5.1.2, ((0 : Int), ((0 : Int), ((0 : Int), (false, []))))))))))) fun (d9 : (Unit × (Unit × ((List Int × Int) × (Int × (Int × (Int × (Int × (Int × (Int × (Bool × List Int))))))))))) =>
                Option.bind (
                  bif b4.2.2.1 then
                    Option.bind (r52 (d9.2.2.1, (4 : Int))) fun (y12 : (Int × (List Int × Int))) =>
                      some ((), ((), (y12.2, (d9.2.2.2.1, (d9.2.2.2.2.1, (d9.2.2.2.2.2.1, (d9.2.2.2.2.2.2.1, (y12.1, d9.2.2.2.2.2.2.2.2))))))))
                  else
                    some ((), ((), d9.2.2))) fun (d13 : (Unit × (Unit × ((List Int × Int) × (Int × (Int × (Int × (Int × (Int × (Int × (Bool × List Int))))))))))) =>
                  Option.bind (
                    bif b4.2.2.2.2.1 then
                      Option.bind (r52 (d13.2.2.1, (3 : Int))) fun (y16 : (Int × (List Int × Int))) =>
                        some ((), ((), (y16.2, (d13.2.2.2.1, (d13.2.2.2.2.1, (d13.2.2.2.2.2.1, (d13.2.2.2.2.2.2.1, (d13.2.2.2.2.2.2.2.1, (y16.1, d13.2.2.2.2.2.2.2.2.2)))))))))
                    else
                      some ((), ((), d13.2.2))) fun (d17 : (Unit × (Unit × ((List Int × Int) × (Int × (Int × (Int × (Int × (Int × (Int × (Bool × List Int))))))))))) =>
                    Option.bind (
                      bif b4.2.2.2.2.2.1 then
                        Option.bind (r53 d17.2.2.1) fun (y20 : (Bool × (List Int × Int))) =>
                          some ((), ((), (y20.2, (d17.2.2.2.1, (d17.2.2.2.2.1, (d17.2.2.2.2.2.1, (d17.2.2.2.2.2.2.1, (d17.2.2.2.2.2.2.2.1, (d17.2.2.2.2.2.2.2.2.1, (y20.1, d17.2.2.2.2.2.2.2.2.2.2))))))))))
                      else
                        some ((), ((), d17.2.2))) fun (d21 : (Unit × (Unit × ((List Int × Int) × (Int × (Int × (Int × (Int × (Int × (Int × (Bool × List Int))))))))))) =>
                      Option.bind (
                        bif b4.2.2.2.2.2.2.2 then
                          Option.bind (r52 (d21.2.2.1, (1 : Int))) fun (y38 : (Int × (List Int × Int))) =>
                            Option.bind (loopR r28_L0 ((), ((), (y38.1, (y38.2, d21.2.2.2))))) fun (q45 : (Unit × (Unit × ((List Int × Int) × (Int × (Int × (Int × (Int × (Int × (Int × (Bool × List Int))))))))))) =>
                              some ((), ((), q45.2.2))
                        else
                          some ((), ((), d21.2.2))) fun (d46 : (Unit × (Unit × ((List Int × Int) × (Int × (Int × (Int × (Int × (Int × (Int × (Bool × List Int))))))))))) =>
                        Option.bind (r54 d46.2.2.1) fun (y47 : (List Int × Int)) =>
                          Option.bind (
                            bif decide (y47.2 = (0 : Int)) then
                              Option.bind (r43 (a.1, (d46.2.2.2.1, ((d46.2.2.2.2.1, d46.2.2.2.2.2.1), d46.2.2.2.2.2.2)))) fun (y50 : Int) =>
                                some ((), (y47.1, y50))
                            else
                              some ((), y47)) fun (d51 : (Unit × (List Int × Int))) =>
                            bif !(decide (d51.2.2 = (0 : Int))) then
                              Option.bind (
                                
                                  some ((), (d51.2.2, ((0 : Int), ((0 : Int), ((0 : Int), ((0 : Int), ((0 : Int), ((0 : Int), (false, [])))))))))) fun (d52 : (Unit × (Int × (Int × (Int × (Int × (Int × (Int × (Int × (Bool × List Int)))))))))) =>
                                some ((d52.2.2.1, ((d52.2.2.2.1, d52.2.2.2.2.1), d52.2.2.2.2.2)), d52.2.1)
                            else
                              some ((d46.2.2.2.1, ((d46.2.2.2.2.1, d46.2.2.2.2.2.1), d46.2.2.2.2.2.2)), (0 : Int))
noncomputable def r28q : ((Int × (List ((Int × Int)) × Int)) × List Int) → Option ((Int × ((Int × Int) × (Int × (Int × (Int × (Bool × List Int)))))) × Int) := fun a =>
  Option.bind (r38 a.1) fun (y1 : Int) =>
    bif !(decide (y1 = (0 : Int))) then
      some (((0 : Int), (((0 : Int), (0 : Int)), ((0 : Int), ((0 : Int), ((0 : Int), (false, [])))))), y1)
    else
      Option.bind (r49 a.2) fun (y2 : List Int) =>
        Option.bind (r50 ((y2, (0 : Int)), (6 : Int))) fun (y3 : (Int × (List Int × Int))) =>
          Option.bind (idxI tab0 y3.1) fun (b4 : (Bool × (Bool × (Bool × (Bool × (Bool × (Bool × (Bool × Bool)))))))) =>
            Option.bind (r51 y3.2) fun (y5 : ((Int × Int) × (List Int × Int))) =>
              Option.bind (
                bif b4.2.1 then
                  Option.bind (r52 (y5.2, (1 : Int))) fun (y8 : (Int × (List Int × Int))) =>
                    some ((), ((), (y8.2, (y3.1, (y5.1.1, (y5.1.2, (y8.1, ((0 : Int), ((0 : Int), (false, []))))))))))
                else
                  some ((), ((), (y5.2, (y3.1, (y5.1.1, (y5.1.2, ((0 : Int), ((0 : Int), ((0 : Int), (false, []))))))))))) fun (d9 : (Unit × (Unit × ((List Int × Int) × (Int × (Int × (Int × (Int × (Int × (Int × (Bool × List Int))))))))))) =>
                Option.bind (
                  bif b4.2.2.1 then
                    Option.bind (r52 (d9.2.2.1, (4 : Int))) fun (y12 : (Int × (List Int × Int))) =>
                      some ((), ((), (y12.2, (d9.2.2.2.1, (d9.2.2.2.2.1, (d9.2.2.2.2.2.1, (d9.2.2.2.2.2.2.1, (y12.1, d9.2.2.2.2.2.2.2.2))))))))
                  else
                    some ((), ((), d9.2.2))) fun (d13 : (Unit × (Unit × ((List Int × Int) × (Int × (Int × (Int × (Int × (Int × (Int × (Bool × List Int))))))))))) =>
                  Option.bind (
                    bif b4.2.2.2.2.1 then
                      Option.bind (r52 (d13.2.2.1, (3 : Int))) fun (y16 : (Int × (List Int × Int))) =>
                        some ((), ((), (y16.2, (d13.2.2.2.1, (d13.2.2.2.2.1, (d13.2.2.2.2.2.1, (d13.2.2.2.2.2.2.1, (d13.2.2.2.2.2.2.2.1, (y16.1, d13.2.2.2.2.2.2.2.2.2)))))))))
                    else
                      some ((), ((), d13.2.2))) fun (d17 : (Unit × (Unit × ((List Int × Int) × (Int × (Int × (Int × (Int × (Int × (Int × (Bool × List Int))))))))))) =>
                    Option.bind (
                      bif b4.2.2.2.2.2.1 then
                        Option.bind (r53 d17.2.2.1) fun (y20 : (Bool × (List Int × Int))) =>
                          some ((), ((), (y20.2, (d17.2.2.2.1, (d17.2.2.2.2.1, (d17.2.2.2.2.2.1, (d17.2.2.2.2.2.2.1, (d17.2.2.2.2.2.2.2.1, (d17.2.2.2.2.2.2.2.2.1, (y20.1, d17.2.2.2.2.2.2.2.2.2.2))))))))))
                      else
                        some ((), ((), d17.2.2))) fun (d21 : (Unit × (Unit × ((List Int × Int) × (Int × (Int × (Int × (Int × (Int × (Int × (Bool × List Int))))))))))) =>
                      Option.bind (
                        bif b4.2.2.2.2.2.2.2 then
                          Option.bind (r52 (d21.2.2.1, (1 : Int))) fun (y38 : (Int × (List Int × Int))) =>
                            Option.bind (loopR r28_L0q ((), ((), (y38.1, (y38.2, d21.2.2.2))))) fun (q45 : (Unit × (Unit × ((List Int × Int) × (Int × (Int × (Int × (Int × (Int × (Int × (Bool × List Int))))))))))) =>
                              some ((), ((), q45.2.2))
                        else
                          some ((), ((), d21.2.2))) fun (d46 : (Unit × (Unit × ((List Int × Int) × (Int × (Int × (Int × (Int × (Int × (Int × (Bool × List Int))))))))))) =>
                        Option.bind (r54 d46.2.2.1) fun (y47 : (List Int × Int)) =>
                          Option.bind (
                            bif decide (y47.2 = (0 : Int)) then
                              Option.bind (r43 (a.1, (d46.2.2.2.1, ((d46.2.2.2.2.1, d46.2.2.2.2.2.1), d46.2.2.2.2.2.2)))) fun (y50 : Int) =>
                                some ((), (y47.1, y50))
                            else
                              some ((), y47)) fun (d51 : (Unit × (List Int × Int))) =>
                            bif !(decide (d51.2.2 = (0 : Int))) then
                              Option.bind (
                                sameR (
                                  some ((), (d51.2.2, ((0 : Int), ((0 : Int), ((0 : Int), ((0 : Int), ((0 : Int), ((0 : Int), (false, []))))))))))
 (
                                  sameR (
                                    sameR (
                                      some ((), (d51.2.2, ((0 : Int), ((0 : Int), ((0 : Int), ((0 : Int), ((0 : Int), ((0 : Int), (false, []))))))))))
 (
                                      some ((), (d51.2.2, ((0 : Int), ((0 : Int), ((0 : Int), ((0 : Int), ((0 : Int), ((0 : Int), (false, [])))))))))))
 (
                                    sameR (
                                      sameR (
                                        sameR (
                                          some ((), (d51.2.2, ((0 : Int), ((0 : Int), ((0 : Int), ((0 : Int), ((0 : Int), ((0 : Int), (false, []))))))))))
 (
                                          some ((), (d51.2.2, ((0 : Int), ((0 : Int), ((0 : Int), ((0 : Int), ((0 : Int), ((0 : Int), (false, [])))))))))))
 (
                                        some ((), (d51.2.2, ((0 : Int), ((0 : Int), ((0 : Int), ((0 : Int), ((0 : Int), ((0 : Int), (false, [])))))))))))
 (
                                      sameR (
                                        sameR (
                                          sameR (
                                            sameR (
                                              some ((), (d51.2.2, ((0 : Int), ((0 : Int), ((0 : Int), ((0 : Int), ((0 : Int), ((0 : Int), (false, []))))))))))
 (
                                              some ((), (d51.2.2, ((0 : Int), ((0 : Int), ((0 : Int), ((0 : Int), ((0 : Int), ((0 : Int), (false, [])))))))))))
 (
                                            some ((), (d51.2.2, ((0 : Int), ((0 : Int), ((0 : Int), ((0 : Int), ((0 : Int), ((0 : Int), (false, [])))))))))))
 (
                                          some ((), (d51.2.2, ((0 : Int), ((0 : Int), ((0 : Int), ((0 : Int), ((0 : Int), ((0 : Int), (false, [])))))))))))
 (
                                        sameR (
                                          sameR (
                                            sameR (
                                              sameR (
                                                some ((), (d51.2.2, ((0 : Int), ((0 : Int), ((0 : Int), ((0 : Int), ((0 : Int), ((0 : Int), (false, []))))))))))
 (
                                                some ((), (d51.2.2, ((0 : Int), ((0 : Int), ((0 : Int), ((0 : Int), ((0 : Int), ((0 : Int), (false, [])))))))))))
 (
                                              some ((), (d51.2.2, ((0 : Int), ((0 : Int), ((0 : Int), ((0 : Int), ((0 : Int), ((0 : Int), (false, [])))))))))))
 (
                                            some ((), (d51.2.2, ((0 : Int), ((0 : Int), ((0 : Int), ((0 : Int), ((0 : Int), ((0 : Int), (false, [])))))))))))
 (
                                          some ((), (d51.2.2, ((0 : Int), ((0 : Int), ((0 : Int), ((0 : Int), ((0 : Int), ((0 : Int), (false, []))))))))))))))) fun (d52 : (Unit × (Int × (Int × (Int × (Int × (Int × (Int × (Int × (Bool × List Int)))))))))) =>
                                some ((d52.2.2.1, ((d52.2.2.2.1, d52.2.2.2.2.1), d52.2.2.2.2.2)), d52.2.1)
                            else
                              some ((d46.2.2.2.1, ((d46.2.2.2.2.1, d46.2.2.2.2.2.1), d46.2.2.2.2.2.2)), (0 : Int))
theorem r28e : r28q = r28 := by unfold r28q r28; simp only [sameR_self, r28_L0e]
def an28 : Ann := .two (.leaf) (.two (.two (.leaf) (.two (.leaf) (.two (.two (.leaf) (.leaf)) (.leaf)))) (.two (.leaf) (.two (.leaf) (.two (.leaf) (.two (.leaf) (.two (.join [2, 4, 9] [2, 4, 9] [⟨.normal, [], [.tmp 7 (.pt 21 [(0, 0)] 0 0 2), .tmp 8 (.pt 8 [(0, 0)] 0 0 8), .box 21 [.sl .own (.int .u8), .int .i64], .box 8 [.int .i64, .int .i64, .int .i64, .int .i64, .int .i64, .int .i64, .bool, .sl .own (.int .i64)]]⟩] (.two (.leaf) (.two (.leaf) (.leaf)))) (.two (.join [2, 4, 9] [2, 4, 9] [⟨.normal, [], [.tmp 7 (.pt 21 [(0, 0)] 0 0 2), .tmp 8 (.pt 8 [(0, 0)] 0 0 8), .box 21 [.sl .own (.int .u8), .int .i64], .box 8 [.int .i64, .int .i64, .int .i64, .int .i64, .int .i64, .int .i64, .bool, .sl .own (.int .i64)]]⟩] (.two (.leaf) (.two (.leaf) (.leaf)))) (.two (.join [2, 4, 9] [2, 4, 9] [⟨.normal, [], [.tmp 7 (.pt 21 [(0, 0)] 0 0 2), .tmp 8 (.pt 8 [(0, 0)] 0 0 8), .box 21 [.sl .own (.int .u8), .int .i64], .box 8 [.int .i64, .int .i64, .int .i64, .int .i64, .int .i64, .int .i64, .bool, .sl .own (.int .i64)]]⟩] (.two (.leaf) (.two (.leaf) (.leaf)))) (.two (.join [2, 4, 9] [2, 4, 9] [⟨.normal, [], [.tmp 7 (.pt 21 [(0, 0)] 0 0 2), .tmp 8 (.pt 8 [(0, 0)] 0 0 8), .box 21 [.sl .own (.int .u8), .int .i64], .box 8 [.int .i64, .int .i64, .int .i64, .int .i64, .int .i64, .int .i64, .bool, .sl .own (.int .i64)]]⟩] (.two (.leaf) (.two (.leaf) (.leaf)))) (.two (.join [2, 4] [2, 4] [⟨.normal, [], [.tmp 7 (.pt 21 [(0, 0)] 0 0 2), .tmp 8 (.pt 8 [(0, 0)] 0 0 8), .box 21 [.sl .own (.int .u8), .int .i64], .box 8 [.int .i64, .int .i64, .int .i64, .int .i64, .int .i64, .int .i64, .bool, .sl .own (.int .i64)]]⟩] (.two (.leaf) (.two (.two (.leaf) (.one (.loop [2, 4] [2, 4] [] [.tmp 7 (.pt 21 [(0, 0)] 0 0 2), .tmp 8 (.pt 8 [(0, 0)] 0 0 8), .tmp 10 (.int .i64), .box 21 [.sl .own (.int .u8), .int .i64], .box 8 [.int .i64, .int .i64, .int .i64, .int .i64, .int .i64, .int .i64, .bool, .sl .own (.int .i64)]] [⟨.exit 0, [], [.tmp 7 (.pt 21 [(0, 0)] 0 0 2), .tmp 8 (.pt 8 [(0, 0)] 0 0 8), .box 21 [.sl .own (.int .u8), .int .i64], .box 8 [.int .i64, .int .i64, .int .i64, .int .i64, .int .i64, .int .i64, .bool, .sl .own (.int .i64)]]⟩] (.two (.two (.join [2, 4, 7, 8, 10] [2, 4, 8, 21] [⟨.normal, [], [.tmp 64 (.bool)]⟩] (.leaf)) (.two (.leaf) (.leaf))) (.two (.one (.two (.leaf) (.leaf))) (.leaf)))))) (.leaf)))) (.two (.leaf) (.two (.join [4, 8] [4, 8] [⟨.normal, [], [.tmp 7 (.pt 21 [(0, 0)] 0 0 2), .box 21 [.sl .own (.int .u8), .int .i64]]⟩] (.two (.leaf) (.two (.leaf) (.leaf)))) (.two (.two (.leaf) (.two (.two (.join [] [] [⟨.normal, [], [.tmp 4 (.pt 4 [(0, 0)] 0 0 8), .tmp 5 (.int .i64), .box 4 [.int .i64, .int .i64, .int .i64, .int .i64, .int .i64, .int .i64, .bool, .sl .own (.int .i64)]]⟩] (.drawT [0, 1, 2, 3, 4] [1, 2, 3, 4])) (.leaf)) (.leaf))) (.two (.leaf) (.leaf)))))))))))))))
theorem s28 : SoundF cx.P cx.G 28 sg28 r28 := by
  have e : denF cx [(38, ⟨sg38, r38⟩), (43, ⟨sg43, r43⟩), (49, ⟨sg49, r49⟩), (50, ⟨sg50, r50⟩), (51, ⟨sg51, r51⟩), (52, ⟨sg52, r52⟩), (53, ⟨sg53, r53⟩), (54, ⟨sg54, r54⟩)] an28 Tryd.f28.ntmps (Tryd.f28.body.getD .skip) Tryd.f28.results.toList sg28 = r28q := by kernel_rfl
  rw [← r28e, ← e]
  exact sound_of_den (c := cx) (Known.cons (.ofF s38 (by kernel_rfl)) Tryd.func38 (by kernel_rfl) (by kernel_rfl) (Known.cons (.ofF s43 (by kernel_rfl)) Tryd.func43 (by kernel_rfl) (by kernel_rfl) (Known.cons (.ofF s49 (by kernel_rfl)) Tryd.func49 (by kernel_rfl) (by kernel_rfl) (Known.cons (.ofM s50 (by kernel_rfl)) Tryd.func50 (by kernel_rfl) (by kernel_rfl) (Known.cons (.ofM s51 (by kernel_rfl)) Tryd.func51 (by kernel_rfl) (by kernel_rfl) (Known.cons (.ofM s52 (by kernel_rfl)) Tryd.func52 (by kernel_rfl) (by kernel_rfl) (Known.cons (.ofM s53 (by kernel_rfl)) Tryd.func53 (by kernel_rfl) (by kernel_rfl) (Known.cons (.ofM s54 (by kernel_rfl)) Tryd.func54 (by kernel_rfl) (by kernel_rfl) (Known.nil))))))))) Tryd.func28 (by kernel_rfl) (Nat.le_of_ble_eq_true (by kernel_rfl))

/-! reredos/reredoskeep.sameInts -/
noncomputable def r55_L0 (a : (List Int × List Int)) : Int → Option (Int ⊕ (Unit ⊕ Bool)) := fun d1 =>
  bif decide (d1 < (↑a.1.length : Int)) then
    Option.bind (idxI a.1 d1) fun (b4 : Int) =>
      Option.bind (idxI a.2 d1) fun (b5 : Int) =>
        bif !(decide (b4 = b5)) then
          some (Sum.inr (Sum.inr false))
        else
          some (Sum.inl (Go.IntKind.wrap .i64 (d1 + (1 : Int))))
  else
    some (Sum.inr (Sum.inl ()))
def sg55 : Sig := ⟨[⟨false, .bo, (.sl (.int .i64))⟩, ⟨false, .bo, (.sl (.int .i64))⟩], [⟨false, .own, .bool⟩]⟩
noncomputable def r55 : (List Int × List Int) → Option Bool := fun a =>
  bif !(decide ((↑a.1.length : Int) = (↑a.2.length : Int))) then
    some false
  else
    Option.bind (loopR (r55_L0 a) (0 : Int)) fun (q6 : (Unit ⊕ Bool)) =>
      Sum.elim (fun (v7 : Unit) =>
          some true)
        (fun (v8 : Bool) =>
          some v8) q6
def an55 : Ann := .two (.leaf) (.two (.two (.leaf) (.two (.two (.leaf) (.leaf)) (.leaf))) (.two (.two (.leaf) (.one (.loop [0, 1] [] [] [.tmp 5 (.int .i64)] [⟨.exit 0, [], []⟩, ⟨.ret, [], [.tmp 4 (.bool)]⟩] (.two (.two (.leaf) (.two (.leaf) (.leaf))) (.two (.one (.two (.draw 8) (.two (.two (.leaf) (.leaf)) (.leaf)))) (.leaf)))))) (.two (.leaf) (.leaf))))
theorem s55 : SoundF cx.P cx.G 55 sg55 r55 := by
  have e : denF cx [] an55 Tryd.f55.ntmps (Tryd.f55.body.getD .skip) Tryd.f55.results.toList sg55 = r55 := by kernel_rfl
  rw [← e]
  exact sound_of_den (c := cx) (Known.nil) Tryd.func55 (by kernel_rfl) (Nat.le_of_ble_eq_true (by kernel_rfl))

/-! reredos/reredoskeep.sameRecord -/
def sg29 : Sig := ⟨[⟨true, .bo, (.pair (.int .i64) (.pair (.pair (.int .i64) (.int .i64)) (.pair (.int .i64) (.pair (.int .i64) (.pair (.int .i64) (.pair .bool (.sl (.int .i64))))))))⟩, ⟨true, .bo, (.pair (.int .i64) (.pair (.pair (.int .i64) (.int .i64)) (.pair (.int .i64) (.pair (.int .i64) (.pair (.int .i64) (.pair .bool (.sl (.int .i64))))))))⟩], [⟨false, .own, .bool⟩]⟩
noncomputable def r29 : ((Int × ((Int × Int) × (Int × (Int × (Int × (Bool × List Int)))))) × (Int × ((Int × Int) × (Int × (Int × (Int × (Bool × List Int))))))) → Option Bool := fun a =>
  Option.bind (
    bif decide (a.1.1 = a.2.1) then
      some (decide (a.1.2.1.1 = a.2.2.1.1) && (decide (a.1.2.1.2 = a.2.2.1.2) && true))
    else
      some false) fun (g1 : Bool) =>
    Option.bind (
      bif g1 then
        some (decide (a.1.2.2.1 = a.2.2.2.1))
      else
        some false) fun (g2 : Bool) =>
      Option.bind (
        bif g2 then
          some (decide (a.1.2.2.2.1 = a.2.2.2.2.1))
        else
          some false) fun (g3 : Bool) =>
        Option.bind (
          bif g3 then
            some (decide (a.1.2.2.2.2.1 = a.2.2.2.2.2.1))
          else
            some false) fun (g4 : Bool) =>
          Option.bind (
            bif g4 then
              some (decide (a.1.2.2.2.2.2.1 = a.2.2.2.2.2.2.1))
            else
              some false) fun (g5 : Bool) =>
            bif g5 then
              Option.bind (r55 (a.1.2.2.2.2.2.2, a.2.2.2.2.2.2.2)) fun (y6 : Bool) =>
                some y6
            else
              some false
def an29 : Ann := .two (.leaf) (.two (.segs [(12, ([2, 3], ([2, 3], [.tmp 16 (.bool)]))), (7, ([2, 3], ([2, 3], [.tmp 23 (.bool)]))), (7, ([2, 3], ([2, 3], [.tmp 30 (.bool)]))), (7, ([2, 3], ([2, 3], [.tmp 37 (.bool)]))), (7, ([2, 3], ([2, 3], [.tmp 44 (.bool)])))]) (.leaf))
theorem s29 : SoundF cx.P cx.G 29 sg29 r29 := by
  have e : denF cx [(55, ⟨sg55, r55⟩)] an29 Tryd.f29.ntmps (Tryd.f29.body.getD .skip) Tryd.f29.results.toList sg29 = r29 := by kernel_rfl
  rw [← e]
  exact sound_of_den (c := cx) (Known.cons (.ofF s55 (by kernel_rfl)) Tryd.func55 (by kernel_rfl) (by kernel_rfl) (Known.nil)) Tryd.func29 (by kernel_rfl) (Nat.le_of_ble_eq_true (by kernel_rfl))

/-! reredos/reredoskeep.RecordBack -/
def sg6 : Sig := ⟨[⟨false, .bo, (.int .i64)⟩, ⟨false, .bo, (.sl (.int .i64))⟩, ⟨true, .bo, (.pair (.int .i64) (.pair (.int .i64) (.pair (.int .i64) (.pair (.int .i64) (.pair (.int .i64) (.int .i64))))))⟩, ⟨false, .bo, (.int .u8)⟩, ⟨false, .bo, (.int .i64)⟩], [⟨false, .own, .bool⟩]⟩
noncomputable def r6 : (Int × (List Int × ((Int × (Int × (Int × (Int × (Int × Int))))) × (Int × Int)))) → Option Bool := fun a =>
  Option.bind (r14 (a.1, a.2.1, (1 : Int))) fun (y1 : (Int × (List ((Int × Int)) × Int))) =>
    Option.bind (r21 (y1, a.2.2.1)) fun (y2 : (Int × ((Int × Int) × (Int × (Int × (Int × (Bool × List Int))))))) =>
      Option.bind (r22 (y1, y2)) fun (y3 : (List Int × Int)) =>
        Option.bind (r28 (y1, y3.1)) fun (y4 : ((Int × ((Int × Int) × (Int × (Int × (Int × (Bool × List Int)))))) × Int)) =>
          Option.bind (
            bif roomOk true 0 y3.1.length 1 then
              
                bif roomOk false y3.1.length 1 1 then
                  Option.bind (r28 (y1, app y3.1 [a.2.2.2.1])) fun (y19 : ((Int × ((Int × Int) × (Int × (Int × (Int × (Bool × List Int)))))) × Int)) =>
                    
                      
                        some y19.2
                else
                  none
            else
              none) fun (d33 : Int) =>
            Option.bind (
              Option.bind (r19 (a.2.2.2.2, (max (↑y3.1.length : Int) (1 : Int)))) fun (y38 : Int) =>
                bif okB none (some y38) none y3.1.length then
                  Option.bind (r28 (y1, midL y3.1 0 (Int.toNat y38))) fun (y39 : ((Int × ((Int × Int) × (Int × (Int × (Int × (Bool × List Int)))))) × Int)) =>
                    
                      some y39.2
                else
                  none) fun (d40 : Int) =>
              Option.bind (
                bif decide (y3.2 = (0 : Int)) then
                  some (decide (y4.2 = (0 : Int)))
                else
                  some false) fun (g41 : Bool) =>
                Option.bind (
                  bif g41 then
                    some (decide (d33 = (4 : Int)))
                  else
                    some false) fun (g42 : Bool) =>
                  Option.bind (
                    bif g42 then
                      some (decide (d40 = (5 : Int)))
                    else
                      some false) fun (g43 : Bool) =>
                    bif g43 then
                      Option.bind (r29 (y2, y4.1)) fun (y44 : Bool) =>
                        some y44
                    else
                      some false
noncomputable def r6q : (Int × (List Int × ((Int × (Int × (Int × (Int × (Int × Int))))) × (Int × Int)))) → Option Bool := fun a =>
  Option.bind (r14 (a.1, a.2.1, (1 : Int))) fun (y1 : (Int × (List ((Int × Int)) × Int))) =>
    Option.bind (r21 (y1, a.2.2.1)) fun (y2 : (Int × ((Int × Int) × (Int × (Int × (Int × (Bool × List Int))))))) =>
      Option.bind (r22 (y1, y2)) fun (y3 : (List Int × Int)) =>
        Option.bind (r28 (y1, y3.1)) fun (y4 : ((Int × ((Int × Int) × (Int × (Int × (Int × (Bool × List Int)))))) × Int)) =>
          Option.bind (
            bif roomOk true 0 y3.1.length 1 then
              sameR (
                bif roomOk false y3.1.length 1 1 then
                  Option.bind (r28 (y1, app y3.1 [a.2.2.2.1])) fun (y19 : ((Int × ((Int × Int) × (Int × (Int × (Int × (Bool × List Int)))))) × Int)) =>
                    sameR (
                      sameR (
                        some y19.2)
 (
                        some y19.2))
 (
                      some y19.2)
                else
                  none)
 (
                sameR (
                  sameR (
                    bif roomOk false y3.1.length 1 1 then
                      Option.bind (r28 (y1, app y3.1 [a.2.2.2.1])) fun (y20 : ((Int × ((Int × Int) × (Int × (Int × (Int × (Bool × List Int)))))) × Int)) =>
                        sameR (
                          sameR (
                            some y20.2)
 (
                            some y20.2))
 (
                          some y20.2)
                    else
                      none)
 (
                    bif roomOk false y3.1.length 1 1 then
                      sameR (
                        Option.bind (r28 (y1, app y3.1 [a.2.2.2.1])) fun (y21 : ((Int × ((Int × Int) × (Int × (Int × (Int × (Bool × List Int)))))) × Int)) =>
                          sameR (
                            sameR (
                              some y21.2)
 (
                              some y21.2))
 (
                            some y21.2))
 (
                        Option.bind (r28 (y1, app y3.1 [a.2.2.2.1])) fun (y22 : ((Int × ((Int × Int) × (Int × (Int × (Int × (Bool × List Int)))))) × Int)) =>
                          sameR (
                            sameR (
                              sameR (
                                some y22.2)
 (
                                some y22.2))
 (
                              some y22.2))
 (
                            sameR (
                              sameR (
                                sameR (
                                  some y22.2)
 (
                                  some y22.2))
 (
                                some y22.2))
 (
                              sameR (
                                sameR (
                                  sameR (
                                    some y22.2)
 (
                                    some y22.2))
 (
                                  some y22.2))
 (
                                sameR (
                                  some y22.2)
 (
                                  some y22.2)))))
                    else
                      none))
 (
                  sameR (
                    sameR (
                      bif roomOk false y3.1.length 1 1 then
                        Option.bind (r28 (y1, app y3.1 [a.2.2.2.1])) fun (y23 : ((Int × ((Int × Int) × (Int × (Int × (Int × (Bool × List Int)))))) × Int)) =>
                          sameR (
                            sameR (
                              some y23.2)
 (
                              some y23.2))
 (
                            some y23.2)
                      else
                        none)
 (
                      bif roomOk false y3.1.length 1 1 then
                        Option.bind (r28 (y1, app y3.1 [a.2.2.2.1])) fun (y24 : ((Int × ((Int × Int) × (Int × (Int × (Int × (Bool × List Int)))))) × Int)) =>
                          sameR (
                            sameR (
                              some y24.2)
 (
                              some y24.2))
 (
                            some y24.2)
                      else
                        none))
 (
                    sameR (
                      sameR (
                        bif roomOk false y3.1.length 1 1 then
                          Option.bind (r28 (y1, app y3.1 [a.2.2.2.1])) fun (y25 : ((Int × ((Int × Int) × (Int × (Int × (Int × (Bool × List Int)))))) × Int)) =>
                            sameR (
                              sameR (
                                some y25.2)
 (
                                some y25.2))
 (
                              some y25.2)
                        else
                          none)
 (
                        bif roomOk false y3.1.length 1 1 then
                          sameR (
                            Option.bind (r28 (y1, app y3.1 [a.2.2.2.1])) fun (y26 : ((Int × ((Int × Int) × (Int × (Int × (Int × (Bool × List Int)))))) × Int)) =>
                              sameR (
                                sameR (
                                  some y26.2)
 (
                                  some y26.2))
 (
                                some y26.2))
 (
                            Option.bind (r28 (y1, app y3.1 [a.2.2.2.1])) fun (y27 : ((Int × ((Int × Int) × (Int × (Int × (Int × (Bool × List Int)))))) × Int)) =>
                              sameR (
                                sameR (
                                  sameR (
                                    some y27.2)
 (
                                    some y27.2))
 (
                                  some y27.2))
 (
                                sameR (
                                  sameR (
                                    sameR (
                                      some y27.2)
 (
                                      some y27.2))
 (
                                    some y27.2))
 (
                                  sameR (
                                    sameR (
                                      sameR (
                                        some y27.2)
 (
                                        some y27.2))
 (
                                      some y27.2))
 (
                                    sameR (
                                      some y27.2)
 (
                                      some y27.2)))))
                        else
                          none))
 (
                      sameR (
                        sameR (
                          bif roomOk false y3.1.length 1 1 then
                            Option.bind (r28 (y1, app y3.1 [a.2.2.2.1])) fun (y28 : ((Int × ((Int × Int) × (Int × (Int × (Int × (Bool × List Int)))))) × Int)) =>
                              sameR (
                                sameR (
                                  some y28.2)
 (
                                  some y28.2))
 (
                                some y28.2)
                          else
                            none)
 (
                          bif roomOk false y3.1.length 1 1 then
                            Option.bind (r28 (y1, app y3.1 [a.2.2.2.1])) fun (y29 : ((Int × ((Int × Int) × (Int × (Int × (Int × (Bool × List Int)))))) × Int)) =>
                              sameR (
                                sameR (
                                  some y29.2)
 (
                                  some y29.2))
 (
                                some y29.2)
                          else
                            none))
 (
                        bif roomOk false y3.1.length 1 1 then
                          sameR (
                            sameR (
                              Option.bind (r28 (y1, app y3.1 [a.2.2.2.1])) fun (y30 : ((Int × ((Int × Int) × (Int × (Int × (Int × (Bool × List Int)))))) × Int)) =>
                                sameR (
                                  sameR (
                                    some y30.2)
 (
                                    some y30.2))
 (
                                  some y30.2))
 (
                              Option.bind (r28 (y1, app y3.1 [a.2.2.2.1])) fun (y31 : ((Int × ((Int × Int) × (Int × (Int × (Int × (Bool × List Int)))))) × Int)) =>
                                sameR (
                                  sameR (
                                    sameR (
                                      some y31.2)
 (
                                      some y31.2))
 (
                                    some y31.2))
 (
                                  sameR (
                                    sameR (
                                      sameR (
                                        some y31.2)
 (
                                        some y31.2))
 (
                                      some y31.2))
 (
                                    sameR (
                                      sameR (
                                        sameR (
                                          some y31.2)
 (
                                          some y31.2))
 (
                                        some y31.2))
 (
                                      sameR (
                                        some y31.2)
 (
                                        some y31.2))))))
 (
                            Option.bind (r28 (y1, app y3.1 [a.2.2.2.1])) fun (y32 : ((Int × ((Int × Int) × (Int × (Int × (Int × (Bool × List Int)))))) × Int)) =>
                              sameR (
                                sameR (
                                  some y32.2)
 (
                                  some y32.2))
 (
                                some y32.2))
                        else
                          none)))))
            else
              none) fun (d33 : Int) =>
            Option.bind (
              Option.bind (r19 (a.2.2.2.2, (max (↑y3.1.length : Int) (1 : Int)))) fun (y38 : Int) =>
                bif okB none (some y38) none y3.1.length then
                  Option.bind (r28 (y1, midL y3.1 0 (Int.toNat y38))) fun (y39 : ((Int × ((Int × Int) × (Int × (Int × (Int × (Bool × List Int)))))) × Int)) =>
                    sameR (
                      some y39.2)
 (
                      sameR (
                        some y39.2)
 (
                        some y39.2))
                else
                  none) fun (d40 : Int) =>
              Option.bind (
                bif decide (y3.2 = (0 : Int)) then
                  some (decide (y4.2 = (0 : Int)))
                else
                  some false) fun (g41 : Bool) =>
                Option.bind (
                  bif g41 then
                    some (decide (d33 = (4 : Int)))
                  else
                    some false) fun (g42 : Bool) =>
                  Option.bind (
                    bif g42 then
                      some (decide (d40 = (5 : Int)))
                    else
                      some false) fun (g43 : Bool) =>
                    bif g43 then
                      Option.bind (r29 (y2, y4.1)) fun (y44 : Bool) =>
                        some y44
                    else
                      some false
theorem r6e : r6q = r6 := by unfold r6q r6; simp only [sameR_self]
def an6 : Ann := .two (.leaf) (.two (.leaf) (.two (.leaf) (.two (.leaf) (.two (.leaf) (.two (.join [4, 11, 12, 13, 14, 15, 16] [11, 12, 15, 30] [⟨.normal, [], [.tmp 18 (.int .i64)]⟩] (.drawT [0, 1, 2, 3, 4, 10] [0, 10])) (.two (.join [12, 14, 15, 16, 18] [12, 15] [⟨.normal, [], [.tmp 20 (.int .i64)]⟩] (.drawT [0, 1, 2, 3, 4, 5, 6, 7, 8, 9, 10, 11, 12] [11])) (.two (.segs [(6, ([12, 15, 18, 20], ([12, 15], [.tmp 66 (.bool)]))), (4, ([12, 15, 20], ([12, 15], [.tmp 70 (.bool)]))), (4, ([12, 15], ([12, 15], [.tmp 74 (.bool)])))]) (.leaf))))))))
theorem s6 : SoundF cx.P cx.G 6 sg6 r6 := by
  have e : denF cx [(14, ⟨sg14, r14⟩), (19, ⟨sg19, r19⟩), (21, ⟨sg21, r21⟩), (22, ⟨sg22, r22⟩), (28, ⟨sg28, r28⟩), (29, ⟨sg29, r29⟩)] an6 Tryd.f6.ntmps (Tryd.f6.body.getD .skip) Tryd.f6.results.toList sg6 = r6q := by kernel_rfl
  rw [← r6e, ← e]
  exact sound_of_den (c := cx) (Known.cons (.ofF s14 (by kernel_rfl)) Tryd.func14 (by kernel_rfl) (by kernel_rfl) (Known.cons (.ofF s19 (by kernel_rfl)) Tryd.func19 (by kernel_rfl) (by kernel_rfl) (Known.cons (.ofF s21 (by kernel_rfl)) Tryd.func21 (by kernel_rfl) (by kernel_rfl) (Known.cons (.ofF s22 (by kernel_rfl)) Tryd.func22 (by kernel_rfl) (by kernel_rfl) (Known.cons (.ofF s28 (by kernel_rfl)) Tryd.func28 (by kernel_rfl) (by kernel_rfl) (Known.cons (.ofF s29 (by kernel_rfl)) Tryd.func29 (by kernel_rfl) (by kernel_rfl) (Known.nil))))))) Tryd.func6 (by kernel_rfl) (Nat.le_of_ble_eq_true (by kernel_rfl))

/-! reredos/reredoskeep.RecordFixed -/
def sg7 : Sig := ⟨[⟨false, .bo, (.int .i64)⟩, ⟨false, .bo, (.sl (.int .i64))⟩, ⟨false, .bo, (.sl (.int .u8))⟩], [⟨false, .own, .bool⟩]⟩
noncomputable def r7 : (Int × (List Int × List Int)) → Option Bool := fun a =>
  Option.bind (r14 (a.1, a.2.1, (1 : Int))) fun (y1 : (Int × (List ((Int × Int)) × Int))) =>
    Option.bind (
      bif roomOk true 0 a.2.2.length 1 then
        Option.bind (r28 (y1, a.2.2)) fun (y4 : ((Int × ((Int × Int) × (Int × (Int × (Int × (Bool × List Int)))))) × Int)) =>
          
            some ((), (y4.2, (y4.1.1, (y4.1.2.1.1, (y4.1.2.1.2, y4.1.2.2)))))
      else
        none) fun (d5 : (Unit × (Int × (Int × (Int × (Int × (Int × (Int × (Int × (Bool × List Int)))))))))) =>
      bif !(decide (d5.2.1 = (0 : Int))) then
        Option.bind (r28 (y1, [])) fun (y6 : ((Int × ((Int × Int) × (Int × (Int × (Int × (Bool × List Int)))))) × Int)) =>
          bif decide (d5.2.2.1 = (0 : Int)) then
            some (decide (y6.2 = (5 : Int)))
          else
            some false
      else
        Option.bind (r22 (y1, (d5.2.2.1, ((d5.2.2.2.1, d5.2.2.2.2.1), d5.2.2.2.2.2)))) fun (y7 : (List Int × Int)) =>
          bif decide (y7.2 = (0 : Int)) then
            some (decide ((List.map byte8 y7.1) = (List.map byte8 a.2.2)))
          else
            some false
noncomputable def r7q : (Int × (List Int × List Int)) → Option Bool := fun a =>
  Option.bind (r14 (a.1, a.2.1, (1 : Int))) fun (y1 : (Int × (List ((Int × Int)) × Int))) =>
    Option.bind (
      bif roomOk true 0 a.2.2.length 1 then
        Option.bind (r28 (y1, a.2.2)) fun (y4 : ((Int × ((Int × Int) × (Int × (Int × (Int × (Bool × List Int)))))) × Int)) =>
          sameR (
            some ((), (y4.2, (y4.1.1, (y4.1.2.1.1, (y4.1.2.1.2, y4.1.2.2))))))
 (
            sameR (
              some ((), (y4.2, (y4.1.1, (y4.1.2.1.1, (y4.1.2.1.2, y4.1.2.2))))))
 (
              some ((), (y4.2, (y4.1.1, (y4.1.2.1.1, (y4.1.2.1.2, y4.1.2.2)))))))
      else
        none) fun (d5 : (Unit × (Int × (Int × (Int × (Int × (Int × (Int × (Int × (Bool × List Int)))))))))) =>
      bif !(decide (d5.2.1 = (0 : Int))) then
        Option.bind (r28 (y1, [])) fun (y6 : ((Int × ((Int × Int) × (Int × (Int × (Int × (Bool × List Int)))))) × Int)) =>
          bif decide (d5.2.2.1 = (0 : Int)) then
            some (decide (y6.2 = (5 : Int)))
          else
            some false
      else
        Option.bind (r22 (y1, (d5.2.2.1, ((d5.2.2.2.1, d5.2.2.2.2.1), d5.2.2.2.2.2)))) fun (y7 : (List Int × Int)) =>
          bif decide (y7.2 = (0 : Int)) then
            some (decide ((List.map byte8 y7.1) = (List.map byte8 a.2.2)))
          else
            some false
theorem r7e : r7q = r7 := by unfold r7q r7; simp only [sameR_self]
def an7 : Ann := .two (.leaf) (.two (.leaf) (.two (.join [2, 7] [7] [⟨.normal, [], [.tmp 8 (.pt 8 [(0, 0)] 0 0 8), .tmp 9 (.int .i64), .box 8 [.int .i64, .int .i64, .int .i64, .int .i64, .int .i64, .int .i64, .bool, .sl .ro (.int .i64)]]⟩] (.drawT [0, 1, 2, 3, 4, 5, 6, 7] [6])) (.two (.two (.leaf) (.two (.two (.leaf) (.two (.leaf) (.leaf))) (.leaf))) (.two (.leaf) (.two (.leaf) (.leaf))))))
theorem s7 : SoundF cx.P cx.G 7 sg7 r7 := by
  have e : denF cx [(14, ⟨sg14, r14⟩), (22, ⟨sg22, r22⟩), (28, ⟨sg28, r28⟩)] an7 Tryd.f7.ntmps (Tryd.f7.body.getD .skip) Tryd.f7.results.toList sg7 = r7q := by kernel_rfl
  rw [← r7e, ← e]
  exact sound_of_den (c := cx) (Known.cons (.ofF s14 (by kernel_rfl)) Tryd.func14 (by kernel_rfl) (by kernel_rfl) (Known.cons (.ofF s22 (by kernel_rfl)) Tryd.func22 (by kernel_rfl) (by kernel_rfl) (Known.cons (.ofF s28 (by kernel_rfl)) Tryd.func28 (by kernel_rfl) (by kernel_rfl) (Known.nil)))) Tryd.func7 (by kernel_rfl) (Nat.le_of_ble_eq_true (by kernel_rfl))

end Go.Hg
