/- What the functions compute: written by gen.py. -/
import Derived.Test.YtgiceldgkonbbaaRvThirtySeven
import Derived.Test.YtgiceldgkonbbaaProg
import Derived.KernelRfl
namespace Go.Ha
open Go.RowKit Go.Proofs Go.V
def tys : List (Nat × TyInfo) := [
  (3, ⟨.int .i64, 1, 8, [.int .i64 0], false, [none], [none], (.int .i64)⟩),
  (4, ⟨.bool, 1, 1, [.bool false], false, [none], [none], .bool⟩),
  (5, ⟨.int .u8, 1, 1, [.int .u8 0], false, [none], [none], (.int .u8)⟩),
  (9, ⟨.str, 1, 16, [.string ⟨#[]⟩], false, [none], [none], .str⟩),
  (23, ⟨.st [(0, 3), (1, 3)], 2, 16, [.int .i64 0, .int .i64 0], true, [none, none], [none, none], (.pair (.int .i64) (.int .i64))⟩),
  (28, ⟨.sl 3, 1, 24, [.slice none 0 0], false, [some (.int .i64)], [none], (.sl (.int .i64))⟩),
  (29, ⟨.sl 23, 1, 24, [.slice none 0 0], false, [some (.pair (.int .i64) (.int .i64))], [none], (.sl (.pair (.int .i64) (.int .i64)))⟩),
  (31, ⟨.st [(0, 3), (1, 29), (2, 3)], 3, 40, [.int .i64 0, .slice none 0 0, .int .i64 0], false, [none, some (.pair (.int .i64) (.int .i64)), none], [none, none, none], (.pair (.int .i64) (.pair (.rsl (.pair (.int .i64) (.int .i64))) (.int .i64)))⟩),
  (33, ⟨.int .i64, 1, 8, [.int .i64 0], false, [none], [none], (.int .i64)⟩),
  (40, ⟨.sl 59, 1, 24, [.slice none 0 0], false, [some (.pair (.int .i64) (.pair (.int .i64) (.pair (.int .i64) (.pair (.int .i64) (.pair (.int .i64) (.int .i64))))))], [none], (.sl (.pair (.int .i64) (.pair (.int .i64) (.pair (.int .i64) (.pair (.int .i64) (.pair (.int .i64) (.int .i64)))))))⟩),
  (41, ⟨.sl 51, 1, 24, [.slice none 0 0], false, [some (.pair (.int .i64) (.pair (.int .i64) (.pair (.int .i64) (.pair (.int .i64) (.pair (.int .i64) (.pair (.rsl (.int .i64)) (.pair (.pair (.int .i64) (.pair (.int .i64) (.pair (.int .i64) (.pair (.int .i64) (.int .i64))))) .str)))))))], [none], (.sl (.pair (.int .i64) (.pair (.int .i64) (.pair (.int .i64) (.pair (.int .i64) (.pair (.int .i64) (.pair (.rsl (.int .i64)) (.pair (.pair (.int .i64) (.pair (.int .i64) (.pair (.int .i64) (.pair (.int .i64) (.int .i64))))) .str))))))))⟩),
  (49, ⟨.st [(0, 3), (1, 3), (2, 3), (3, 3), (4, 3)], 5, 40, [.int .i64 0, .int .i64 0, .int .i64 0, .int .i64 0, .int .i64 0], true, [none, none, none, none, none], [none, none, none, none, none], (.pair (.int .i64) (.pair (.int .i64) (.pair (.int .i64) (.pair (.int .i64) (.int .i64)))))⟩),
  (51, ⟨.st [(0, 3), (1, 3), (2, 3), (3, 3), (4, 3), (5, 28), (6, 49), (11, 9)], 12, 120, [.int .i64 0, .int .i64 0, .int .i64 0, .int .i64 0, .int .i64 0, .slice none 0 0, .int .i64 0, .int .i64 0, .int .i64 0, .int .i64 0, .int .i64 0, .string ⟨#[]⟩], false, [none, none, none, none, none, some (.int .i64), none, none, none, none, none, none], [none, none, none, none, none, none, none, none, none, none, none, none], (.pair (.int .i64) (.pair (.int .i64) (.pair (.int .i64) (.pair (.int .i64) (.pair (.int .i64) (.pair (.rsl (.int .i64)) (.pair (.pair (.int .i64) (.pair (.int .i64) (.pair (.int .i64) (.pair (.int .i64) (.int .i64))))) .str)))))))⟩),
  (59, ⟨.st [(0, 3), (1, 3), (2, 3), (3, 3), (4, 3), (5, 3)], 6, 48, [.int .i64 0, .int .i64 0, .int .i64 0, .int .i64 0, .int .i64 0, .int .i64 0], false, [none, none, none, none, none, none], [none, none, none, none, none, none], (.pair (.int .i64) (.pair (.int .i64) (.pair (.int .i64) (.pair (.int .i64) (.pair (.int .i64) (.int .i64))))))⟩),
  (71, ⟨.sl 9, 1, 24, [.slice none 0 0], false, [some .str], [none], (.sl .str)⟩),
  (74, ⟨.sl 5, 1, 24, [.slice none 0 0], false, [some (.int .u8)], [none], (.sl (.int .u8))⟩)]
theorem tysOk : TyOk Try.prog tys := tyOk_of fun e he => by
  simp only [tys, List.mem_cons, List.not_mem_nil, or_false] at he
  rcases he with rfl | rfl | rfl | rfl | rfl | rfl | rfl | rfl | rfl | rfl | rfl | rfl | rfl | rfl | rfl | rfl
  · exact ⟨by kernel_rfl, by kernel_rfl, fun h => nomatch h⟩
  · exact ⟨by kernel_rfl, by kernel_rfl, fun h => nomatch h⟩
  · exact ⟨by kernel_rfl, by kernel_rfl, fun h => nomatch h⟩
  · exact ⟨by kernel_rfl, by kernel_rfl, fun h => nomatch h⟩
  · exact ⟨by kernel_rfl, by kernel_rfl, fun _ => ⟨by kernel_rfl, by kernel_rfl, by kernel_rfl⟩⟩
  · exact ⟨by kernel_rfl, by kernel_rfl, fun h => nomatch h⟩
  · exact ⟨by kernel_rfl, by kernel_rfl, fun h => nomatch h⟩
  · exact ⟨by kernel_rfl, by kernel_rfl, fun h => nomatch h⟩
  · exact ⟨by kernel_rfl, by kernel_rfl, fun h => nomatch h⟩
  · exact ⟨by kernel_rfl, by kernel_rfl, fun h => nomatch h⟩
  · exact ⟨by kernel_rfl, by kernel_rfl, fun h => nomatch h⟩
  · exact ⟨by kernel_rfl, by kernel_rfl, fun _ => ⟨by kernel_rfl, by kernel_rfl, by kernel_rfl⟩⟩
  · exact ⟨by kernel_rfl, by kernel_rfl, fun h => nomatch h⟩
  · exact ⟨by kernel_rfl, by kernel_rfl, fun h => nomatch h⟩
  · exact ⟨by kernel_rfl, by kernel_rfl, fun h => nomatch h⟩
  · exact ⟨by kernel_rfl, by kernel_rfl, fun h => nomatch h⟩
noncomputable def cx : Ctx := ⟨Try.prog, tys, tysOk, [], by kernel_rfl⟩

/-! reredos/reredoskeep.picked -/
def sg18 : Sig := ⟨[⟨false, .bo, (.int .i64)⟩, ⟨false, .bo, (.int .i64)⟩], [⟨false, .own, (.int .i64)⟩]⟩
noncomputable def r18 : (Int × Int) → Option Int := fun a =>
  Option.bind (
    bif decide (a.1 < (0 : Int)) then
      some (Go.IntKind.wrap .i64 (0 - (Go.IntKind.wrap .i64 (a.1 + (1 : Int)))))
    else
      some a.1) fun (d1 : Int) =>
    bif decide (a.2 = 0) then
      none
    else
      some (Int.tmod d1 a.2)
def an18 : Ann := .two (.leaf) (.two (.join [1] [] [⟨.normal, [], [.tmp 0 (.int .i64)]⟩] (.two (.leaf) (.two (.leaf) (.leaf)))) (.two (.leaf) (.leaf)))
theorem s18 : SoundF cx.P cx.G 18 sg18 r18 := by
  have e : denF cx [] an18 Try.f18.ntmps (Try.f18.body.getD .skip) Try.f18.results.toList sg18 = r18 := by kernel_rfl
  rw [← e]
  exact sound_of_den (c := cx) (Known.nil) Try.func18 (by kernel_rfl) (Nat.le_of_ble_eq_true (by kernel_rfl))

/-! reredos/reredoskeep.Lab -/
def sg12 : Sig := ⟨[⟨false, .bo, (.int .i64)⟩], [⟨true, .own, (.pair (.int .i64) (.int .i64))⟩]⟩
noncomputable def r12 : Int → Option (Int × Int) := fun a =>
  Option.bind (r18 (a, (3 : Int))) fun (y1 : Int) =>
    Option.bind (r18 ((Go.IntKind.wrap .i64 (Int.tdiv a (3 : Int))), (4 : Int))) fun (y2 : Int) =>
      some (y1, y2)
def an12 : Ann := .two (.leaf) (.two (.leaf) (.leaf))
theorem s12 : SoundF cx.P cx.G 12 sg12 r12 := by
  have e : denF cx [(18, ⟨sg18, r18⟩)] an12 Try.f12.ntmps (Try.f12.body.getD .skip) Try.f12.results.toList sg12 = r12 := by kernel_rfl
  rw [← e]
  exact sound_of_den (c := cx) (Known.cons s18 Try.func18 (by kernel_rfl) (by kernel_rfl) (Known.nil)) Try.func12 (by kernel_rfl) (Nat.le_of_ble_eq_true (by kernel_rfl))

/-! reredos/reredoskeep.Config -/
noncomputable def r16_L0 (d30 : (Unit × (Int × (Int × (List ((Int × Int)) × Int))))) (y49 : (Int × Int)) : (Bool × Int) → Option ((Bool × Int) ⊕ Bool) := fun d50 =>
  bif decide (d50.2 < (↑d30.2.2.2.1.length : Int)) then
    Option.bind (
      bif inB d50.2 d30.2.2.2.1.length then
        Option.bind (idxN d30.2.2.2.1 (Int.toNat d50.2)) fun (x53 : (Int × Int)) =>
          bif !(d50.1) then
            some (decide (x53.1 = y49.1) && (decide (x53.2 = y49.2) && true))
          else
            some true
      else
        none) fun (d54 : Bool) =>
      some (Sum.inl (d54, (Go.IntKind.wrap .i64 (d50.2 + (1 : Int)))))
  else
    some (Sum.inr d50.1)
noncomputable def r16_L1 (a : (Int × (List Int × Int))) : (Unit × (Int × (Int × (List ((Int × Int)) × Int)))) → Option ((Unit × (Int × (Int × (List ((Int × Int)) × Int)))) ⊕ (Unit × (Int × (List ((Int × Int)) × Int)))) := fun d30 =>
  Option.bind (
    bif decide (d30.2.1 < (↑a.2.1.length : Int)) then
      some (decide ((↑d30.2.2.2.1.length : Int) < (4 : Int)))
    else
      some false) fun (d31 : Bool) =>
    bif d31 then
      Option.bind (
        Option.bind (idxI a.2.1 d30.2.1) fun (b48 : Int) =>
          Option.bind (r12 b48) fun (y49 : (Int × Int)) =>
            Option.bind (loopR (r16_L0 d30 y49) (false, (0 : Int))) fun (q55 : Bool) =>
              bif !(q55) then
                bif roomOk false d30.2.2.2.1.length 1 16 then
                  some ((), (d30.2.2.1, (app d30.2.2.2.1 [y49], d30.2.2.2.2)))
                else
                  none
              else
                some ((), d30.2.2)) fun (d56 : (Unit × (Int × (List ((Int × Int)) × Int)))) =>
        some (Sum.inl ((), ((Go.IntKind.wrap .i64 (d30.2.1 + (1 : Int))), d56.2)))
    else
      some (Sum.inr ((), d30.2.2))
def sg16 : Sig := ⟨[⟨false, .bo, (.int .i64)⟩, ⟨false, .bo, (.sl (.int .i64))⟩, ⟨false, .bo, (.int .i64)⟩], [⟨true, .ro, (.pair (.int .i64) (.pair (.sl (.pair (.int .i64) (.int .i64))) (.int .i64)))⟩]⟩
noncomputable def r16 : (Int × (List Int × Int)) → Option (Int × (List ((Int × Int)) × Int)) := fun a =>
  Option.bind (r18 (a.1, (3 : Int))) fun (y1 : Int) =>
    Option.bind (r18 (a.2.2, (4 : Int))) fun (y2 : Int) =>
      Option.bind (loopR (r16_L1 a) ((), ((0 : Int), ((Go.IntKind.wrap .i64 ((1 : Int) + y1)), ([], (Go.IntKind.wrap .i64 ((1 : Int) + y2))))))) fun (q57 : (Unit × (Int × (List ((Int × Int)) × Int)))) =>
        Option.bind (
          bif decide ((↑q57.2.2.1.length : Int) = (0 : Int)) then
            some ((), (q57.2.1, ([((0 : Int), (0 : Int))], q57.2.2.2)))
          else
            some ((), q57.2)) fun (d58 : (Unit × (Int × (List ((Int × Int)) × Int)))) =>
          some d58.2
def an16 : Ann := .two (.leaf) (.two (.leaf) (.two (.two (.leaf) (.one (.loop [1, 6] [6] [] [.tmp 7 (.pt 7 [(0, 0)] 0 0 3), .tmp 8 (.int .i64), .box 7 [.int .i64, .sl .own (.pair (.int .i64) (.int .i64)), .int .i64]] [⟨.exit 0, [], [.tmp 7 (.pt 7 [(0, 0)] 0 0 3), .box 7 [.int .i64, .sl .own (.pair (.int .i64) (.int .i64)), .int .i64]]⟩] (.two (.two (.join [1, 6, 7, 8] [6, 7] [⟨.normal, [], [.tmp 29 (.bool)]⟩] (.leaf)) (.two (.leaf) (.leaf))) (.two (.join [1, 6, 8] [6] [⟨.normal, [], [.tmp 7 (.pt 7 [(0, 0)] 0 0 3), .box 7 [.int .i64, .sl .own (.pair (.int .i64) (.int .i64)), .int .i64]]⟩] (.one (.two (.leaf) (.two (.leaf) (.two (.two (.leaf) (.one (.loop [1, 6, 7, 8, 9, 38, 39] [6, 7, 9] [] [.tmp 10 (.bool), .tmp 40 (.int .i64)] [⟨.exit 2, [], [.tmp 10 (.bool)]⟩] (.two (.leaf) (.two (.two (.leaf) (.leaf)) (.two (.join [1, 6, 7, 8, 9, 38, 39, 40] [6, 7, 9] [⟨.normal, [], [.tmp 10 (.bool)]⟩] (.one (.two (.leaf) (.leaf)))) (.leaf))))))) (.two (.leaf) (.two (.leaf) (.leaf)))))))) (.leaf)))))) (.two (.join [6] [6] [⟨.normal, [], [.tmp 7 (.pt 7 [(0, 0)] 0 0 3), .box 7 [.int .i64, .sl .own (.pair (.int .i64) (.int .i64)), .int .i64]]⟩] (.two (.leaf) (.two (.leaf) (.leaf)))) (.two (.leaf) (.leaf)))))
theorem s16 : SoundF cx.P cx.G 16 sg16 r16 := by
  have e : denF cx [(12, ⟨sg12, r12⟩), (18, ⟨sg18, r18⟩)] an16 Try.f16.ntmps (Try.f16.body.getD .skip) Try.f16.results.toList sg16 = r16 := by kernel_rfl
  rw [← e]
  exact sound_of_den (c := cx) (Known.cons s12 Try.func12 (by kernel_rfl) (by kernel_rfl) (Known.cons s18 Try.func18 (by kernel_rfl) (by kernel_rfl) (Known.nil))) Try.func16 (by kernel_rfl) (Nat.le_of_ble_eq_true (by kernel_rfl))

/-! reredos/label.one -/
def sg26 : Sig := ⟨[⟨true, .bo, (.pair (.int .i64) (.int .i64))⟩], [⟨false, .own, .bool⟩]⟩
noncomputable def r26 : (Int × Int) → Option Bool := fun a =>
  bif decide ((0 : Int) ≤ a.1) then
    bif decide (a.1 ≤ (9 : Int)) then
      bif decide ((0 : Int) ≤ a.2) then
        some (decide (a.2 ≤ (15 : Int)))
      else
        some false
    else
      some false
  else
    some false
def an26 : Ann := .two (.leaf) (.two (.leaf) (.leaf))
theorem s26 : SoundF cx.P cx.G 26 sg26 r26 := by
  have e : denF cx [] an26 Try.f26.ntmps (Try.f26.body.getD .skip) Try.f26.results.toList sg26 = r26 := by kernel_rfl
  rw [← e]
  exact sound_of_den (c := cx) (Known.nil) Try.func26 (by kernel_rfl) (Nat.le_of_ble_eq_true (by kernel_rfl))

/-! reredos/label.Check -/
noncomputable def r17_L0 (d3 : Int) (a : (Int × (List ((Int × Int)) × Int))) (b4 : (Int × Int)) : Int → Option (Int ⊕ (Unit ⊕ Int)) := fun d6 =>
  bif decide (d6 < (↑((List.take (Int.toNat d3) a.2.1).length) : Int)) then
    Option.bind (idxI (List.take (Int.toNat d3) a.2.1) d6) fun (b7 : (Int × Int)) =>
      bif (decide (b7.1 = b4.1) && (decide (b7.2 = b4.2) && true)) then
        some (Sum.inr (Sum.inr (7 : Int)))
      else
        some (Sum.inl (Go.IntKind.wrap .i64 (d6 + (1 : Int))))
  else
    some (Sum.inr (Sum.inl ()))
noncomputable def r17_L1 (a : (Int × (List ((Int × Int)) × Int))) : Int → Option (Int ⊕ (Unit ⊕ Int)) := fun d3 =>
  bif decide (d3 < (↑a.2.1.length : Int)) then
    Option.bind (idxI a.2.1 d3) fun (b4 : (Int × Int)) =>
      Option.bind (r26 b4) fun (y5 : Bool) =>
        bif !(y5) then
          some (Sum.inr (Sum.inr (2 : Int)))
        else
          bif okB none (some d3) none a.2.1.length then
            Option.bind (loopR (r17_L0 d3 a b4) (0 : Int)) fun (q8 : (Unit ⊕ Int)) =>
              Sum.elim (fun (v9 : Unit) =>
                  some (Sum.inl (Go.IntKind.wrap .i64 (d3 + (1 : Int)))))
                (fun (v10 : Int) =>
                  some (Sum.inr (Sum.inr v10))) q8
          else
            none
  else
    some (Sum.inr (Sum.inl ()))
def sg17 : Sig := ⟨[⟨true, .bo, (.pair (.int .i64) (.pair (.sl (.pair (.int .i64) (.int .i64))) (.int .i64)))⟩], [⟨false, .own, (.int .i64)⟩]⟩
noncomputable def r17 : (Int × (List ((Int × Int)) × Int)) → Option Int := fun a =>
  Option.bind (
    bif !(decide (a.1 < (1 : Int))) then
      some (decide ((4 : Int) < a.1))
    else
      some true) fun (d1 : Bool) =>
    bif d1 then
      some (2 : Int)
    else
      Option.bind (
        bif !(decide ((↑a.2.1.length : Int) < (1 : Int))) then
          some (decide ((6 : Int) < (↑a.2.1.length : Int)))
        else
          some true) fun (d2 : Bool) =>
        bif d2 then
          some (1 : Int)
        else
          Option.bind (loopR (r17_L1 a) (0 : Int)) fun (q11 : (Unit ⊕ Int)) =>
            Sum.elim (fun (v12 : Unit) =>
                Option.bind (
                  bif !(decide (a.2.2 < (1 : Int))) then
                    some (decide ((1048576 : Int) < a.2.2))
                  else
                    some true) fun (d14 : Bool) =>
                  bif d14 then
                    some (2 : Int)
                  else
                    some (0 : Int))
              (fun (v13 : Int) =>
                some v13) q11
def an17 : Ann := .two (.leaf) (.two (.two (.join [1] [1] [⟨.normal, [], [.tmp 14 (.bool)]⟩] (.leaf)) (.two (.two (.leaf) (.leaf)) (.leaf))) (.two (.two (.join [1] [1] [⟨.normal, [], [.tmp 24 (.bool)]⟩] (.leaf)) (.two (.two (.leaf) (.leaf)) (.leaf))) (.two (.two (.leaf) (.one (.loop [1, 26, 27] [1] [] [.tmp 28 (.int .i64)] [⟨.exit 0, [], []⟩, ⟨.ret, [], [.tmp 2 (.int .i64)]⟩] (.two (.leaf) (.two (.two (.leaf) (.leaf)) (.two (.one (.two (.leaf) (.two (.two (.leaf) (.two (.two (.leaf) (.leaf)) (.leaf))) (.two (.leaf) (.one (.loop [1, 4, 26, 27, 28, 39, 40] [1, 4] [] [.tmp 41 (.int .i64)] [⟨.exit 2, [], []⟩, ⟨.ret, [], [.tmp 2 (.int .i64)]⟩] (.two (.leaf) (.two (.two (.leaf) (.leaf)) (.two (.one (.two (.leaf) (.two (.leaf) (.two (.two (.leaf) (.leaf)) (.leaf))))) (.leaf)))))))))) (.leaf))))))) (.two (.two (.join [] [] [⟨.normal, [], [.tmp 57 (.bool)]⟩] (.leaf)) (.two (.two (.leaf) (.leaf)) (.leaf))) (.two (.leaf) (.leaf))))))
theorem s17 : SoundF cx.P cx.G 17 sg17 r17 := by
  have e : denF cx [(26, ⟨sg26, r26⟩)] an17 Try.f17.ntmps (Try.f17.body.getD .skip) Try.f17.results.toList sg17 = r17 := by kernel_rfl
  rw [← e]
  exact sound_of_den (c := cx) (Known.cons s26 Try.func26 (by kernel_rfl) (by kernel_rfl) (Known.nil)) Try.func17 (by kernel_rfl) (Nat.le_of_ble_eq_true (by kernel_rfl))

/-! reredos/label.Home -/
def sg19 : Sig := ⟨[⟨true, .bo, (.pair (.int .i64) (.pair (.sl (.pair (.int .i64) (.int .i64))) (.int .i64)))⟩, ⟨false, .bo, (.int .i64)⟩], [⟨false, .own, (.int .i64)⟩, ⟨false, .own, (.int .i64)⟩]⟩
noncomputable def r19 : ((Int × (List ((Int × Int)) × Int)) × Int) → Option (Int × Int) := fun a =>
  Option.bind (r17 a.1) fun (y1 : Int) =>
    bif !(decide (y1 = (0 : Int))) then
      some ((0 : Int), y1)
    else
      Option.bind (
        bif !(decide (a.2 < (0 : Int))) then
          some (decide ((8 : Int) ≤ a.2))
        else
          some true) fun (d2 : Bool) =>
        bif d2 then
          some ((0 : Int), (2 : Int))
        else
          bif decide (a.1.1 = 0) then
            none
          else
            some ((Int.tmod a.2 a.1.1), (0 : Int))
def an19 : Ann := .two (.leaf) (.two (.two (.leaf) (.two (.leaf) (.two (.two (.leaf) (.leaf)) (.leaf)))) (.two (.two (.join [1, 2] [2] [⟨.normal, [], [.tmp 17 (.bool)]⟩] (.leaf)) (.two (.two (.leaf) (.leaf)) (.leaf))) (.two (.leaf) (.leaf))))
theorem s19 : SoundF cx.P cx.G 19 sg19 r19 := by
  have e : denF cx [(17, ⟨sg17, r17⟩)] an19 Try.f19.ntmps (Try.f19.body.getD .skip) Try.f19.results.toList sg19 = r19 := by kernel_rfl
  rw [← e]
  exact sound_of_den (c := cx) (Known.cons s17 Try.func17 (by kernel_rfl) (by kernel_rfl) (Known.nil)) Try.func19 (by kernel_rfl) (Nat.le_of_ble_eq_true (by kernel_rfl))

/-! reredos/reredoskeep.HomeOne -/
def sg7 : Sig := ⟨[⟨false, .bo, (.int .i64)⟩, ⟨false, .bo, (.sl (.int .i64))⟩, ⟨false, .bo, (.int .i64)⟩, ⟨false, .bo, (.int .i64)⟩], [⟨false, .own, .bool⟩]⟩
noncomputable def r7 : (Int × (List Int × (Int × Int))) → Option Bool := fun a =>
  Option.bind (r16 (a.1, a.2.1, a.2.2.1)) fun (y1 : (Int × (List ((Int × Int)) × Int))) =>
    Option.bind (r18 (a.2.2.2, (8 : Int))) fun (y2 : Int) =>
      Option.bind (r19 (y1, y2)) fun (y3 : (Int × Int)) =>
        Option.bind (r19 (y1, (Go.IntKind.wrap .i64 ((8 : Int) + y2)))) fun (y4 : (Int × Int)) =>
          bif decide (y3.2 = (0 : Int)) then
            bif decide (y4.2 = (2 : Int)) then
              bif decide ((0 : Int) ≤ y3.1) then
                bif decide (y3.1 < y1.1) then
                  bif decide (y1.1 = 0) then
                    none
                  else
                    some (decide ((Int.tmod (Go.IntKind.wrap .i64 (y2 - y3.1)) y1.1) = (0 : Int)))
                else
                  some false
              else
                some false
            else
              some false
          else
            some false
def an7 : Ann := .two (.leaf) (.two (.leaf) (.two (.leaf) (.two (.leaf) (.two (.leaf) (.two (.leaf) (.leaf))))))
theorem s7 : SoundF cx.P cx.G 7 sg7 r7 := by
  have e : denF cx [(16, ⟨sg16, r16⟩), (18, ⟨sg18, r18⟩), (19, ⟨sg19, r19⟩)] an7 Try.f7.ntmps (Try.f7.body.getD .skip) Try.f7.results.toList sg7 = r7 := by kernel_rfl
  rw [← e]
  exact sound_of_den (c := cx) (Known.cons s16 Try.func16 (by kernel_rfl) (by kernel_rfl) (Known.cons s18 Try.func18 (by kernel_rfl) (by kernel_rfl) (Known.cons s19 Try.func19 (by kernel_rfl) (by kernel_rfl) (Known.nil)))) Try.func7 (by kernel_rfl) (Nat.le_of_ble_eq_true (by kernel_rfl))

/-! reredos/reredoskeep.ConfigGood -/
def sg6 : Sig := ⟨[⟨false, .bo, (.int .i64)⟩, ⟨false, .bo, (.sl (.int .i64))⟩, ⟨false, .bo, (.int .i64)⟩], [⟨false, .own, .bool⟩]⟩
noncomputable def r6 : (Int × (List Int × Int)) → Option Bool := fun a =>
  Option.bind (r16 (a.1, a.2.1, a.2.2)) fun (y1 : (Int × (List ((Int × Int)) × Int))) =>
    bif roomOk true 0 y1.2.1.length 16 then
      Option.bind (idxI y1.2.1 (0 : Int)) fun (b2 : (Int × Int)) =>
        bif roomOk false y1.2.1.length 1 16 then
          Option.bind (r17 y1) fun (y3 : Int) =>
            bif decide (y3 = (0 : Int)) then
              Option.bind (r17 (y1.1, (app y1.2.1 [b2], y1.2.2))) fun (y4 : Int) =>
                bif decide (y4 = (7 : Int)) then
                  Option.bind (r17 ((0 : Int), ([], (0 : Int)))) fun (y5 : Int) =>
                    some (decide (y5 = (2 : Int)))
                else
                  some false
            else
              some false
        else
          none
    else
      none
def an6 : Ann := .two (.leaf) (.two (.leaf) (.two (.leaf) (.two (.draw 8) (.two (.leaf) (.leaf)))))
theorem s6 : SoundF cx.P cx.G 6 sg6 r6 := by
  have e : denF cx [(16, ⟨sg16, r16⟩), (17, ⟨sg17, r17⟩)] an6 Try.f6.ntmps (Try.f6.body.getD .skip) Try.f6.results.toList sg6 = r6 := by kernel_rfl
  rw [← e]
  exact sound_of_den (c := cx) (Known.cons s16 Try.func16 (by kernel_rfl) (by kernel_rfl) (Known.cons s17 Try.func17 (by kernel_rfl) (by kernel_rfl) (Known.nil))) Try.func6 (by kernel_rfl) (Nat.le_of_ble_eq_true (by kernel_rfl))

/-! reredos/reredoskeep.ask -/
def sg27 : Sig := ⟨[⟨true, .bo, (.pair (.int .i64) (.pair (.int .i64) (.pair (.int .i64) (.pair (.int .i64) (.pair (.int .i64) (.int .i64))))))⟩], [⟨true, .own, (.pair (.int .i64) (.pair (.int .i64) (.pair (.int .i64) (.pair (.int .i64) (.int .i64)))))⟩]⟩
noncomputable def r27 : (Int × (Int × (Int × (Int × (Int × Int))))) → Option (Int × (Int × (Int × (Int × Int)))) := fun a =>
  Option.bind (r18 (a.1, (5 : Int))) fun (y1 : Int) =>
    Option.bind (
      bif !(decide ((Go.IntKind.wrap .i64 ((1 : Int) + y1)) = (1 : Int))) then
        Option.bind (r18 (a.2.1, (4 : Int))) fun (y4 : Int) =>
          some ((), ((Go.IntKind.wrap .i64 ((1 : Int) + y1)), ((Go.IntKind.wrap .i64 ((1 : Int) + y4)), ((0 : Int), ((0 : Int), (0 : Int))))))
      else
        some ((), ((Go.IntKind.wrap .i64 ((1 : Int) + y1)), ((0 : Int), ((0 : Int), ((0 : Int), (0 : Int))))))) fun (d5 : (Unit × (Int × (Int × (Int × (Int × Int)))))) =>
      Option.bind (
        bif decide (d5.2.1 = (2 : Int)) then
          Option.bind (r18 (a.2.2.1, (3 : Int))) fun (y14 : Int) =>
            Option.bind (r18 (a.2.2.2.1, (4 : Int))) fun (y15 : Int) =>
              some ((), (d5.2.1, (d5.2.2.1, (y14, (y15, d5.2.2.2.2.2)))))
        else
          bif decide (d5.2.1 = (3 : Int)) then
            Option.bind (r18 (a.2.2.2.1, (4 : Int))) fun (y16 : Int) =>
              Option.bind (r18 (a.2.2.2.2.1, (99 : Int))) fun (y17 : Int) =>
                some ((), (d5.2.1, (d5.2.2.1, (d5.2.2.2.1, (y16, y17)))))
          else
            some ((), d5.2)) fun (d18 : (Unit × (Int × (Int × (Int × (Int × Int)))))) =>
        some d18.2
def an27 : Ann := .two (.leaf) (.two (.leaf) (.two (.join [1, 2] [1, 2] [⟨.normal, [], [.tmp 3 (.pt 3 [(0, 0)] 0 0 5), .box 3 [.int .i64, .int .i64, .int .i64, .int .i64, .int .i64]]⟩] (.two (.leaf) (.two (.leaf) (.leaf)))) (.two (.join [2] [2] [⟨.normal, [], [.tmp 3 (.pt 3 [(0, 0)] 0 0 5), .box 3 [.int .i64, .int .i64, .int .i64, .int .i64, .int .i64]]⟩] (.two (.leaf) (.one (.two (.leaf) (.two (.two (.leaf) (.leaf)) (.two (.leaf) (.two (.two (.leaf) (.leaf)) (.leaf)))))))) (.two (.leaf) (.leaf)))))
theorem s27 : SoundF cx.P cx.G 27 sg27 r27 := by
  have e : denF cx [(18, ⟨sg18, r18⟩)] an27 Try.f27.ntmps (Try.f27.body.getD .skip) Try.f27.results.toList sg27 = r27 := by kernel_rfl
  rw [← e]
  exact sound_of_den (c := cx) (Known.cons s18 Try.func18 (by kernel_rfl) (by kernel_rfl) (Known.nil)) Try.func27 (by kernel_rfl) (Nat.le_of_ble_eq_true (by kernel_rfl))

/-! reredos/reredoskeep.dec -/
def sg36 : Sig := ⟨[⟨false, .bo, (.int .i64)⟩], [⟨false, .own, .str⟩]⟩
noncomputable def r36 : Nat → Int → Option (List UInt8)
  | 0 => fun _ => none
  | n + 1 => fun a =>
  bif decide (a < (10 : Int)) then
    some (List.map byte8 [(Go.IntKind.wrap .u8 (Go.IntKind.wrap .i64 ((48 : Int) + a)))])
  else
    Option.bind ((r36 n) (Go.IntKind.wrap .i64 (Int.tdiv a (10 : Int)))) fun (y1 : List UInt8) =>
      bif decide (y1.length + (List.map byte8 [(Go.IntKind.wrap .u8 (Go.IntKind.wrap .i64 ((48 : Int) + (Int.tmod a (10 : Int)))))]).length ≤ 9223372036854775807) then
        some (y1 ++ (List.map byte8 [(Go.IntKind.wrap .u8 (Go.IntKind.wrap .i64 ((48 : Int) + (Int.tmod a (10 : Int)))))]))
      else
        none
def an36 : Ann := .two (.leaf) (.two (.two (.leaf) (.two (.two (.leaf) (.leaf)) (.leaf))) (.two (.draw 9) (.leaf)))
theorem s36n : ∀ n, SoundF cx.P cx.G 36 sg36 (r36 n)
  | 0 => SoundF.none
  | n + 1 => by
    have e : denF cx [(36, ⟨sg36, r36 n⟩)] an36 Try.f36.ntmps (Try.f36.body.getD .skip) Try.f36.results.toList sg36 = r36 (n + 1) := by kernel_rfl
    rw [← e]
    exact sound_of_den (c := cx) (Known.cons (F := ⟨sg36, r36 n⟩) (s36n n) Try.func36 (by kernel_rfl) (by kernel_rfl) (Known.nil)) Try.func36 (by kernel_rfl) (Nat.le_of_ble_eq_true (by kernel_rfl))
noncomputable def R36 : Int → Option (List UInt8) := limR r36
theorem s36 : SoundF cx.P cx.G 36 sg36 R36 := SoundF.lim s36n

/-! reredos/reredoskeep.typed -/
def sg28 : Sig := ⟨[⟨true, .bo, (.pair (.int .i64) (.pair (.int .i64) (.pair (.int .i64) (.pair (.int .i64) (.pair (.int .i64) (.int .i64))))))⟩, ⟨false, .bo, .bool⟩], [⟨false, .own, .str⟩]⟩
noncomputable def r28 : ((Int × (Int × (Int × (Int × (Int × Int))))) × Bool) → Option (List UInt8) := fun a =>
  Option.bind (r18 (a.1.2.1, (4 : Int))) fun (y1 : Int) =>
    Option.bind (R36 y1) fun (y2 : List UInt8) =>
      bif decide (y2.length + ([32] : List UInt8).length ≤ 9223372036854775807) then
        Option.bind (r18 (a.1.2.2.1, (3 : Int))) fun (y3 : Int) =>
          Option.bind (R36 y3) fun (y4 : List UInt8) =>
            bif decide ((y2 ++ ([32] : List UInt8)).length + y4.length ≤ 9223372036854775807) then
              bif decide (((y2 ++ ([32] : List UInt8)) ++ y4).length + ([32] : List UInt8).length ≤ 9223372036854775807) then
                Option.bind (r18 (a.1.2.2.2.1, (4 : Int))) fun (y5 : Int) =>
                  Option.bind (R36 (Go.IntKind.wrap .i64 ((1 : Int) + y5))) fun (y6 : List UInt8) =>
                    bif decide ((((y2 ++ ([32] : List UInt8)) ++ y4) ++ ([32] : List UInt8)).length + y6.length ≤ 9223372036854775807) then
                      Option.bind (r18 (a.1.2.2.2.2.1, (8 : Int))) fun (y7 : Int) =>
                        bif decide (y7 < (3 : Int)) then
                          some ([108, 105, 115, 116] : List UInt8)
                        else
                          bif decide (y7 < (5 : Int)) then
                            bif decide (([115, 116, 97, 116, 117, 115, 32] : List UInt8).length + ((((y2 ++ ([32] : List UInt8)) ++ y4) ++ ([32] : List UInt8)) ++ y6).length ≤ 9223372036854775807) then
                              some (([115, 116, 97, 116, 117, 115, 32] : List UInt8) ++ ((((y2 ++ ([32] : List UInt8)) ++ y4) ++ ([32] : List UInt8)) ++ y6))
                            else
                              none
                          else
                            bif decide (y7 = (5 : Int)) then
                              some ([97, 117, 100, 105, 116] : List UInt8)
                            else
                              Option.bind (
                                bif decide (y7 = (6 : Int)) then
                                  some a.2
                                else
                                  some false) fun (d8 : Bool) =>
                                bif d8 then
                                  bif decide (([102, 111, 114, 99, 101, 32] : List UInt8).length + ((((y2 ++ ([32] : List UInt8)) ++ y4) ++ ([32] : List UInt8)) ++ y6).length ≤ 9223372036854775807) then
                                    bif decide ((([102, 111, 114, 99, 101, 32] : List UInt8) ++ ((((y2 ++ ([32] : List UInt8)) ++ y4) ++ ([32] : List UInt8)) ++ y6)).length + ([32] : List UInt8).length ≤ 9223372036854775807) then
                                      Option.bind (r18 (a.1.2.2.2.2.2, (2 : Int))) fun (y9 : Int) =>
                                        bif inB y9 ([([99, 111, 109, 109, 105, 116] : List UInt8), ([97, 98, 111, 114, 116] : List UInt8)].length) then
                                          Option.bind (idxN [([99, 111, 109, 109, 105, 116] : List UInt8), ([97, 98, 111, 114, 116] : List UInt8)] (Int.toNat y9)) fun (x10 : List UInt8) =>
                                            bif decide (((([102, 111, 114, 99, 101, 32] : List UInt8) ++ ((((y2 ++ ([32] : List UInt8)) ++ y4) ++ ([32] : List UInt8)) ++ y6)) ++ ([32] : List UInt8)).length + x10.length ≤ 9223372036854775807) then
                                              some (((([102, 111, 114, 99, 101, 32] : List UInt8) ++ ((((y2 ++ ([32] : List UInt8)) ++ y4) ++ ([32] : List UInt8)) ++ y6)) ++ ([32] : List UInt8)) ++ x10)
                                            else
                                              none
                                        else
                                          none
                                    else
                                      none
                                  else
                                    none
                                else
                                  Option.bind (r18 (a.1.2.2.2.2.2, (6 : Int))) fun (y11 : Int) =>
                                    bif inB y11 ([([] : List UInt8), ([108, 105, 115, 116, 115] : List UInt8), ([115, 116, 97, 116, 117, 115, 32, 49, 32, 49] : List UInt8), ([102, 111, 114, 99, 101, 32, 48, 32, 48, 32, 49] : List UInt8), ([97, 117, 100, 105, 116, 32] : List UInt8), ([115, 116, 97, 116, 117, 115, 32, 48, 32, 48, 32, 48, 49] : List UInt8)].length) then
                                      Option.bind (idxN [([] : List UInt8), ([108, 105, 115, 116, 115] : List UInt8), ([115, 116, 97, 116, 117, 115, 32, 49, 32, 49] : List UInt8), ([102, 111, 114, 99, 101, 32, 48, 32, 48, 32, 49] : List UInt8), ([97, 117, 100, 105, 116, 32] : List UInt8), ([115, 116, 97, 116, 117, 115, 32, 48, 32, 48, 32, 48, 49] : List UInt8)] (Int.toNat y11)) fun (x12 : List UInt8) =>
                                        some x12
                                    else
                                      none
                    else
                      none
              else
                none
            else
              none
      else
        none
def an28 : Ann := .two (.leaf) (.two (.draw 16) (.two (.two (.leaf) (.one (.two (.leaf) (.two (.two (.leaf) (.leaf)) (.two (.leaf) (.two (.two (.leaf) (.leaf)) (.two (.leaf) (.two (.two (.leaf) (.leaf)) (.two (.join [2, 5] [2] [⟨.normal, [], [.tmp 38 (.bool)]⟩] (.leaf)) (.two (.two (.leaf) (.leaf)) (.leaf))))))))))) (.two (.leaf) (.leaf))))
theorem s28 : SoundF cx.P cx.G 28 sg28 r28 := by
  have e : denF cx [(18, ⟨sg18, r18⟩), (36, ⟨sg36, R36⟩)] an28 Try.f28.ntmps (Try.f28.body.getD .skip) Try.f28.results.toList sg28 = r28 := by kernel_rfl
  rw [← e]
  exact sound_of_den (c := cx) (Known.cons s18 Try.func18 (by kernel_rfl) (by kernel_rfl) (Known.cons s36 Try.func36 (by kernel_rfl) (by kernel_rfl) (Known.nil))) Try.func28 (by kernel_rfl) (Nat.le_of_ble_eq_true (by kernel_rfl))

/-! reredos/reredoskeep.Acts -/
noncomputable def r20_L0 (a : ((Int × (List ((Int × Int)) × Int)) × (List ((Int × (Int × (Int × (Int × (Int × Int)))))) × (Int × Bool)))) (b241 : (Int × (Int × (Int × (Int × (Int × Int)))))) : (Unit × (Int × (Int × (Int × (Int × (Int × (Int × (List Int × (Int × (Int × (Int × (Int × (Int × List UInt8))))))))))))) → Option ((Unit × (Int × (Int × (Int × (Int × (Int × (Int × (List Int × (Int × (Int × (Int × (Int × (Int × List UInt8))))))))))))) ⊕ (Unit × (Int × (Int × (Int × (Int × (Int × (List Int × (Int × (Int × (Int × (Int × (Int × List UInt8))))))))))))) := fun d279 =>
  bif decide (d279.2.1 < (↑a.1.2.1.length : Int)) then
    bif decide ((Go.IntKind.wrap .i64 (d279.2.1 + (1 : Int))) = 0) then
      none
    else
      Option.bind (r18 ((Go.IntKind.wrap .i64 (Int.tdiv b241.2.2.2.2.1 (Go.IntKind.wrap .i64 (d279.2.1 + (1 : Int))))), (40 : Int))) fun (y280 : Int) =>
        bif roomOk false d279.2.2.2.2.2.2.2.1.length 1 8 then
          some (Sum.inl ((), ((Go.IntKind.wrap .i64 (d279.2.1 + (1 : Int))), (d279.2.2.1, (d279.2.2.2.1, (d279.2.2.2.2.1, (d279.2.2.2.2.2.1, (d279.2.2.2.2.2.2.1, (app d279.2.2.2.2.2.2.2.1 [y280], d279.2.2.2.2.2.2.2.2)))))))))
        else
          none
  else
    some (Sum.inr ((), d279.2.2))
noncomputable def r20_L1 (a : ((Int × (List ((Int × Int)) × Int)) × (List ((Int × (Int × (Int × (Int × (Int × Int)))))) × (Int × Bool)))) : (Unit × (Int × List ((Int × (Int × (Int × (Int × (Int × (List Int × ((Int × (Int × (Int × (Int × Int)))) × List UInt8)))))))))) → Option ((Unit × (Int × List ((Int × (Int × (Int × (Int × (Int × (List Int × ((Int × (Int × (Int × (Int × Int)))) × List UInt8)))))))))) ⊕ (Unit × List ((Int × (Int × (Int × (Int × (Int × (List Int × ((Int × (Int × (Int × (Int × Int)))) × List UInt8)))))))))) := fun d145 =>
  Option.bind (
    bif decide (d145.2.1 < (↑a.2.1.length : Int)) then
      some (decide ((↑d145.2.2.length : Int) < a.2.2.1))
    else
      some false) fun (d146 : Bool) =>
    bif d146 then
      Option.bind (
        Option.bind (idxI a.2.1 d145.2.1) fun (b241 : (Int × (Int × (Int × (Int × (Int × Int)))))) =>
          Option.bind (r18 ((Go.IntKind.wrap .i64 (Int.tdiv b241.2.1 (31 : Int))), a.1.1)) fun (y242 : Int) =>
            Option.bind (r18 ((Go.IntKind.wrap .i64 (Int.tdiv b241.2.2.1 (31 : Int))), (↑a.1.2.1.length : Int))) fun (y243 : Int) =>
              Option.bind (
                Option.bind (r18 (b241.1, (20 : Int))) fun (y270 : Int) =>
                  bif decide (y270 < (8 : Int)) then
                    Option.bind (r27 ((Go.IntKind.wrap .i64 (Int.tdiv b241.2.2.2.1 (9 : Int))), (b241.2.1, (b241.2.2.1, (b241.2.2.2.1, (b241.2.2.2.2.1, (0 : Int))))))) fun (y271 : (Int × (Int × (Int × (Int × Int))))) =>
                      some ((), ((1 : Int), (y242, ((0 : Int), (y243, ((0 : Int), ([], (y271.1, (y271.2.1, (y271.2.2.1, (y271.2.2.2.1, (y271.2.2.2.2, ([] : List UInt8)))))))))))))
                  else
                    bif decide (y270 < (15 : Int)) then
                      Option.bind (r18 (b241.2.2.2.1, a.1.1)) fun (y272 : Int) =>
                        Option.bind (r18 (b241.2.2.2.2.1, (3 : Int))) fun (y273 : Int) =>
                          some ((), ((2 : Int), (y242, (y272, (y243, (y273, ([], ((0 : Int), ((0 : Int), ((0 : Int), ((0 : Int), ((0 : Int), ([] : List UInt8)))))))))))))
                    else
                      bif decide (y270 = (15 : Int)) then
                        Option.bind (r18 (b241.2.2.2.2.2, (2 : Int))) fun (y274 : Int) =>
                          Option.bind (r18 (b241.2.2.2.1, a.1.1)) fun (y275 : Int) =>
                            Option.bind (r18 (b241.2.2.2.2.1, (3 : Int))) fun (y276 : Int) =>
                              some ((), ((Go.IntKind.wrap .i64 ((4 : Int) - y274)), (y242, (y275, (y243, (y276, ([], ((0 : Int), ((0 : Int), ((0 : Int), ((0 : Int), ((0 : Int), ([] : List UInt8)))))))))))))
                      else
                        bif decide (y270 = (16 : Int)) then
                          some ((), ((5 : Int), ((0 : Int), ((0 : Int), ((0 : Int), ((0 : Int), ([], ((0 : Int), ((0 : Int), ((0 : Int), ((0 : Int), ((0 : Int), ([] : List UInt8)))))))))))))
                        else
                          bif decide (y270 = (17 : Int)) then
                            Option.bind (loopR (r20_L0 a b241) ((), ((0 : Int), ((6 : Int), (y242, ((0 : Int), ((0 : Int), ((0 : Int), ([], ((0 : Int), ((0 : Int), ((0 : Int), ((0 : Int), ((0 : Int), ([] : List UInt8))))))))))))))) fun (q281 : (Unit × (Int × (Int × (Int × (Int × (Int × (List Int × (Int × (Int × (Int × (Int × (Int × List UInt8))))))))))))) =>
                              some ((), q281.2)
                          else
                            bif decide (y270 = (18 : Int)) then
                              some ((), ((7 : Int), (y242, ((0 : Int), ((0 : Int), ((0 : Int), ([], ((0 : Int), ((0 : Int), ((0 : Int), ((0 : Int), ((0 : Int), ([] : List UInt8)))))))))))))
                            else
                              Option.bind (r28 (b241, a.2.2.2)) fun (y282 : List UInt8) =>
                                some ((), ((8 : Int), (y242, ((0 : Int), (y243, ((0 : Int), ([], ((0 : Int), ((0 : Int), ((0 : Int), ((0 : Int), ((0 : Int), y282))))))))))))) fun (d283 : (Unit × (Int × (Int × (Int × (Int × (Int × (List Int × (Int × (Int × (Int × (Int × (Int × List UInt8))))))))))))) =>
                bif roomOk false d145.2.2.length 1 120 then
                  Option.bind (
                    bif decide (d283.2.1 = (1 : Int)) then
                      Option.bind (r18 (b241.2.2.2.2.2, (4 : Int))) fun (y286 : Int) =>
                        some (decide ((0 : Int) < y286))
                    else
                      some false) fun (d287 : Bool) =>
                    bif d287 then
                      bif decide (a.1.1 = 0) then
                        none
                      else
                        bif roomOk false ((app d145.2.2 [(d283.2.1, (d283.2.2.1, (d283.2.2.2.1, (d283.2.2.2.2.1, (d283.2.2.2.2.2.1, (d283.2.2.2.2.2.2.1, ((d283.2.2.2.2.2.2.2.1, (d283.2.2.2.2.2.2.2.2.1, (d283.2.2.2.2.2.2.2.2.2.1, (d283.2.2.2.2.2.2.2.2.2.2.1, d283.2.2.2.2.2.2.2.2.2.2.2.1)))), d283.2.2.2.2.2.2.2.2.2.2.2.2)))))))]).length) 2 120 then
                          some ((), app (app d145.2.2 [(d283.2.1, (d283.2.2.1, (d283.2.2.2.1, (d283.2.2.2.2.1, (d283.2.2.2.2.2.1, (d283.2.2.2.2.2.2.1, ((d283.2.2.2.2.2.2.2.1, (d283.2.2.2.2.2.2.2.2.1, (d283.2.2.2.2.2.2.2.2.2.1, (d283.2.2.2.2.2.2.2.2.2.2.1, d283.2.2.2.2.2.2.2.2.2.2.2.1)))), d283.2.2.2.2.2.2.2.2.2.2.2.2)))))))]) [((2 : Int), (d283.2.2.1, ((Int.tmod d283.2.2.2.2.2.2.2.2.2.2.1 a.1.1), (d283.2.2.2.2.1, ((0 : Int), ([], (((0 : Int), ((0 : Int), ((0 : Int), ((0 : Int), (0 : Int))))), ([] : List UInt8)))))))), ((2 : Int), ((Int.tmod d283.2.2.2.2.2.2.2.2.2.2.1 a.1.1), (d283.2.2.1, (d283.2.2.2.2.1, ((0 : Int), ([], (((0 : Int), ((0 : Int), ((0 : Int), ((0 : Int), (0 : Int))))), ([] : List UInt8))))))))])
                        else
                          none
                    else
                      some ((), app d145.2.2 [(d283.2.1, (d283.2.2.1, (d283.2.2.2.1, (d283.2.2.2.2.1, (d283.2.2.2.2.2.1, (d283.2.2.2.2.2.2.1, ((d283.2.2.2.2.2.2.2.1, (d283.2.2.2.2.2.2.2.2.1, (d283.2.2.2.2.2.2.2.2.2.1, (d283.2.2.2.2.2.2.2.2.2.2.1, d283.2.2.2.2.2.2.2.2.2.2.2.1)))), d283.2.2.2.2.2.2.2.2.2.2.2.2)))))))])
                else
                  none) fun (d288 : (Unit × List ((Int × (Int × (Int × (Int × (Int × (List Int × ((Int × (Int × (Int × (Int × Int)))) × List UInt8)))))))))) =>
        some (Sum.inl ((), ((Go.IntKind.wrap .i64 (d145.2.1 + (1 : Int))), d288.2)))
    else
      some (Sum.inr ((), d145.2.2))
def sg20 : Sig := ⟨[⟨true, .bo, (.pair (.int .i64) (.pair (.sl (.pair (.int .i64) (.int .i64))) (.int .i64)))⟩, ⟨false, .bo, (.sl (.pair (.int .i64) (.pair (.int .i64) (.pair (.int .i64) (.pair (.int .i64) (.pair (.int .i64) (.int .i64)))))))⟩, ⟨false, .bo, (.int .i64)⟩, ⟨false, .bo, .bool⟩], [⟨false, .own, (.sl (.pair (.int .i64) (.pair (.int .i64) (.pair (.int .i64) (.pair (.int .i64) (.pair (.int .i64) (.pair (.rsl (.int .i64)) (.pair (.pair (.int .i64) (.pair (.int .i64) (.pair (.int .i64) (.pair (.int .i64) (.int .i64))))) .str))))))))⟩]⟩
noncomputable def r20 : ((Int × (List ((Int × Int)) × Int)) × (List ((Int × (Int × (Int × (Int × (Int × Int)))))) × (Int × Bool))) → Option (List ((Int × (Int × (Int × (Int × (Int × (List Int × ((Int × (Int × (Int × (Int × Int)))) × List UInt8))))))))) := fun a =>
  Option.bind (loopR (r20_L1 a) ((), ((0 : Int), []))) fun (q289 : (Unit × List ((Int × (Int × (Int × (Int × (Int × (List Int × ((Int × (Int × (Int × (Int × Int)))) × List UInt8)))))))))) =>
    some q289.2
def an20 : Ann := .two (.leaf) (.two (.leaf) (.two (.two (.leaf) (.one (.loop [1, 2, 3, 4] [4] [(9, (.pair (.int .i64) (.pair (.int .i64) (.pair (.int .i64) (.pair (.int .i64) (.pair (.int .i64) (.pair (.rsl (.int .i64)) (.pair (.pair (.int .i64) (.pair (.int .i64) (.pair (.int .i64) (.pair (.int .i64) (.int .i64))))) .str))))))))] [.tmp 9 (.own 9 [(0, 0)] (.pair (.int .i64) (.pair (.int .i64) (.pair (.int .i64) (.pair (.int .i64) (.pair (.int .i64) (.pair (.rsl (.int .i64)) (.pair (.pair (.int .i64) (.pair (.int .i64) (.pair (.int .i64) (.pair (.int .i64) (.int .i64))))) .str)))))))), .tmp 10 (.int .i64), .row 9 [.sl .own (.pair (.int .i64) (.pair (.int .i64) (.pair (.int .i64) (.pair (.int .i64) (.pair (.int .i64) (.pair (.rsl (.int .i64)) (.pair (.pair (.int .i64) (.pair (.int .i64) (.pair (.int .i64) (.pair (.int .i64) (.int .i64))))) .str)))))))]] [⟨.exit 0, [], [.tmp 9 (.own 9 [(0, 0)] (.pair (.int .i64) (.pair (.int .i64) (.pair (.int .i64) (.pair (.int .i64) (.pair (.int .i64) (.pair (.rsl (.int .i64)) (.pair (.pair (.int .i64) (.pair (.int .i64) (.pair (.int .i64) (.pair (.int .i64) (.int .i64))))) .str)))))))), .row 9 [.sl .own (.pair (.int .i64) (.pair (.int .i64) (.pair (.int .i64) (.pair (.int .i64) (.pair (.int .i64) (.pair (.rsl (.int .i64)) (.pair (.pair (.int .i64) (.pair (.int .i64) (.pair (.int .i64) (.pair (.int .i64) (.int .i64))))) .str)))))))]]⟩] (.two (.two (.join [1, 2, 3, 4, 9, 10] [4, 9] [⟨.normal, [], [.tmp 25 (.bool)]⟩] (.leaf)) (.two (.leaf) (.leaf))) (.two (.join [1, 2, 3, 4, 10] [4] [⟨.normal, [(9, (.pair (.int .i64) (.pair (.int .i64) (.pair (.int .i64) (.pair (.int .i64) (.pair (.int .i64) (.pair (.rsl (.int .i64)) (.pair (.pair (.int .i64) (.pair (.int .i64) (.pair (.int .i64) (.pair (.int .i64) (.int .i64))))) .str))))))))], [.tmp 9 (.own 9 [(0, 0)] (.pair (.int .i64) (.pair (.int .i64) (.pair (.int .i64) (.pair (.int .i64) (.pair (.int .i64) (.pair (.rsl (.int .i64)) (.pair (.pair (.int .i64) (.pair (.int .i64) (.pair (.int .i64) (.pair (.int .i64) (.int .i64))))) .str)))))))), .row 9 [.sl .own (.pair (.int .i64) (.pair (.int .i64) (.pair (.int .i64) (.pair (.int .i64) (.pair (.int .i64) (.pair (.rsl (.int .i64)) (.pair (.pair (.int .i64) (.pair (.int .i64) (.pair (.int .i64) (.pair (.int .i64) (.int .i64))))) .str)))))))]]⟩] (.one (.two (.leaf) (.two (.draw 15) (.two (.join [1, 2, 3, 4, 9, 10, 11] [4, 9, 11] [⟨.normal, [], [.tmp 12 (.pt 12 [(0, 0)] 0 0 12), .box 12 [.int .i64, .int .i64, .int .i64, .int .i64, .int .i64, .sl .own (.int .i64), .int .i64, .int .i64, .int .i64, .int .i64, .int .i64, .str]]⟩] (.two (.leaf) (.one (.two (.leaf) (.two (.two (.leaf) (.leaf)) (.two (.leaf) (.two (.two (.leaf) (.two (.leaf) (.leaf))) (.two (.leaf) (.two (.two (.leaf) (.two (.leaf) (.leaf))) (.two (.leaf) (.two (.leaf) (.two (.leaf) (.two (.two (.leaf) (.two (.leaf) (.one (.loop [1, 2, 3, 4, 9, 10, 11] [4, 9, 11] [] [.tmp 12 (.pt 12 [(0, 0)] 0 0 12), .tmp 14 (.int .i64), .box 12 [.int .i64, .int .i64, .int .i64, .int .i64, .int .i64, .sl .own (.int .i64), .int .i64, .int .i64, .int .i64, .int .i64, .int .i64, .str]] [⟨.exit 3, [], [.tmp 12 (.pt 12 [(0, 0)] 0 0 12), .box 12 [.int .i64, .int .i64, .int .i64, .int .i64, .int .i64, .sl .own (.int .i64), .int .i64, .int .i64, .int .i64, .int .i64, .int .i64, .str]]⟩] (.two (.two (.leaf) (.two (.leaf) (.leaf))) (.two (.one (.draw 9)) (.leaf))))))) (.two (.leaf) (.two (.leaf) (.two (.leaf) (.leaf))))))))))))))))) (.two (.leaf) (.two (.join [1, 2, 3, 4, 9, 10, 12] [4, 12, 141] [⟨.normal, [], [.tmp 150 (.bool)]⟩] (.leaf)) (.two (.two (.leaf) (.leaf)) (.leaf))))))))) (.leaf)))))) (.two (.leaf) (.leaf))))
theorem s20 : SoundF cx.P cx.G 20 sg20 r20 := by
  have e : denF cx [(18, ⟨sg18, r18⟩), (27, ⟨sg27, r27⟩), (28, ⟨sg28, r28⟩)] an20 Try.f20.ntmps (Try.f20.body.getD .skip) Try.f20.results.toList sg20 = r20 := by kernel_rfl
  rw [← e]
  exact sound_of_den (c := cx) (Known.cons s18 Try.func18 (by kernel_rfl) (by kernel_rfl) (Known.cons s27 Try.func27 (by kernel_rfl) (by kernel_rfl) (Known.cons s28 Try.func28 (by kernel_rfl) (by kernel_rfl) (Known.nil)))) Try.func20 (by kernel_rfl) (Nat.le_of_ble_eq_true (by kernel_rfl))

/-! reredos/label.Above -/
def sg13 : Sig := ⟨[⟨true, .bo, (.pair (.int .i64) (.int .i64))⟩, ⟨true, .bo, (.pair (.int .i64) (.int .i64))⟩], [⟨false, .own, .bool⟩]⟩
noncomputable def r13 : ((Int × Int) × (Int × Int)) → Option Bool := fun a =>
  bif decide (a.2.1 ≤ a.1.1) then
    some (decide ((Go.bits .and .i64 a.1.2 a.2.2) = a.2.2))
  else
    some false
def an13 : Ann := .two (.leaf) (.two (.leaf) (.leaf))
theorem s13 : SoundF cx.P cx.G 13 sg13 r13 := by
  have e : denF cx [] an13 Try.f13.ntmps (Try.f13.body.getD .skip) Try.f13.results.toList sg13 = r13 := by kernel_rfl
  rw [← e]
  exact sound_of_den (c := cx) (Known.nil) Try.func13 (by kernel_rfl) (Nat.le_of_ble_eq_true (by kernel_rfl))

/-! reredos/label.place -/
def sg29 : Sig := ⟨[⟨true, .bo, (.pair (.int .i64) (.pair (.sl (.pair (.int .i64) (.int .i64))) (.int .i64)))⟩, ⟨false, .bo, (.int .i64)⟩], [⟨false, .own, .bool⟩]⟩
noncomputable def r29 : ((Int × (List ((Int × Int)) × Int)) × Int) → Option Bool := fun a =>
  bif decide ((0 : Int) ≤ a.2) then
    some (decide (a.2 < (↑a.1.2.1.length : Int)))
  else
    some false
def an29 : Ann := .two (.leaf) (.two (.leaf) (.leaf))
theorem s29 : SoundF cx.P cx.G 29 sg29 r29 := by
  have e : denF cx [] an29 Try.f29.ntmps (Try.f29.body.getD .skip) Try.f29.results.toList sg29 = r29 := by kernel_rfl
  rw [← e]
  exact sound_of_den (c := cx) (Known.nil) Try.func29 (by kernel_rfl) (Nat.le_of_ble_eq_true (by kernel_rfl))

/-! reredos/label.own -/
def sg30 : Sig := ⟨[⟨true, .bo, (.pair (.int .i64) (.pair (.int .i64) (.pair (.int .i64) (.pair (.int .i64) (.pair (.int .i64) (.pair (.sl (.int .i64)) (.pair (.pair (.int .i64) (.pair (.int .i64) (.pair (.int .i64) (.pair (.int .i64) (.int .i64))))) .str)))))))⟩], [⟨true, .own, (.pair (.int .i64) (.pair (.int .i64) (.pair (.int .i64) (.pair (.int .i64) (.pair (.int .i64) (.pair (.sl (.int .i64)) (.pair (.pair (.int .i64) (.pair (.int .i64) (.pair (.int .i64) (.pair (.int .i64) (.int .i64))))) .str)))))))⟩]⟩
noncomputable def r30 : (Int × (Int × (Int × (Int × (Int × (List Int × ((Int × (Int × (Int × (Int × Int)))) × List UInt8))))))) → Option (Int × (Int × (Int × (Int × (Int × (List Int × ((Int × (Int × (Int × (Int × Int)))) × List UInt8))))))) := fun a =>
  bif roomOk true 0 a.2.2.2.2.2.1.length 8 then
    some a
  else
    none
def an30 : Ann := .two (.leaf) (.two (.leaf) (.two (.leaf) (.leaf)))
theorem s30 : SoundF cx.P cx.G 30 sg30 r30 := by
  have e : denF cx [] an30 Try.f30.ntmps (Try.f30.body.getD .skip) Try.f30.results.toList sg30 = r30 := by kernel_rfl
  rw [← e]
  exact sound_of_den (c := cx) (Known.nil) Try.func30 (by kernel_rfl) (Nat.le_of_ble_eq_true (by kernel_rfl))

/-! reredos/label.Purge -/
noncomputable def r21_L0 (y1577 : (Int × (Int × (Int × (Int × (Int × (List Int × ((Int × (Int × (Int × (Int × Int)))) × List UInt8)))))))) (a : ((Int × (List ((Int × Int)) × Int)) × (Int × List ((Int × (Int × (Int × (Int × (Int × (List Int × ((Int × (Int × (Int × (Int × Int)))) × List UInt8))))))))))) : (Unit × (Int × (Int × (Int × (Int × (Int × (Int × (List Int × (Int × (Int × (Int × (Int × (Int × List UInt8))))))))))))) → Option ((Unit × (Int × (Int × (Int × (Int × (Int × (Int × (List Int × (Int × (Int × (Int × (Int × (Int × List UInt8))))))))))))) ⊕ (Unit × (Int × (Int × (Int × (Int × (Int × (List Int × (Int × (Int × (Int × (Int × (Int × List UInt8))))))))))))) := fun d1829 =>
  bif decide (d1829.2.1 < (↑y1577.2.2.2.2.2.1.length : Int)) then
    Option.bind (
      Option.bind (
        Option.bind (r29 (a.1, d1829.2.1)) fun (y1866 : Bool) =>
          bif y1866 then
            Option.bind (idxI a.1.2.1 a.2.1) fun (b1867 : (Int × Int)) =>
              Option.bind (idxI a.1.2.1 d1829.2.1) fun (b1868 : (Int × Int)) =>
                Option.bind (r13 (b1867, b1868)) fun (y1869 : Bool) =>
                  some !(y1869)
          else
            some false) fun (d1870 : Bool) =>
        bif d1870 then
          bif inB d1829.2.1 d1829.2.2.2.2.2.2.2.1.length then
            Option.bind (idxN d1829.2.2.2.2.2.2.2.1 (Int.toNat d1829.2.1)) fun (x1871 : Int) =>
              some ((), (d1829.2.2.1, (d1829.2.2.2.1, (d1829.2.2.2.2.1, (d1829.2.2.2.2.2.1, (d1829.2.2.2.2.2.2.1, (List.set d1829.2.2.2.2.2.2.2.1 (Int.toNat d1829.2.1) (0 : Int), d1829.2.2.2.2.2.2.2.2)))))))
          else
            none
        else
          some ((), d1829.2.2)) fun (d1872 : (Unit × (Int × (Int × (Int × (Int × (Int × (List Int × (Int × (Int × (Int × (Int × (Int × List UInt8))))))))))))) =>
      some (Sum.inl ((), ((Go.IntKind.wrap .i64 (d1829.2.1 + (1 : Int))), d1872.2)))
  else
    some (Sum.inr ((), d1829.2.2))
noncomputable def r21_L1 (a : ((Int × (List ((Int × Int)) × Int)) × (Int × List ((Int × (Int × (Int × (Int × (Int × (List Int × ((Int × (Int × (Int × (Int × Int)))) × List UInt8))))))))))) : (Unit × (Int × List ((Int × (Int × (Int × (Int × (Int × (List Int × ((Int × (Int × (Int × (Int × Int)))) × List UInt8)))))))))) → Option ((Unit × (Int × List ((Int × (Int × (Int × (Int × (Int × (List Int × ((Int × (Int × (Int × (Int × Int)))) × List UInt8)))))))))) ⊕ (Unit × List ((Int × (Int × (Int × (Int × (Int × (List Int × ((Int × (Int × (Int × (Int × Int)))) × List UInt8)))))))))) := fun d947 =>
  bif decide (d947.2.1 < (↑a.2.2.length : Int)) then
    Option.bind (
      Option.bind (idxI a.2.2 d947.2.1) fun (b1576 : (Int × (Int × (Int × (Int × (Int × (List Int × ((Int × (Int × (Int × (Int × Int)))) × List UInt8)))))))) =>
        Option.bind (r30 b1576) fun (y1577 : (Int × (Int × (Int × (Int × (Int × (List Int × ((Int × (Int × (Int × (Int × Int)))) × List UInt8)))))))) =>
          Option.bind (
            Option.bind (
              bif decide (y1577.1 = (5 : Int)) then
                some (decide (y1577.1 = (5 : Int)))
              else
                some (decide (y1577.1 = (7 : Int)))) fun (d1784 : Bool) =>
              bif d1784 then
                some (Sum.inl ((), (y1577.1, (y1577.2.1, (y1577.2.2.1, (y1577.2.2.2.1, (y1577.2.2.2.2.1, (y1577.2.2.2.2.2.1, (y1577.2.2.2.2.2.2.1.1, (y1577.2.2.2.2.2.2.1.2.1, (y1577.2.2.2.2.2.2.1.2.2.1, (y1577.2.2.2.2.2.2.1.2.2.2.1, (y1577.2.2.2.2.2.2.1.2.2.2.2, y1577.2.2.2.2.2.2.2)))))))))))))
              else
                bif decide (y1577.1 = (6 : Int)) then
                  Option.bind (loopR (r21_L0 y1577 a) ((), ((0 : Int), (y1577.1, (y1577.2.1, (y1577.2.2.1, (y1577.2.2.2.1, (y1577.2.2.2.2.1, (y1577.2.2.2.2.2.1, (y1577.2.2.2.2.2.2.1.1, (y1577.2.2.2.2.2.2.1.2.1, (y1577.2.2.2.2.2.2.1.2.2.1, (y1577.2.2.2.2.2.2.1.2.2.2.1, (y1577.2.2.2.2.2.2.1.2.2.2.2, y1577.2.2.2.2.2.2.2)))))))))))))) fun (q1873 : (Unit × (Int × (Int × (Int × (Int × (Int × (List Int × (Int × (Int × (Int × (Int × (Int × List UInt8))))))))))))) =>
                    some (Sum.inl ((), q1873.2))
                else
                  Option.bind (
                    Option.bind (r29 (a.1, y1577.2.2.2.1)) fun (y1882 : Bool) =>
                      bif y1882 then
                        Option.bind (idxI a.1.2.1 a.2.1) fun (b1883 : (Int × Int)) =>
                          Option.bind (idxI a.1.2.1 y1577.2.2.2.1) fun (b1884 : (Int × Int)) =>
                            Option.bind (r13 (b1883, b1884)) fun (y1885 : Bool) =>
                              some !(y1885)
                      else
                        some false) fun (d1886 : Bool) =>
                    bif d1886 then
                      some (Sum.inr ())
                    else
                      some (Sum.inl ((), (y1577.1, (y1577.2.1, (y1577.2.2.1, (y1577.2.2.2.1, (y1577.2.2.2.2.1, (y1577.2.2.2.2.2.1, (y1577.2.2.2.2.2.2.1.1, (y1577.2.2.2.2.2.2.1.2.1, (y1577.2.2.2.2.2.2.1.2.2.1, (y1577.2.2.2.2.2.2.1.2.2.2.1, (y1577.2.2.2.2.2.2.1.2.2.2.2, y1577.2.2.2.2.2.2.2)))))))))))))) fun (d1887 : ((Unit × (Int × (Int × (Int × (Int × (Int × (List Int × (Int × (Int × (Int × (Int × (Int × List UInt8)))))))))))) ⊕ Unit)) =>
            Sum.elim (fun (v1888 : (Unit × (Int × (Int × (Int × (Int × (Int × (List Int × (Int × (Int × (Int × (Int × (Int × List UInt8))))))))))))) =>
                bif roomOk false d947.2.2.length 1 120 then
                  some ((), app d947.2.2 [(v1888.2.1, (v1888.2.2.1, (v1888.2.2.2.1, (v1888.2.2.2.2.1, (v1888.2.2.2.2.2.1, (v1888.2.2.2.2.2.2.1, ((v1888.2.2.2.2.2.2.2.1, (v1888.2.2.2.2.2.2.2.2.1, (v1888.2.2.2.2.2.2.2.2.2.1, (v1888.2.2.2.2.2.2.2.2.2.2.1, v1888.2.2.2.2.2.2.2.2.2.2.2.1)))), v1888.2.2.2.2.2.2.2.2.2.2.2.2)))))))])
                else
                  none)
              (fun (v1889 : Unit) =>
                some ((), d947.2.2)) d1887) fun (d1890 : (Unit × List ((Int × (Int × (Int × (Int × (Int × (List Int × ((Int × (Int × (Int × (Int × Int)))) × List UInt8)))))))))) =>
      some (Sum.inl ((), ((Go.IntKind.wrap .i64 (d947.2.1 + (1 : Int))), d1890.2)))
  else
    some (Sum.inr ((), d947.2.2))
def sg21 : Sig := ⟨[⟨true, .bo, (.pair (.int .i64) (.pair (.sl (.pair (.int .i64) (.int .i64))) (.int .i64)))⟩, ⟨false, .bo, (.int .i64)⟩, ⟨false, .bo, (.sl (.pair (.int .i64) (.pair (.int .i64) (.pair (.int .i64) (.pair (.int .i64) (.pair (.int .i64) (.pair (.rsl (.int .i64)) (.pair (.pair (.int .i64) (.pair (.int .i64) (.pair (.int .i64) (.pair (.int .i64) (.int .i64))))) .str))))))))⟩], [⟨false, .own, (.sl (.pair (.int .i64) (.pair (.int .i64) (.pair (.int .i64) (.pair (.int .i64) (.pair (.int .i64) (.pair (.rsl (.int .i64)) (.pair (.pair (.int .i64) (.pair (.int .i64) (.pair (.int .i64) (.pair (.int .i64) (.int .i64))))) .str))))))))⟩, ⟨false, .own, (.int .i64)⟩]⟩
noncomputable def r21 : ((Int × (List ((Int × Int)) × Int)) × (Int × List ((Int × (Int × (Int × (Int × (Int × (List Int × ((Int × (Int × (Int × (Int × Int)))) × List UInt8)))))))))) → Option (List ((Int × (Int × (Int × (Int × (Int × (List Int × ((Int × (Int × (Int × (Int × Int)))) × List UInt8)))))))) × Int) := fun a =>
  Option.bind (r17 a.1) fun (y1 : Int) =>
    bif !(decide (y1 = (0 : Int))) then
      some ([], y1)
    else
      Option.bind (r29 (a.1, a.2.1)) fun (y2 : Bool) =>
        bif !(y2) then
          some ([], (6 : Int))
        else
          Option.bind (loopR (r21_L1 a) ((), ((0 : Int), []))) fun (q1891 : (Unit × List ((Int × (Int × (Int × (Int × (Int × (List Int × ((Int × (Int × (Int × (Int × Int)))) × List UInt8)))))))))) =>
            some (q1891.2, (0 : Int))
def an21 : Ann := .two (.leaf) (.two (.two (.leaf) (.two (.leaf) (.two (.two (.leaf) (.leaf)) (.leaf)))) (.two (.two (.leaf) (.two (.two (.leaf) (.leaf)) (.leaf))) (.two (.leaf) (.two (.two (.leaf) (.one (.loop [1, 3, 22, 23] [3] [(9, (.pair (.int .i64) (.pair (.int .i64) (.pair (.int .i64) (.pair (.int .i64) (.pair (.int .i64) (.pair (.rsl (.int .i64)) (.pair (.pair (.int .i64) (.pair (.int .i64) (.pair (.int .i64) (.pair (.int .i64) (.int .i64))))) .str))))))))] [.tmp 9 (.own 9 [(0, 0)] (.pair (.int .i64) (.pair (.int .i64) (.pair (.int .i64) (.pair (.int .i64) (.pair (.int .i64) (.pair (.rsl (.int .i64)) (.pair (.pair (.int .i64) (.pair (.int .i64) (.pair (.int .i64) (.pair (.int .i64) (.int .i64))))) .str)))))))), .tmp 24 (.int .i64), .row 9 [.sl .own (.pair (.int .i64) (.pair (.int .i64) (.pair (.int .i64) (.pair (.int .i64) (.pair (.int .i64) (.pair (.rsl (.int .i64)) (.pair (.pair (.int .i64) (.pair (.int .i64) (.pair (.int .i64) (.pair (.int .i64) (.int .i64))))) .str)))))))]] [⟨.exit 0, [], [.tmp 9 (.own 9 [(0, 0)] (.pair (.int .i64) (.pair (.int .i64) (.pair (.int .i64) (.pair (.int .i64) (.pair (.int .i64) (.pair (.rsl (.int .i64)) (.pair (.pair (.int .i64) (.pair (.int .i64) (.pair (.int .i64) (.pair (.int .i64) (.int .i64))))) .str)))))))), .row 9 [.sl .own (.pair (.int .i64) (.pair (.int .i64) (.pair (.int .i64) (.pair (.int .i64) (.pair (.int .i64) (.pair (.rsl (.int .i64)) (.pair (.pair (.int .i64) (.pair (.int .i64) (.pair (.int .i64) (.pair (.int .i64) (.int .i64))))) .str)))))))]]⟩] (.two (.leaf) (.two (.two (.leaf) (.leaf)) (.two (.join [1, 3, 22, 23, 24] [3] [⟨.normal, [(9, (.pair (.int .i64) (.pair (.int .i64) (.pair (.int .i64) (.pair (.int .i64) (.pair (.int .i64) (.pair (.rsl (.int .i64)) (.pair (.pair (.int .i64) (.pair (.int .i64) (.pair (.int .i64) (.pair (.int .i64) (.int .i64))))) .str))))))))], [.tmp 9 (.own 9 [(0, 0)] (.pair (.int .i64) (.pair (.int .i64) (.pair (.int .i64) (.pair (.int .i64) (.pair (.int .i64) (.pair (.rsl (.int .i64)) (.pair (.pair (.int .i64) (.pair (.int .i64) (.pair (.int .i64) (.pair (.int .i64) (.int .i64))))) .str)))))))), .row 9 [.sl .own (.pair (.int .i64) (.pair (.int .i64) (.pair (.int .i64) (.pair (.int .i64) (.pair (.int .i64) (.pair (.rsl (.int .i64)) (.pair (.pair (.int .i64) (.pair (.int .i64) (.pair (.int .i64) (.pair (.int .i64) (.int .i64))))) .str)))))))]]⟩] (.one (.two (.leaf) (.two (.leaf) (.two (.join [1, 3, 9, 22, 23, 24] [3, 9] [⟨.normal, [], [.tmp 11 (.pt 11 [(0, 0)] 0 0 12), .box 11 [.int .i64, .int .i64, .int .i64, .int .i64, .int .i64, .sl .own (.int .i64), .int .i64, .int .i64, .int .i64, .int .i64, .int .i64, .str]]⟩, ⟨.exit 1, [], []⟩] (.two (.leaf) (.one (.two (.join [1, 3, 9, 11, 22, 23, 24, 31] [3, 9, 11] [⟨.normal, [], [.tmp 51 (.bool)]⟩] (.two (.leaf) (.two (.leaf) (.leaf)))) (.two (.leaf) (.two (.leaf) (.two (.two (.leaf) (.one (.loop [1, 3, 9, 22, 23, 24, 58] [3, 9] [] [.tmp 11 (.pt 11 [(0, 0)] 0 0 12), .tmp 59 (.int .i64), .box 11 [.int .i64, .int .i64, .int .i64, .int .i64, .int .i64, .sl .own (.int .i64), .int .i64, .int .i64, .int .i64, .int .i64, .int .i64, .str]] [⟨.exit 3, [], [.tmp 11 (.pt 11 [(0, 0)] 0 0 12), .box 11 [.int .i64, .int .i64, .int .i64, .int .i64, .int .i64, .sl .own (.int .i64), .int .i64, .int .i64, .int .i64, .int .i64, .int .i64, .str]]⟩] (.two (.leaf) (.two (.two (.leaf) (.leaf)) (.two (.join [1, 3, 9, 22, 23, 24, 58, 59] [3, 9] [⟨.normal, [], [.tmp 11 (.pt 11 [(0, 0)] 0 0 12), .box 11 [.int .i64, .int .i64, .int .i64, .int .i64, .int .i64, .sl .own (.int .i64), .int .i64, .int .i64, .int .i64, .int .i64, .int .i64, .str]]⟩] (.one (.two (.leaf) (.two (.join [1, 3, 9, 11, 12, 22, 23, 24, 58, 59] [3, 9, 11] [⟨.normal, [], [.tmp 78 (.bool)]⟩] (.draw 14)) (.two (.leaf) (.leaf)))))) (.leaf))))))) (.two (.join [1, 3, 9, 11, 22, 23, 24] [3, 9, 11] [⟨.normal, [], [.tmp 50 (.bool)]⟩] (.draw 16)) (.two (.leaf) (.leaf)))))))))) (.leaf)))))) (.leaf))))))) (.two (.leaf) (.leaf))))))
theorem s21 : SoundF cx.P cx.G 21 sg21 r21 := by
  have e : denF cx [(13, ⟨sg13, r13⟩), (17, ⟨sg17, r17⟩), (29, ⟨sg29, r29⟩), (30, ⟨sg30, r30⟩)] an21 Try.f21.ntmps (Try.f21.body.getD .skip) Try.f21.results.toList sg21 = r21 := by kernel_rfl
  rw [← e]
  exact sound_of_den (c := cx) (Known.cons s13 Try.func13 (by kernel_rfl) (by kernel_rfl) (Known.cons s17 Try.func17 (by kernel_rfl) (by kernel_rfl) (Known.cons s29 Try.func29 (by kernel_rfl) (by kernel_rfl) (Known.cons s30 Try.func30 (by kernel_rfl) (by kernel_rfl) (Known.nil))))) Try.func21 (by kernel_rfl) (Nat.le_of_ble_eq_true (by kernel_rfl))

/-! reredos/label.Sees -/
def sg31 : Sig := ⟨[⟨true, .bo, (.pair (.int .i64) (.pair (.sl (.pair (.int .i64) (.int .i64))) (.int .i64)))⟩, ⟨false, .bo, (.int .i64)⟩, ⟨false, .bo, (.int .i64)⟩], [⟨false, .own, .bool⟩, ⟨false, .own, (.int .i64)⟩]⟩
noncomputable def r31 : ((Int × (List ((Int × Int)) × Int)) × (Int × Int)) → Option (Bool × Int) := fun a =>
  Option.bind (r17 a.1) fun (y1 : Int) =>
    bif !(decide (y1 = (0 : Int))) then
      some (false, y1)
    else
      Option.bind (
        Option.bind (r29 (a.1, a.2.1)) fun (y6 : Bool) =>
          bif !(!(y6)) then
            Option.bind (r29 (a.1, a.2.2)) fun (y7 : Bool) =>
              some !(y7)
          else
            some true) fun (d8 : Bool) =>
        bif d8 then
          some (false, (6 : Int))
        else
          Option.bind (idxI a.1.2.1 a.2.1) fun (b9 : (Int × Int)) =>
            Option.bind (idxI a.1.2.1 a.2.2) fun (b10 : (Int × Int)) =>
              Option.bind (r13 (b9, b10)) fun (y11 : Bool) =>
                some (y11, (0 : Int))
def an31 : Ann := .two (.leaf) (.two (.two (.leaf) (.two (.leaf) (.two (.two (.leaf) (.leaf)) (.leaf)))) (.two (.two (.join [1, 2, 3] [3] [⟨.normal, [], [.tmp 23 (.bool)]⟩] (.leaf)) (.two (.two (.leaf) (.leaf)) (.leaf))) (.two (.draw 10) (.leaf))))
theorem s31 : SoundF cx.P cx.G 31 sg31 r31 := by
  have e : denF cx [(13, ⟨sg13, r13⟩), (17, ⟨sg17, r17⟩), (29, ⟨sg29, r29⟩)] an31 Try.f31.ntmps (Try.f31.body.getD .skip) Try.f31.results.toList sg31 = r31 := by kernel_rfl
  rw [← e]
  exact sound_of_den (c := cx) (Known.cons s13 Try.func13 (by kernel_rfl) (by kernel_rfl) (Known.cons s17 Try.func17 (by kernel_rfl) (by kernel_rfl) (Known.cons s29 Try.func29 (by kernel_rfl) (by kernel_rfl) (Known.nil)))) Try.func31 (by kernel_rfl) (Nat.le_of_ble_eq_true (by kernel_rfl))

/-! reredos/reredoskeep.seen -/
def sg22 : Sig := ⟨[⟨true, .bo, (.pair (.int .i64) (.pair (.sl (.pair (.int .i64) (.int .i64))) (.int .i64)))⟩, ⟨false, .bo, (.int .i64)⟩, ⟨false, .bo, (.int .i64)⟩], [⟨false, .own, .bool⟩]⟩
noncomputable def r22 : ((Int × (List ((Int × Int)) × Int)) × (Int × Int)) → Option Bool := fun a =>
  Option.bind (r31 (a.1, a.2.1, a.2.2)) fun (y1 : (Bool × Int)) =>
    bif y1.1 then
      some (decide (y1.2 = (0 : Int)))
    else
      some false
def an22 : Ann := .two (.leaf) (.two (.leaf) (.two (.leaf) (.leaf)))
theorem s22 : SoundF cx.P cx.G 22 sg22 r22 := by
  have e : denF cx [(31, ⟨sg31, r31⟩)] an22 Try.f22.ntmps (Try.f22.body.getD .skip) Try.f22.results.toList sg22 = r22 := by kernel_rfl
  rw [← e]
  exact sound_of_den (c := cx) (Known.cons s31 Try.func31 (by kernel_rfl) (by kernel_rfl) (Known.nil)) Try.func22 (by kernel_rfl) (Nat.le_of_ble_eq_true (by kernel_rfl))

/-! reredos/reredoskeep.sameInts -/
noncomputable def r32_L0 (a : (List Int × List Int)) : Int → Option (Int ⊕ (Unit ⊕ Bool)) := fun d1 =>
  bif decide (d1 < (↑a.1.length : Int)) then
    Option.bind (idxI a.1 d1) fun (b2 : Int) =>
      Option.bind (idxI a.2 d1) fun (b3 : Int) =>
        bif !(decide (b2 = b3)) then
          some (Sum.inr (Sum.inr false))
        else
          some (Sum.inl (Go.IntKind.wrap .i64 (d1 + (1 : Int))))
  else
    some (Sum.inr (Sum.inl ()))
def sg32 : Sig := ⟨[⟨false, .bo, (.sl (.int .i64))⟩, ⟨false, .bo, (.sl (.int .i64))⟩], [⟨false, .own, .bool⟩]⟩
noncomputable def r32 : (List Int × List Int) → Option Bool := fun a =>
  bif !(decide ((↑a.1.length : Int) = (↑a.2.length : Int))) then
    some false
  else
    Option.bind (loopR (r32_L0 a) (0 : Int)) fun (q4 : (Unit ⊕ Bool)) =>
      Sum.elim (fun (v5 : Unit) =>
          some true)
        (fun (v6 : Bool) =>
          some v6) q4
def an32 : Ann := .two (.leaf) (.two (.two (.leaf) (.two (.two (.leaf) (.leaf)) (.leaf))) (.two (.two (.leaf) (.one (.loop [0, 1] [] [] [.tmp 5 (.int .i64)] [⟨.exit 0, [], []⟩, ⟨.ret, [], [.tmp 4 (.bool)]⟩] (.two (.two (.leaf) (.two (.leaf) (.leaf))) (.two (.one (.two (.draw 8) (.two (.two (.leaf) (.leaf)) (.leaf)))) (.leaf)))))) (.two (.leaf) (.leaf))))
theorem s32 : SoundF cx.P cx.G 32 sg32 r32 := by
  have e : denF cx [] an32 Try.f32.ntmps (Try.f32.body.getD .skip) Try.f32.results.toList sg32 = r32 := by kernel_rfl
  rw [← e]
  exact sound_of_den (c := cx) (Known.nil) Try.func32 (by kernel_rfl) (Nat.le_of_ble_eq_true (by kernel_rfl))

/-! reredos/reredoskeep.sameActs -/
noncomputable def r23_L0 (a : (List ((Int × (Int × (Int × (Int × (Int × (List Int × ((Int × (Int × (Int × (Int × Int)))) × List UInt8)))))))) × List ((Int × (Int × (Int × (Int × (Int × (List Int × ((Int × (Int × (Int × (Int × Int)))) × List UInt8)))))))))) : Int → Option (Int ⊕ (Unit ⊕ Bool)) := fun d1 =>
  bif decide (d1 < (↑a.1.length : Int)) then
    Option.bind (idxI a.1 d1) fun (b2 : (Int × (Int × (Int × (Int × (Int × (List Int × ((Int × (Int × (Int × (Int × Int)))) × List UInt8)))))))) =>
      Option.bind (idxI a.2 d1) fun (b3 : (Int × (Int × (Int × (Int × (Int × (List Int × ((Int × (Int × (Int × (Int × Int)))) × List UInt8)))))))) =>
        Option.bind (
          bif !(!(decide (b2.1 = b3.1))) then
            bif !(!(decide (b2.2.1 = b3.2.1))) then
              bif !(!(decide (b2.2.2.1 = b3.2.2.1))) then
                bif !(!(decide (b2.2.2.2.1 = b3.2.2.2.1))) then
                  bif !(!(decide (b2.2.2.2.2.1 = b3.2.2.2.2.1))) then
                    bif !(!((decide (b2.2.2.2.2.2.2.1.1 = b3.2.2.2.2.2.2.1.1) && (decide (b2.2.2.2.2.2.2.1.2.1 = b3.2.2.2.2.2.2.1.2.1) && (decide (b2.2.2.2.2.2.2.1.2.2.1 = b3.2.2.2.2.2.2.1.2.2.1) && (decide (b2.2.2.2.2.2.2.1.2.2.2.1 = b3.2.2.2.2.2.2.1.2.2.2.1) && (decide (b2.2.2.2.2.2.2.1.2.2.2.2 = b3.2.2.2.2.2.2.1.2.2.2.2) && true))))))) then
                      bif !(!(decide (b2.2.2.2.2.2.2.2 = b3.2.2.2.2.2.2.2))) then
                        Option.bind (r32 (b2.2.2.2.2.2.1, b3.2.2.2.2.2.1)) fun (y6 : Bool) =>
                          some !(y6)
                      else
                        some true
                    else
                      some true
                  else
                    some true
                else
                  some true
              else
                some true
            else
              some true
          else
            some true) fun (d7 : Bool) =>
          bif d7 then
            some (Sum.inr (Sum.inr false))
          else
            some (Sum.inl (Go.IntKind.wrap .i64 (d1 + (1 : Int))))
  else
    some (Sum.inr (Sum.inl ()))
def sg23 : Sig := ⟨[⟨false, .bo, (.sl (.pair (.int .i64) (.pair (.int .i64) (.pair (.int .i64) (.pair (.int .i64) (.pair (.int .i64) (.pair (.rsl (.int .i64)) (.pair (.pair (.int .i64) (.pair (.int .i64) (.pair (.int .i64) (.pair (.int .i64) (.int .i64))))) .str))))))))⟩, ⟨false, .bo, (.sl (.pair (.int .i64) (.pair (.int .i64) (.pair (.int .i64) (.pair (.int .i64) (.pair (.int .i64) (.pair (.rsl (.int .i64)) (.pair (.pair (.int .i64) (.pair (.int .i64) (.pair (.int .i64) (.pair (.int .i64) (.int .i64))))) .str))))))))⟩], [⟨false, .own, .bool⟩]⟩
noncomputable def r23 : (List ((Int × (Int × (Int × (Int × (Int × (List Int × ((Int × (Int × (Int × (Int × Int)))) × List UInt8)))))))) × List ((Int × (Int × (Int × (Int × (Int × (List Int × ((Int × (Int × (Int × (Int × Int)))) × List UInt8))))))))) → Option Bool := fun a =>
  bif !(decide ((↑a.1.length : Int) = (↑a.2.length : Int))) then
    some false
  else
    Option.bind (loopR (r23_L0 a) (0 : Int)) fun (q8 : (Unit ⊕ Bool)) =>
      Sum.elim (fun (v9 : Unit) =>
          some true)
        (fun (v10 : Bool) =>
          some v10) q8
def an23 : Ann := .two (.leaf) (.two (.two (.leaf) (.two (.two (.leaf) (.leaf)) (.leaf))) (.two (.two (.leaf) (.one (.loop [0, 1] [] [] [.tmp 5 (.int .i64)] [⟨.exit 0, [], []⟩, ⟨.ret, [], [.tmp 4 (.bool)]⟩] (.two (.two (.leaf) (.two (.leaf) (.leaf))) (.two (.one (.two (.leaf) (.two (.leaf) (.two (.join [0, 1, 5] [] [⟨.normal, [], [.tmp 81 (.bool)]⟩] (.leaf)) (.two (.two (.leaf) (.leaf)) (.leaf)))))) (.leaf)))))) (.two (.leaf) (.leaf))))
theorem s23 : SoundF cx.P cx.G 23 sg23 r23 := by
  have e : denF cx [(32, ⟨sg32, r32⟩)] an23 Try.f23.ntmps (Try.f23.body.getD .skip) Try.f23.results.toList sg23 = r23 := by kernel_rfl
  rw [← e]
  exact sound_of_den (c := cx) (Known.cons s32 Try.func32 (by kernel_rfl) (by kernel_rfl) (Known.nil)) Try.func23 (by kernel_rfl) (Nat.le_of_ble_eq_true (by kernel_rfl))

/-! reredos/reredoskeep.PurgeAll -/
noncomputable def r8_L0 (y1 : (Int × (List ((Int × Int)) × Int))) : Int → Option (Int ⊕ (Unit ⊕ Bool)) := fun d4 =>
  bif decide (d4 < (3 : Int)) then
    Option.bind (r22 (y1, (3 : Int), d4)) fun (y5 : Bool) =>
      bif !(y5) then
        some (Sum.inr (Sum.inr false))
      else
        some (Sum.inl (Go.IntKind.wrap .i64 (d4 + (1 : Int))))
  else
    some (Sum.inr (Sum.inl ()))
def sg8 : Sig := ⟨[⟨false, .bo, (.int .i64)⟩, ⟨false, .bo, (.sl (.pair (.int .i64) (.pair (.int .i64) (.pair (.int .i64) (.pair (.int .i64) (.pair (.int .i64) (.int .i64)))))))⟩, ⟨false, .bo, (.int .i64)⟩], [⟨false, .own, .bool⟩]⟩
noncomputable def r8 : (Int × (List ((Int × (Int × (Int × (Int × (Int × Int)))))) × Int)) → Option Bool := fun a =>
  Option.bind (r16 (a.1, [(0 : Int), (3 : Int), (8 : Int), (11 : Int)], a.2.2)) fun (y1 : (Int × (List ((Int × Int)) × Int))) =>
    Option.bind (r20 (y1, a.2.1, (30 : Int), true)) fun (y2 : List ((Int × (Int × (Int × (Int × (Int × (List Int × ((Int × (Int × (Int × (Int × Int)))) × List UInt8))))))))) =>
      Option.bind (r21 (y1, (3 : Int), y2)) fun (y3 : (List ((Int × (Int × (Int × (Int × (Int × (List Int × ((Int × (Int × (Int × (Int × Int)))) × List UInt8)))))))) × Int)) =>
        Option.bind (loopR (r8_L0 y1) (0 : Int)) fun (q6 : (Unit ⊕ Bool)) =>
          Sum.elim (fun (v7 : Unit) =>
              bif decide (y3.2 = (0 : Int)) then
                Option.bind (r23 (y2, y3.1)) fun (y9 : Bool) =>
                  some y9
              else
                some false)
            (fun (v8 : Bool) =>
              some v8) q6
def an8 : Ann := .two (.leaf) (.two (.leaf) (.two (.leaf) (.two (.leaf) (.two (.two (.leaf) (.one (.loop [7, 8, 9, 10] [7, 18, 22] [] [.tmp 11 (.int .i64)] [⟨.exit 0, [], []⟩, ⟨.ret, [], [.tmp 6 (.bool)]⟩] (.two (.two (.leaf) (.two (.leaf) (.leaf))) (.two (.one (.two (.leaf) (.two (.two (.leaf) (.leaf)) (.leaf)))) (.leaf)))))) (.two (.leaf) (.leaf))))))
theorem s8 : SoundF cx.P cx.G 8 sg8 r8 := by
  have e : denF cx [(16, ⟨sg16, r16⟩), (20, ⟨sg20, r20⟩), (21, ⟨sg21, r21⟩), (22, ⟨sg22, r22⟩), (23, ⟨sg23, r23⟩)] an8 Try.f8.ntmps (Try.f8.body.getD .skip) Try.f8.results.toList sg8 = r8 := by kernel_rfl
  rw [← e]
  exact sound_of_den (c := cx) (Known.cons s16 Try.func16 (by kernel_rfl) (by kernel_rfl) (Known.cons s20 Try.func20 (by kernel_rfl) (by kernel_rfl) (Known.cons s21 Try.func21 (by kernel_rfl) (by kernel_rfl) (Known.cons s22 Try.func22 (by kernel_rfl) (by kernel_rfl) (Known.cons s23 Try.func23 (by kernel_rfl) (by kernel_rfl) (Known.nil)))))) Try.func8 (by kernel_rfl) (Nat.le_of_ble_eq_true (by kernel_rfl))

/-! reredos/reredoskeep.PurgeTwice -/
noncomputable def r9_L0 (y4 : (List ((Int × (Int × (Int × (Int × (Int × (List Int × ((Int × (Int × (Int × (Int × Int)))) × List UInt8)))))))) × Int)) (y1 : (Int × (List ((Int × Int)) × Int))) (y2 : Int) : Int → Option (Int ⊕ (Unit ⊕ Bool)) := fun d11 =>
  bif decide (d11 < (↑y4.1.length : Int)) then
    bif inB d11 y4.1.length then
      Option.bind (idxN y4.1 (Int.toNat d11)) fun (x12 : (Int × (Int × (Int × (Int × (Int × (List Int × ((Int × (Int × (Int × (Int × Int)))) × List UInt8)))))))) =>
        Option.bind (
          bif !(decide (x12.1 = (5 : Int))) then
            bif !(decide (x12.1 = (7 : Int))) then
              bif !(decide (x12.1 = (6 : Int))) then
                Option.bind (r22 (y1, y2, x12.2.2.2.1)) fun (y15 : Bool) =>
                  some !(y15)
              else
                some false
            else
              some false
          else
            some false) fun (d16 : Bool) =>
          bif d16 then
            some (Sum.inr (Sum.inr false))
          else
            some (Sum.inl (Go.IntKind.wrap .i64 (d11 + (1 : Int))))
    else
      none
  else
    some (Sum.inr (Sum.inl ()))
def sg9 : Sig := ⟨[⟨false, .bo, (.int .i64)⟩, ⟨false, .bo, (.sl (.int .i64))⟩, ⟨false, .bo, (.int .i64)⟩, ⟨false, .bo, (.sl (.pair (.int .i64) (.pair (.int .i64) (.pair (.int .i64) (.pair (.int .i64) (.pair (.int .i64) (.int .i64)))))))⟩, ⟨false, .bo, (.int .i64)⟩], [⟨false, .own, .bool⟩]⟩
noncomputable def r9 : (Int × (List Int × (Int × (List ((Int × (Int × (Int × (Int × (Int × Int)))))) × Int)))) → Option Bool := fun a =>
  Option.bind (r16 (a.1, a.2.1, a.2.2.1)) fun (y1 : (Int × (List ((Int × Int)) × Int))) =>
    Option.bind (r18 (a.2.2.2.2, (↑y1.2.1.length : Int))) fun (y2 : Int) =>
      Option.bind (r20 (y1, a.2.2.2.1, (30 : Int), true)) fun (y3 : List ((Int × (Int × (Int × (Int × (Int × (List Int × ((Int × (Int × (Int × (Int × Int)))) × List UInt8))))))))) =>
        Option.bind (r21 (y1, y2, y3)) fun (y4 : (List ((Int × (Int × (Int × (Int × (Int × (List Int × ((Int × (Int × (Int × (Int × Int)))) × List UInt8)))))))) × Int)) =>
          Option.bind (r21 (y1, y2, y4.1)) fun (y5 : (List ((Int × (Int × (Int × (Int × (Int × (List Int × ((Int × (Int × (Int × (Int × Int)))) × List UInt8)))))))) × Int)) =>
            Option.bind (r21 (y1, (↑y1.2.1.length : Int), [])) fun (y6 : (List ((Int × (Int × (Int × (Int × (Int × (List Int × ((Int × (Int × (Int × (Int × Int)))) × List UInt8)))))))) × Int)) =>
              Option.bind (
                bif !(!(decide (y4.2 = (0 : Int)))) then
                  bif !(!(decide (y5.2 = (0 : Int)))) then
                    bif !(!(decide (y6.2 = (6 : Int)))) then
                      Option.bind (r23 (y4.1, y5.1)) fun (y9 : Bool) =>
                        some !(y9)
                    else
                      some true
                  else
                    some true
                else
                  some true) fun (d10 : Bool) =>
                bif d10 then
                  some false
                else
                  Option.bind (loopR (r9_L0 y4 y1 y2) (0 : Int)) fun (q17 : (Unit ⊕ Bool)) =>
                    Sum.elim (fun (v18 : Unit) =>
                        some true)
                      (fun (v19 : Bool) =>
                        some v19) q17
def an9 : Ann := .two (.leaf) (.two (.leaf) (.two (.leaf) (.two (.draw 10) (.two (.leaf) (.two (.leaf) (.two (.two (.join [11, 12, 13] [11, 36] [⟨.normal, [], [.tmp 69 (.bool)]⟩] (.leaf)) (.two (.two (.leaf) (.leaf)) (.leaf))) (.two (.two (.leaf) (.one (.loop [11, 12, 70, 71] [11, 36] [] [.tmp 72 (.int .i64)] [⟨.exit 0, [], []⟩, ⟨.ret, [], [.tmp 10 (.bool)]⟩] (.two (.leaf) (.two (.two (.leaf) (.leaf)) (.two (.one (.two (.leaf) (.two (.join [11, 12, 70, 71, 72] [11, 36] [⟨.normal, [], [.tmp 96 (.bool)]⟩] (.leaf)) (.two (.two (.leaf) (.leaf)) (.leaf))))) (.leaf))))))) (.two (.leaf) (.leaf)))))))))
theorem s9 : SoundF cx.P cx.G 9 sg9 r9 := by
  have e : denF cx [(16, ⟨sg16, r16⟩), (18, ⟨sg18, r18⟩), (20, ⟨sg20, r20⟩), (21, ⟨sg21, r21⟩), (22, ⟨sg22, r22⟩), (23, ⟨sg23, r23⟩)] an9 Try.f9.ntmps (Try.f9.body.getD .skip) Try.f9.results.toList sg9 = r9 := by kernel_rfl
  rw [← e]
  exact sound_of_den (c := cx) (Known.cons s16 Try.func16 (by kernel_rfl) (by kernel_rfl) (Known.cons s18 Try.func18 (by kernel_rfl) (by kernel_rfl) (Known.cons s20 Try.func20 (by kernel_rfl) (by kernel_rfl) (Known.cons s21 Try.func21 (by kernel_rfl) (by kernel_rfl) (Known.cons s22 Try.func22 (by kernel_rfl) (by kernel_rfl) (Known.cons s23 Try.func23 (by kernel_rfl) (by kernel_rfl) (Known.nil))))))) Try.func9 (by kernel_rfl) (Nat.le_of_ble_eq_true (by kernel_rfl))

/-! reredos/reredoskeep.PurgeMore -/
def sg10 : Sig := ⟨[⟨false, .bo, (.int .i64)⟩, ⟨false, .bo, (.sl (.int .i64))⟩, ⟨false, .bo, (.int .i64)⟩, ⟨false, .bo, (.sl (.pair (.int .i64) (.pair (.int .i64) (.pair (.int .i64) (.pair (.int .i64) (.pair (.int .i64) (.int .i64)))))))⟩, ⟨false, .bo, (.int .i64)⟩, ⟨false, .bo, (.int .i64)⟩], [⟨false, .own, .bool⟩]⟩
noncomputable def r10 : (Int × (List Int × (Int × (List ((Int × (Int × (Int × (Int × (Int × Int)))))) × (Int × Int))))) → Option Bool := fun a =>
  Option.bind (r16 (a.1, a.2.1, a.2.2.1)) fun (y1 : (Int × (List ((Int × Int)) × Int))) =>
    Option.bind (r18 (a.2.2.2.2.1, (↑y1.2.1.length : Int))) fun (y2 : Int) =>
      Option.bind (r18 (a.2.2.2.2.2, (↑y1.2.1.length : Int))) fun (y3 : Int) =>
        Option.bind (r20 (y1, a.2.2.2.1, (30 : Int), true)) fun (y4 : List ((Int × (Int × (Int × (Int × (Int × (List Int × ((Int × (Int × (Int × (Int × Int)))) × List UInt8))))))))) =>
          Option.bind (r22 (y1, y2, y2)) fun (y5 : Bool) =>
            bif !(y5) then
              some false
            else
              Option.bind (r22 (y1, y2, y3)) fun (y6 : Bool) =>
                bif !(y6) then
                  some true
                else
                  Option.bind (r21 (y1, y2, y4)) fun (y7 : (List ((Int × (Int × (Int × (Int × (Int × (List Int × ((Int × (Int × (Int × (Int × Int)))) × List UInt8)))))))) × Int)) =>
                    Option.bind (r21 (y1, y3, y4)) fun (y8 : (List ((Int × (Int × (Int × (Int × (Int × (List Int × ((Int × (Int × (Int × (Int × Int)))) × List UInt8)))))))) × Int)) =>
                      Option.bind (r21 (y1, y3, y7.1)) fun (y9 : (List ((Int × (Int × (Int × (Int × (Int × (List Int × ((Int × (Int × (Int × (Int × Int)))) × List UInt8)))))))) × Int)) =>
                        bif decide (y7.2 = (0 : Int)) then
                          bif decide (y8.2 = (0 : Int)) then
                            bif decide (y9.2 = (0 : Int)) then
                              Option.bind (r23 (y8.1, y9.1)) fun (y10 : Bool) =>
                                some y10
                            else
                              some false
                          else
                            some false
                        else
                          some false
def an10 : Ann := .two (.leaf) (.two (.leaf) (.two (.leaf) (.two (.leaf) (.two (.leaf) (.two (.two (.leaf) (.two (.two (.leaf) (.leaf)) (.leaf))) (.two (.two (.leaf) (.two (.two (.leaf) (.leaf)) (.leaf))) (.two (.leaf) (.two (.leaf) (.two (.leaf) (.two (.leaf) (.leaf)))))))))))
theorem s10 : SoundF cx.P cx.G 10 sg10 r10 := by
  have e : denF cx [(16, ⟨sg16, r16⟩), (18, ⟨sg18, r18⟩), (20, ⟨sg20, r20⟩), (21, ⟨sg21, r21⟩), (22, ⟨sg22, r22⟩), (23, ⟨sg23, r23⟩)] an10 Try.f10.ntmps (Try.f10.body.getD .skip) Try.f10.results.toList sg10 = r10 := by kernel_rfl
  rw [← e]
  exact sound_of_den (c := cx) (Known.cons s16 Try.func16 (by kernel_rfl) (by kernel_rfl) (Known.cons s18 Try.func18 (by kernel_rfl) (by kernel_rfl) (Known.cons s20 Try.func20 (by kernel_rfl) (by kernel_rfl) (Known.cons s21 Try.func21 (by kernel_rfl) (by kernel_rfl) (Known.cons s22 Try.func22 (by kernel_rfl) (by kernel_rfl) (Known.cons s23 Try.func23 (by kernel_rfl) (by kernel_rfl) (Known.nil))))))) Try.func10 (by kernel_rfl) (Nat.le_of_ble_eq_true (by kernel_rfl))

/-! reredos/reredoskeep.two -/
def sg24 : Sig := ⟨[⟨false, .bo, (.int .i64)⟩], [⟨true, .ro, (.pair (.int .i64) (.pair (.sl (.pair (.int .i64) (.int .i64))) (.int .i64)))⟩]⟩
noncomputable def r24 : Int → Option (Int × (List ((Int × Int)) × Int)) := fun a =>
  Option.bind (r18 (a, (3 : Int))) fun (y1 : Int) =>
    some ((Go.IntKind.wrap .i64 ((1 : Int) + y1)), ([((0 : Int), (0 : Int)), ((1 : Int), (0 : Int))], (3 : Int)))
def an24 : Ann := .two (.leaf) (.two (.leaf) (.leaf))
theorem s24 : SoundF cx.P cx.G 24 sg24 r24 := by
  have e : denF cx [(18, ⟨sg18, r18⟩)] an24 Try.f24.ntmps (Try.f24.body.getD .skip) Try.f24.results.toList sg24 = r24 := by kernel_rfl
  rw [← e]
  exact sound_of_den (c := cx) (Known.cons s18 Try.func18 (by kernel_rfl) (by kernel_rfl) (Known.nil)) Try.func24 (by kernel_rfl) (Nat.le_of_ble_eq_true (by kernel_rfl))

/-! reredos/lines.bare -/
def sg34 : Sig := ⟨[⟨true, .bo, (.pair (.int .i64) (.pair (.int .i64) (.pair (.int .i64) (.pair (.int .i64) (.pair (.int .i64) (.pair (.sl (.int .i64)) (.pair (.pair (.int .i64) (.pair (.int .i64) (.pair (.int .i64) (.pair (.int .i64) (.int .i64))))) .str)))))))⟩], [⟨false, .own, .bool⟩]⟩
noncomputable def r34 : (Int × (Int × (Int × (Int × (Int × (List Int × ((Int × (Int × (Int × (Int × Int)))) × List UInt8))))))) → Option Bool := fun a =>
  Option.bind (
    bif !(decide (a.1 = (2 : Int))) then
      bif !(decide (a.1 = (3 : Int))) then
        some (decide (a.1 = (4 : Int)))
      else
        some true
    else
      some true) fun (d1 : Bool) =>
    Option.bind (
      bif !(d1) then
        some (!(decide (a.1 = (5 : Int))))
      else
        some true) fun (d2 : Bool) =>
      Option.bind (
        bif !(d1) then
          bif !(decide (a.1 = (1 : Int))) then
            some (decide (a.1 = (8 : Int)))
          else
            some true
        else
          some true) fun (d3 : Bool) =>
        bif !(d2) then
          bif decide (a.2.1 = (0 : Int)) then
            bif !(d3) then
              bif decide (a.2.2.2.1 = (0 : Int)) then
                bif !(d1) then
                  bif decide (a.2.2.1 = (0 : Int)) then
                    bif decide (a.2.2.2.2.1 = (0 : Int)) then
                      bif !(decide (a.1 = (6 : Int))) then
                        bif decide ((↑a.2.2.2.2.2.1.length : Int) = (0 : Int)) then
                          bif !(decide (a.1 = (1 : Int))) then
                            bif (decide (a.2.2.2.2.2.2.1.1 = (0 : Int)) && (decide (a.2.2.2.2.2.2.1.2.1 = (0 : Int)) && (decide (a.2.2.2.2.2.2.1.2.2.1 = (0 : Int)) && (decide (a.2.2.2.2.2.2.1.2.2.2.1 = (0 : Int)) && (decide (a.2.2.2.2.2.2.1.2.2.2.2 = (0 : Int)) && true))))) then
                              bif !(decide (a.1 = (8 : Int))) then
                                some (decide (a.2.2.2.2.2.2.2 = ([] : List UInt8)))
                              else
                                some true
                            else
                              some false
                          else
                            bif !(decide (a.1 = (8 : Int))) then
                              some (decide (a.2.2.2.2.2.2.2 = ([] : List UInt8)))
                            else
                              some true
                        else
                          some false
                      else
                        bif !(decide (a.1 = (1 : Int))) then
                          bif (decide (a.2.2.2.2.2.2.1.1 = (0 : Int)) && (decide (a.2.2.2.2.2.2.1.2.1 = (0 : Int)) && (decide (a.2.2.2.2.2.2.1.2.2.1 = (0 : Int)) && (decide (a.2.2.2.2.2.2.1.2.2.2.1 = (0 : Int)) && (decide (a.2.2.2.2.2.2.1.2.2.2.2 = (0 : Int)) && true))))) then
                            bif !(decide (a.1 = (8 : Int))) then
                              some (decide (a.2.2.2.2.2.2.2 = ([] : List UInt8)))
                            else
                              some true
                          else
                            some false
                        else
                          bif !(decide (a.1 = (8 : Int))) then
                            some (decide (a.2.2.2.2.2.2.2 = ([] : List UInt8)))
                          else
                            some true
                    else
                      some false
                  else
                    some false
                else
                  bif !(decide (a.1 = (6 : Int))) then
                    bif decide ((↑a.2.2.2.2.2.1.length : Int) = (0 : Int)) then
                      bif !(decide (a.1 = (1 : Int))) then
                        bif (decide (a.2.2.2.2.2.2.1.1 = (0 : Int)) && (decide (a.2.2.2.2.2.2.1.2.1 = (0 : Int)) && (decide (a.2.2.2.2.2.2.1.2.2.1 = (0 : Int)) && (decide (a.2.2.2.2.2.2.1.2.2.2.1 = (0 : Int)) && (decide (a.2.2.2.2.2.2.1.2.2.2.2 = (0 : Int)) && true))))) then
                          bif !(decide (a.1 = (8 : Int))) then
                            some (decide (a.2.2.2.2.2.2.2 = ([] : List UInt8)))
                          else
                            some true
                        else
                          some false
                      else
                        bif !(decide (a.1 = (8 : Int))) then
                          some (decide (a.2.2.2.2.2.2.2 = ([] : List UInt8)))
                        else
                          some true
                    else
                      some false
                  else
                    bif !(decide (a.1 = (1 : Int))) then
                      bif (decide (a.2.2.2.2.2.2.1.1 = (0 : Int)) && (decide (a.2.2.2.2.2.2.1.2.1 = (0 : Int)) && (decide (a.2.2.2.2.2.2.1.2.2.1 = (0 : Int)) && (decide (a.2.2.2.2.2.2.1.2.2.2.1 = (0 : Int)) && (decide (a.2.2.2.2.2.2.1.2.2.2.2 = (0 : Int)) && true))))) then
                        bif !(decide (a.1 = (8 : Int))) then
                          some (decide (a.2.2.2.2.2.2.2 = ([] : List UInt8)))
                        else
                          some true
                      else
                        some false
                    else
                      bif !(decide (a.1 = (8 : Int))) then
                        some (decide (a.2.2.2.2.2.2.2 = ([] : List UInt8)))
                      else
                        some true
              else
                some false
            else
              bif !(d1) then
                bif decide (a.2.2.1 = (0 : Int)) then
                  bif decide (a.2.2.2.2.1 = (0 : Int)) then
                    bif !(decide (a.1 = (6 : Int))) then
                      bif decide ((↑a.2.2.2.2.2.1.length : Int) = (0 : Int)) then
                        bif !(decide (a.1 = (1 : Int))) then
                          bif (decide (a.2.2.2.2.2.2.1.1 = (0 : Int)) && (decide (a.2.2.2.2.2.2.1.2.1 = (0 : Int)) && (decide (a.2.2.2.2.2.2.1.2.2.1 = (0 : Int)) && (decide (a.2.2.2.2.2.2.1.2.2.2.1 = (0 : Int)) && (decide (a.2.2.2.2.2.2.1.2.2.2.2 = (0 : Int)) && true))))) then
                            bif !(decide (a.1 = (8 : Int))) then
                              some (decide (a.2.2.2.2.2.2.2 = ([] : List UInt8)))
                            else
                              some true
                          else
                            some false
                        else
                          bif !(decide (a.1 = (8 : Int))) then
                            some (decide (a.2.2.2.2.2.2.2 = ([] : List UInt8)))
                          else
                            some true
                      else
                        some false
                    else
                      bif !(decide (a.1 = (1 : Int))) then
                        bif (decide (a.2.2.2.2.2.2.1.1 = (0 : Int)) && (decide (a.2.2.2.2.2.2.1.2.1 = (0 : Int)) && (decide (a.2.2.2.2.2.2.1.2.2.1 = (0 : Int)) && (decide (a.2.2.2.2.2.2.1.2.2.2.1 = (0 : Int)) && (decide (a.2.2.2.2.2.2.1.2.2.2.2 = (0 : Int)) && true))))) then
                          bif !(decide (a.1 = (8 : Int))) then
                            some (decide (a.2.2.2.2.2.2.2 = ([] : List UInt8)))
                          else
                            some true
                        else
                          some false
                      else
                        bif !(decide (a.1 = (8 : Int))) then
                          some (decide (a.2.2.2.2.2.2.2 = ([] : List UInt8)))
                        else
                          some true
                  else
                    some false
                else
                  some false
              else
                bif !(decide (a.1 = (6 : Int))) then
                  bif decide ((↑a.2.2.2.2.2.1.length : Int) = (0 : Int)) then
                    bif !(decide (a.1 = (1 : Int))) then
                      bif (decide (a.2.2.2.2.2.2.1.1 = (0 : Int)) && (decide (a.2.2.2.2.2.2.1.2.1 = (0 : Int)) && (decide (a.2.2.2.2.2.2.1.2.2.1 = (0 : Int)) && (decide (a.2.2.2.2.2.2.1.2.2.2.1 = (0 : Int)) && (decide (a.2.2.2.2.2.2.1.2.2.2.2 = (0 : Int)) && true))))) then
                        bif !(decide (a.1 = (8 : Int))) then
                          some (decide (a.2.2.2.2.2.2.2 = ([] : List UInt8)))
                        else
                          some true
                      else
                        some false
                    else
                      bif !(decide (a.1 = (8 : Int))) then
                        some (decide (a.2.2.2.2.2.2.2 = ([] : List UInt8)))
                      else
                        some true
                  else
                    some false
                else
                  bif !(decide (a.1 = (1 : Int))) then
                    bif (decide (a.2.2.2.2.2.2.1.1 = (0 : Int)) && (decide (a.2.2.2.2.2.2.1.2.1 = (0 : Int)) && (decide (a.2.2.2.2.2.2.1.2.2.1 = (0 : Int)) && (decide (a.2.2.2.2.2.2.1.2.2.2.1 = (0 : Int)) && (decide (a.2.2.2.2.2.2.1.2.2.2.2 = (0 : Int)) && true))))) then
                      bif !(decide (a.1 = (8 : Int))) then
                        some (decide (a.2.2.2.2.2.2.2 = ([] : List UInt8)))
                      else
                        some true
                    else
                      some false
                  else
                    bif !(decide (a.1 = (8 : Int))) then
                      some (decide (a.2.2.2.2.2.2.2 = ([] : List UInt8)))
                    else
                      some true
          else
            some false
        else
          bif !(d3) then
            bif decide (a.2.2.2.1 = (0 : Int)) then
              bif !(d1) then
                bif decide (a.2.2.1 = (0 : Int)) then
                  bif decide (a.2.2.2.2.1 = (0 : Int)) then
                    bif !(decide (a.1 = (6 : Int))) then
                      bif decide ((↑a.2.2.2.2.2.1.length : Int) = (0 : Int)) then
                        bif !(decide (a.1 = (1 : Int))) then
                          bif (decide (a.2.2.2.2.2.2.1.1 = (0 : Int)) && (decide (a.2.2.2.2.2.2.1.2.1 = (0 : Int)) && (decide (a.2.2.2.2.2.2.1.2.2.1 = (0 : Int)) && (decide (a.2.2.2.2.2.2.1.2.2.2.1 = (0 : Int)) && (decide (a.2.2.2.2.2.2.1.2.2.2.2 = (0 : Int)) && true))))) then
                            bif !(decide (a.1 = (8 : Int))) then
                              some (decide (a.2.2.2.2.2.2.2 = ([] : List UInt8)))
                            else
                              some true
                          else
                            some false
                        else
                          bif !(decide (a.1 = (8 : Int))) then
                            some (decide (a.2.2.2.2.2.2.2 = ([] : List UInt8)))
                          else
                            some true
                      else
                        some false
                    else
                      bif !(decide (a.1 = (1 : Int))) then
                        bif (decide (a.2.2.2.2.2.2.1.1 = (0 : Int)) && (decide (a.2.2.2.2.2.2.1.2.1 = (0 : Int)) && (decide (a.2.2.2.2.2.2.1.2.2.1 = (0 : Int)) && (decide (a.2.2.2.2.2.2.1.2.2.2.1 = (0 : Int)) && (decide (a.2.2.2.2.2.2.1.2.2.2.2 = (0 : Int)) && true))))) then
                          bif !(decide (a.1 = (8 : Int))) then
                            some (decide (a.2.2.2.2.2.2.2 = ([] : List UInt8)))
                          else
                            some true
                        else
                          some false
                      else
                        bif !(decide (a.1 = (8 : Int))) then
                          some (decide (a.2.2.2.2.2.2.2 = ([] : List UInt8)))
                        else
                          some true
                  else
                    some false
                else
                  some false
              else
                bif !(decide (a.1 = (6 : Int))) then
                  bif decide ((↑a.2.2.2.2.2.1.length : Int) = (0 : Int)) then
                    bif !(decide (a.1 = (1 : Int))) then
                      bif (decide (a.2.2.2.2.2.2.1.1 = (0 : Int)) && (decide (a.2.2.2.2.2.2.1.2.1 = (0 : Int)) && (decide (a.2.2.2.2.2.2.1.2.2.1 = (0 : Int)) && (decide (a.2.2.2.2.2.2.1.2.2.2.1 = (0 : Int)) && (decide (a.2.2.2.2.2.2.1.2.2.2.2 = (0 : Int)) && true))))) then
                        bif !(decide (a.1 = (8 : Int))) then
                          some (decide (a.2.2.2.2.2.2.2 = ([] : List UInt8)))
                        else
                          some true
                      else
                        some false
                    else
                      bif !(decide (a.1 = (8 : Int))) then
                        some (decide (a.2.2.2.2.2.2.2 = ([] : List UInt8)))
                      else
                        some true
                  else
                    some false
                else
                  bif !(decide (a.1 = (1 : Int))) then
                    bif (decide (a.2.2.2.2.2.2.1.1 = (0 : Int)) && (decide (a.2.2.2.2.2.2.1.2.1 = (0 : Int)) && (decide (a.2.2.2.2.2.2.1.2.2.1 = (0 : Int)) && (decide (a.2.2.2.2.2.2.1.2.2.2.1 = (0 : Int)) && (decide (a.2.2.2.2.2.2.1.2.2.2.2 = (0 : Int)) && true))))) then
                      bif !(decide (a.1 = (8 : Int))) then
                        some (decide (a.2.2.2.2.2.2.2 = ([] : List UInt8)))
                      else
                        some true
                    else
                      some false
                  else
                    bif !(decide (a.1 = (8 : Int))) then
                      some (decide (a.2.2.2.2.2.2.2 = ([] : List UInt8)))
                    else
                      some true
            else
              some false
          else
            bif !(d1) then
              bif decide (a.2.2.1 = (0 : Int)) then
                bif decide (a.2.2.2.2.1 = (0 : Int)) then
                  bif !(decide (a.1 = (6 : Int))) then
                    bif decide ((↑a.2.2.2.2.2.1.length : Int) = (0 : Int)) then
                      bif !(decide (a.1 = (1 : Int))) then
                        bif (decide (a.2.2.2.2.2.2.1.1 = (0 : Int)) && (decide (a.2.2.2.2.2.2.1.2.1 = (0 : Int)) && (decide (a.2.2.2.2.2.2.1.2.2.1 = (0 : Int)) && (decide (a.2.2.2.2.2.2.1.2.2.2.1 = (0 : Int)) && (decide (a.2.2.2.2.2.2.1.2.2.2.2 = (0 : Int)) && true))))) then
                          bif !(decide (a.1 = (8 : Int))) then
                            some (decide (a.2.2.2.2.2.2.2 = ([] : List UInt8)))
                          else
                            some true
                        else
                          some false
                      else
                        bif !(decide (a.1 = (8 : Int))) then
                          some (decide (a.2.2.2.2.2.2.2 = ([] : List UInt8)))
                        else
                          some true
                    else
                      some false
                  else
                    bif !(decide (a.1 = (1 : Int))) then
                      bif (decide (a.2.2.2.2.2.2.1.1 = (0 : Int)) && (decide (a.2.2.2.2.2.2.1.2.1 = (0 : Int)) && (decide (a.2.2.2.2.2.2.1.2.2.1 = (0 : Int)) && (decide (a.2.2.2.2.2.2.1.2.2.2.1 = (0 : Int)) && (decide (a.2.2.2.2.2.2.1.2.2.2.2 = (0 : Int)) && true))))) then
                        bif !(decide (a.1 = (8 : Int))) then
                          some (decide (a.2.2.2.2.2.2.2 = ([] : List UInt8)))
                        else
                          some true
                      else
                        some false
                    else
                      bif !(decide (a.1 = (8 : Int))) then
                        some (decide (a.2.2.2.2.2.2.2 = ([] : List UInt8)))
                      else
                        some true
                else
                  some false
              else
                some false
            else
              bif !(decide (a.1 = (6 : Int))) then
                bif decide ((↑a.2.2.2.2.2.1.length : Int) = (0 : Int)) then
                  bif !(decide (a.1 = (1 : Int))) then
                    bif (decide (a.2.2.2.2.2.2.1.1 = (0 : Int)) && (decide (a.2.2.2.2.2.2.1.2.1 = (0 : Int)) && (decide (a.2.2.2.2.2.2.1.2.2.1 = (0 : Int)) && (decide (a.2.2.2.2.2.2.1.2.2.2.1 = (0 : Int)) && (decide (a.2.2.2.2.2.2.1.2.2.2.2 = (0 : Int)) && true))))) then
                      bif !(decide (a.1 = (8 : Int))) then
                        some (decide (a.2.2.2.2.2.2.2 = ([] : List UInt8)))
                      else
                        some true
                    else
                      some false
                  else
                    bif !(decide (a.1 = (8 : Int))) then
                      some (decide (a.2.2.2.2.2.2.2 = ([] : List UInt8)))
                    else
                      some true
                else
                  some false
              else
                bif !(decide (a.1 = (1 : Int))) then
                  bif (decide (a.2.2.2.2.2.2.1.1 = (0 : Int)) && (decide (a.2.2.2.2.2.2.1.2.1 = (0 : Int)) && (decide (a.2.2.2.2.2.2.1.2.2.1 = (0 : Int)) && (decide (a.2.2.2.2.2.2.1.2.2.2.1 = (0 : Int)) && (decide (a.2.2.2.2.2.2.1.2.2.2.2 = (0 : Int)) && true))))) then
                    bif !(decide (a.1 = (8 : Int))) then
                      some (decide (a.2.2.2.2.2.2.2 = ([] : List UInt8)))
                    else
                      some true
                  else
                    some false
                else
                  bif !(decide (a.1 = (8 : Int))) then
                    some (decide (a.2.2.2.2.2.2.2 = ([] : List UInt8)))
                  else
                    some true
def an34 : Ann := .two (.leaf) (.two (.join [1] [1] [⟨.normal, [], [.tmp 3 (.bool)]⟩] (.leaf)) (.two (.join [1, 3] [1] [⟨.normal, [], [.tmp 4 (.bool)]⟩] (.leaf)) (.two (.join [1, 3, 4] [1] [⟨.normal, [], [.tmp 5 (.bool)]⟩] (.leaf)) (.two (.leaf) (.leaf)))))
theorem s34 : SoundF cx.P cx.G 34 sg34 r34 := by
  have e : denF cx [] an34 Try.f34.ntmps (Try.f34.body.getD .skip) Try.f34.results.toList sg34 = r34 := by kernel_rfl
  rw [← e]
  exact sound_of_den (c := cx) (Known.nil) Try.func34 (by kernel_rfl) (Nat.le_of_ble_eq_true (by kernel_rfl))

end Go.Ha
