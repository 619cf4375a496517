/- What the functions compute: written by gen.py. -/
import Derived.Test.YtgiceldgkonbbaaRvThirtySeven
import Derived.Test.YtgiceldgkonbbaaProg
import Derived.KernelRfl
namespace Go.Ha
open Go.RowKit Go.Proofs Go.V
def tys : List (Nat × TyInfo) := [
  (3, ⟨.int .i64, 1, 8, [.int .i64 0], false, [none], [none], (.int .i64)⟩),
  (4, ⟨.bool, 1, 1, [.bool false], false, [none], [none], .bool⟩),
  (23, ⟨.st [(0, 3), (1, 3)], 2, 16, [.int .i64 0, .int .i64 0], true, [none, none], [none, none], (.pair (.int .i64) (.int .i64))⟩),
  (28, ⟨.sl 3, 1, 24, [.slice none 0 0], false, [some (.int .i64)], [none], (.sl (.int .i64))⟩),
  (29, ⟨.sl 23, 1, 24, [.slice none 0 0], false, [some (.pair (.int .i64) (.int .i64))], [none], (.sl (.pair (.int .i64) (.int .i64)))⟩),
  (31, ⟨.st [(0, 3), (1, 29), (2, 3)], 3, 40, [.int .i64 0, .slice none 0 0, .int .i64 0], false, [none, some (.pair (.int .i64) (.int .i64)), none], [none, none, none], (.pair (.int .i64) (.pair (.rsl (.pair (.int .i64) (.int .i64))) (.int .i64)))⟩),
  (33, ⟨.int .i64, 1, 8, [.int .i64 0], false, [none], [none], (.int .i64)⟩)]
theorem tysOk : TyOk Try.prog tys := tyOk_of fun e he => by
  simp only [tys, List.mem_cons, List.not_mem_nil, or_false] at he
  rcases he with rfl | rfl | rfl | rfl | rfl | rfl | rfl
  · exact ⟨by kernel_rfl, by kernel_rfl, fun h => nomatch h⟩
  · exact ⟨by kernel_rfl, by kernel_rfl, fun h => nomatch h⟩
  · exact ⟨by kernel_rfl, by kernel_rfl, fun _ => ⟨by kernel_rfl, by kernel_rfl, by kernel_rfl⟩⟩
  · exact ⟨by kernel_rfl, by kernel_rfl, fun h => nomatch h⟩
  · exact ⟨by kernel_rfl, by kernel_rfl, fun h => nomatch h⟩
  · exact ⟨by kernel_rfl, by kernel_rfl, fun h => nomatch h⟩
  · exact ⟨by kernel_rfl, by kernel_rfl, fun h => nomatch h⟩
noncomputable def cx : Ctx := ⟨Try.prog, tys, tysOk, [], by kernel_rfl⟩

/-! reredos/reredoskeep.picked -/
def sg18 : Sig := ⟨[⟨false, .bo, (.int .i64)⟩, ⟨false, .bo, (.int .i64)⟩], [⟨false, .own, (.int .i64)⟩]⟩
noncomputable def r18 : (Int × Int) → Option Int := fun a =>
  Option.bind (
    bif decide (a.1 < (0 : Int)) then
      some (Go.IntKind.wrap .i64 (0 - (Go.IntKind.wrap .i64 (a.1 + (1 : Int)))))
    else
      some a.1) fun (d1 : Int) =>
    bif decide (a.2 = 0) then
      none
    else
      some (Int.tmod d1 a.2)
def an18 : Ann := .two (.leaf) (.two (.join [1] [] [⟨.normal, [], [.tmp 0 (.int .i64)]⟩] (.two (.leaf) (.two (.leaf) (.leaf)))) (.two (.leaf) (.leaf)))
theorem s18 : SoundF cx.P cx.G 18 sg18 r18 := by
  have e : denF cx [] an18 Try.f18.ntmps (Try.f18.body.getD .skip) Try.f18.results.toList sg18 = r18 := by kernel_rfl
  rw [← e]
  exact sound_of_den (c := cx) (Known.nil) Try.func18 (by kernel_rfl) (Nat.le_of_ble_eq_true (by kernel_rfl))

/-! reredos/reredoskeep.Lab -/
def sg12 : Sig := ⟨[⟨false, .bo, (.int .i64)⟩], [⟨true, .own, (.pair (.int .i64) (.int .i64))⟩]⟩
noncomputable def r12 : Int → Option (Int × Int) := fun a =>
  Option.bind (r18 (a, (3 : Int))) fun (r1 : Int) =>
    Option.bind (r18 ((Go.IntKind.wrap .i64 (Int.tdiv a (3 : Int))), (4 : Int))) fun (r2 : Int) =>
      some (r1, r2)
def an12 : Ann := .two (.leaf) (.two (.leaf) (.leaf))
theorem s12 : SoundF cx.P cx.G 12 sg12 r12 := by
  have e : denF cx [(18, ⟨sg18, r18⟩)] an12 Try.f12.ntmps (Try.f12.body.getD .skip) Try.f12.results.toList sg12 = r12 := by kernel_rfl
  rw [← e]
  exact sound_of_den (c := cx) (Known.cons s18 Try.func18 (by kernel_rfl) (by kernel_rfl) (Known.nil)) Try.func12 (by kernel_rfl) (Nat.le_of_ble_eq_true (by kernel_rfl))

/-! reredos/reredoskeep.Config -/
noncomputable def r16_L0 (d30 : (Unit × (Int × (Int × (List ((Int × Int)) × Int))))) (r49 : (Int × Int)) : (Bool × Int) → Option ((Bool × Int) ⊕ Bool) := fun d50 =>
  bif decide (d50.2 < (↑d30.2.2.2.1.length : Int)) then
    Option.bind (
      bif inB d50.2 d30.2.2.2.1.length then
        Option.bind (idxN d30.2.2.2.1 (Int.toNat d50.2)) fun (x53 : (Int × Int)) =>
          bif !(d50.1) then
            some (decide (x53.1 = r49.1) && (decide (x53.2 = r49.2) && true))
          else
            some true
      else
        none) fun (d54 : Bool) =>
      some (Sum.inl (d54, (Go.IntKind.wrap .i64 (d50.2 + (1 : Int)))))
  else
    some (Sum.inr d50.1)
noncomputable def r16_L1 (a : (Int × (List Int × Int))) : (Unit × (Int × (Int × (List ((Int × Int)) × Int)))) → Option ((Unit × (Int × (Int × (List ((Int × Int)) × Int)))) ⊕ (Unit × (Int × (List ((Int × Int)) × Int)))) := fun d30 =>
  Option.bind (
    bif decide (d30.2.1 < (↑a.2.1.length : Int)) then
      some (decide ((↑d30.2.2.2.1.length : Int) < (4 : Int)))
    else
      some false) fun (d31 : Bool) =>
    bif d31 then
      Option.bind (
        Option.bind (idxI a.2.1 d30.2.1) fun (b48 : Int) =>
          Option.bind (r12 b48) fun (r49 : (Int × Int)) =>
            Option.bind (loopR (r16_L0 d30 r49) (false, (0 : Int))) fun (q55 : Bool) =>
              bif !(q55) then
                bif roomOk false d30.2.2.2.1.length 1 16 then
                  some ((), (d30.2.2.1, (app d30.2.2.2.1 [r49], d30.2.2.2.2)))
                else
                  none
              else
                some ((), d30.2.2)) fun (d56 : (Unit × (Int × (List ((Int × Int)) × Int)))) =>
        some (Sum.inl ((), ((Go.IntKind.wrap .i64 (d30.2.1 + (1 : Int))), d56.2)))
    else
      some (Sum.inr ((), d30.2.2))
def sg16 : Sig := ⟨[⟨false, .bo, (.int .i64)⟩, ⟨false, .bo, (.sl (.int .i64))⟩, ⟨false, .bo, (.int .i64)⟩], [⟨true, .ro, (.pair (.int .i64) (.pair (.sl (.pair (.int .i64) (.int .i64))) (.int .i64)))⟩]⟩
noncomputable def r16 : (Int × (List Int × Int)) → Option (Int × (List ((Int × Int)) × Int)) := fun a =>
  Option.bind (r18 (a.1, (3 : Int))) fun (r1 : Int) =>
    Option.bind (r18 (a.2.2, (4 : Int))) fun (r2 : Int) =>
      Option.bind (loopR (r16_L1 a) ((), ((0 : Int), ((Go.IntKind.wrap .i64 ((1 : Int) + r1)), ([], (Go.IntKind.wrap .i64 ((1 : Int) + r2))))))) fun (q57 : (Unit × (Int × (List ((Int × Int)) × Int)))) =>
        Option.bind (
          bif decide ((↑q57.2.2.1.length : Int) = (0 : Int)) then
            some ((), (q57.2.1, ([((0 : Int), (0 : Int))], q57.2.2.2)))
          else
            some ((), q57.2)) fun (d58 : (Unit × (Int × (List ((Int × Int)) × Int)))) =>
          some d58.2
def an16 : Ann := .two (.leaf) (.two (.leaf) (.two (.two (.leaf) (.one (.loop [1, 6] [6] [] [.tmp 7 (.pt 7 [(0, 0)] 0 0 3), .tmp 8 (.int .i64), .box 7 [.int .i64, .sl .own (.pair (.int .i64) (.int .i64)), .int .i64]] [⟨.exit 0, [], [.tmp 7 (.pt 7 [(0, 0)] 0 0 3), .box 7 [.int .i64, .sl .own (.pair (.int .i64) (.int .i64)), .int .i64]]⟩] (.two (.two (.join [1, 6, 7, 8] [6, 7] [⟨.normal, [], [.tmp 29 (.bool)]⟩] (.leaf)) (.two (.leaf) (.leaf))) (.two (.join [1, 6, 8] [6] [⟨.normal, [], [.tmp 7 (.pt 7 [(0, 0)] 0 0 3), .box 7 [.int .i64, .sl .own (.pair (.int .i64) (.int .i64)), .int .i64]]⟩] (.one (.two (.leaf) (.two (.leaf) (.two (.two (.leaf) (.one (.loop [1, 6, 7, 8, 9, 38, 39] [6, 7, 9] [] [.tmp 10 (.bool), .tmp 40 (.int .i64)] [⟨.exit 2, [], [.tmp 10 (.bool)]⟩] (.two (.leaf) (.two (.two (.leaf) (.leaf)) (.two (.join [1, 6, 7, 8, 9, 38, 39, 40] [6, 7, 9] [⟨.normal, [], [.tmp 10 (.bool)]⟩] (.one (.two (.leaf) (.leaf)))) (.leaf))))))) (.two (.leaf) (.two (.leaf) (.leaf)))))))) (.leaf)))))) (.two (.join [6] [6] [⟨.normal, [], [.tmp 7 (.pt 7 [(0, 0)] 0 0 3), .box 7 [.int .i64, .sl .own (.pair (.int .i64) (.int .i64)), .int .i64]]⟩] (.two (.leaf) (.two (.leaf) (.leaf)))) (.two (.leaf) (.leaf)))))
theorem s16 : SoundF cx.P cx.G 16 sg16 r16 := by
  have e : denF cx [(12, ⟨sg12, r12⟩), (18, ⟨sg18, r18⟩)] an16 Try.f16.ntmps (Try.f16.body.getD .skip) Try.f16.results.toList sg16 = r16 := by kernel_rfl
  rw [← e]
  exact sound_of_den (c := cx) (Known.cons s12 Try.func12 (by kernel_rfl) (by kernel_rfl) (Known.cons s18 Try.func18 (by kernel_rfl) (by kernel_rfl) (Known.nil))) Try.func16 (by kernel_rfl) (Nat.le_of_ble_eq_true (by kernel_rfl))

/-! reredos/label.one -/
def sg26 : Sig := ⟨[⟨true, .bo, (.pair (.int .i64) (.int .i64))⟩], [⟨false, .own, .bool⟩]⟩
noncomputable def r26 : (Int × Int) → Option Bool := fun a =>
  bif decide ((0 : Int) ≤ a.1) then
    bif decide (a.1 ≤ (9 : Int)) then
      bif decide ((0 : Int) ≤ a.2) then
        some (decide (a.2 ≤ (15 : Int)))
      else
        some false
    else
      some false
  else
    some false
def an26 : Ann := .two (.leaf) (.two (.leaf) (.leaf))
theorem s26 : SoundF cx.P cx.G 26 sg26 r26 := by
  have e : denF cx [] an26 Try.f26.ntmps (Try.f26.body.getD .skip) Try.f26.results.toList sg26 = r26 := by kernel_rfl
  rw [← e]
  exact sound_of_den (c := cx) (Known.nil) Try.func26 (by kernel_rfl) (Nat.le_of_ble_eq_true (by kernel_rfl))

/-! reredos/label.Check -/
noncomputable def r17_L0 (d3 : Int) (a : (Int × (List ((Int × Int)) × Int))) (b4 : (Int × Int)) : Int → Option (Int ⊕ (Unit ⊕ Int)) := fun d6 =>
  bif decide (d6 < (↑((List.take (Int.toNat d3) a.2.1).length) : Int)) then
    Option.bind (idxI (List.take (Int.toNat d3) a.2.1) d6) fun (b7 : (Int × Int)) =>
      bif (decide (b7.1 = b4.1) && (decide (b7.2 = b4.2) && true)) then
        some (Sum.inr (Sum.inr (7 : Int)))
      else
        some (Sum.inl (Go.IntKind.wrap .i64 (d6 + (1 : Int))))
  else
    some (Sum.inr (Sum.inl ()))
noncomputable def r17_L1 (a : (Int × (List ((Int × Int)) × Int))) : Int → Option (Int ⊕ (Unit ⊕ Int)) := fun d3 =>
  bif decide (d3 < (↑a.2.1.length : Int)) then
    Option.bind (idxI a.2.1 d3) fun (b4 : (Int × Int)) =>
      Option.bind (r26 b4) fun (r5 : Bool) =>
        bif !(r5) then
          some (Sum.inr (Sum.inr (2 : Int)))
        else
          bif okB none (some d3) none a.2.1.length then
            Option.bind (loopR (r17_L0 d3 a b4) (0 : Int)) fun (q8 : (Unit ⊕ Int)) =>
              Sum.elim (fun (v9 : Unit) =>
                  some (Sum.inl (Go.IntKind.wrap .i64 (d3 + (1 : Int)))))
                (fun (v10 : Int) =>
                  some (Sum.inr (Sum.inr v10))) q8
          else
            none
  else
    some (Sum.inr (Sum.inl ()))
def sg17 : Sig := ⟨[⟨true, .bo, (.pair (.int .i64) (.pair (.sl (.pair (.int .i64) (.int .i64))) (.int .i64)))⟩], [⟨false, .own, (.int .i64)⟩]⟩
noncomputable def r17 : (Int × (List ((Int × Int)) × Int)) → Option Int := fun a =>
  Option.bind (
    bif !(decide (a.1 < (1 : Int))) then
      some (decide ((4 : Int) < a.1))
    else
      some true) fun (d1 : Bool) =>
    bif d1 then
      some (2 : Int)
    else
      Option.bind (
        bif !(decide ((↑a.2.1.length : Int) < (1 : Int))) then
          some (decide ((6 : Int) < (↑a.2.1.length : Int)))
        else
          some true) fun (d2 : Bool) =>
        bif d2 then
          some (1 : Int)
        else
          Option.bind (loopR (r17_L1 a) (0 : Int)) fun (q11 : (Unit ⊕ Int)) =>
            Sum.elim (fun (v12 : Unit) =>
                Option.bind (
                  bif !(decide (a.2.2 < (1 : Int))) then
                    some (decide ((1048576 : Int) < a.2.2))
                  else
                    some true) fun (d14 : Bool) =>
                  bif d14 then
                    some (2 : Int)
                  else
                    some (0 : Int))
              (fun (v13 : Int) =>
                some v13) q11
def an17 : Ann := .two (.leaf) (.two (.two (.join [1] [1] [⟨.normal, [], [.tmp 14 (.bool)]⟩] (.leaf)) (.two (.two (.leaf) (.leaf)) (.leaf))) (.two (.two (.join [1] [1] [⟨.normal, [], [.tmp 24 (.bool)]⟩] (.leaf)) (.two (.two (.leaf) (.leaf)) (.leaf))) (.two (.two (.leaf) (.one (.loop [1, 26, 27] [1] [] [.tmp 28 (.int .i64)] [⟨.exit 0, [], []⟩, ⟨.ret, [], [.tmp 2 (.int .i64)]⟩] (.two (.leaf) (.two (.two (.leaf) (.leaf)) (.two (.one (.two (.leaf) (.two (.two (.leaf) (.two (.two (.leaf) (.leaf)) (.leaf))) (.two (.leaf) (.one (.loop [1, 4, 26, 27, 28, 39, 40] [1, 4] [] [.tmp 41 (.int .i64)] [⟨.exit 2, [], []⟩, ⟨.ret, [], [.tmp 2 (.int .i64)]⟩] (.two (.leaf) (.two (.two (.leaf) (.leaf)) (.two (.one (.two (.leaf) (.two (.leaf) (.two (.two (.leaf) (.leaf)) (.leaf))))) (.leaf)))))))))) (.leaf))))))) (.two (.two (.join [] [] [⟨.normal, [], [.tmp 57 (.bool)]⟩] (.leaf)) (.two (.two (.leaf) (.leaf)) (.leaf))) (.two (.leaf) (.leaf))))))
theorem s17 : SoundF cx.P cx.G 17 sg17 r17 := by
  have e : denF cx [(26, ⟨sg26, r26⟩)] an17 Try.f17.ntmps (Try.f17.body.getD .skip) Try.f17.results.toList sg17 = r17 := by kernel_rfl
  rw [← e]
  exact sound_of_den (c := cx) (Known.cons s26 Try.func26 (by kernel_rfl) (by kernel_rfl) (Known.nil)) Try.func17 (by kernel_rfl) (Nat.le_of_ble_eq_true (by kernel_rfl))

/-! reredos/label.Home -/
def sg19 : Sig := ⟨[⟨true, .bo, (.pair (.int .i64) (.pair (.sl (.pair (.int .i64) (.int .i64))) (.int .i64)))⟩, ⟨false, .bo, (.int .i64)⟩], [⟨false, .own, (.int .i64)⟩, ⟨false, .own, (.int .i64)⟩]⟩
noncomputable def r19 : ((Int × (List ((Int × Int)) × Int)) × Int) → Option (Int × Int) := fun a =>
  Option.bind (r17 a.1) fun (r1 : Int) =>
    bif !(decide (r1 = (0 : Int))) then
      some ((0 : Int), r1)
    else
      Option.bind (
        bif !(decide (a.2 < (0 : Int))) then
          some (decide ((8 : Int) ≤ a.2))
        else
          some true) fun (d2 : Bool) =>
        bif d2 then
          some ((0 : Int), (2 : Int))
        else
          bif decide (a.1.1 = 0) then
            none
          else
            some ((Int.tmod a.2 a.1.1), (0 : Int))
def an19 : Ann := .two (.leaf) (.two (.two (.leaf) (.two (.leaf) (.two (.two (.leaf) (.leaf)) (.leaf)))) (.two (.two (.join [1, 2] [2] [⟨.normal, [], [.tmp 17 (.bool)]⟩] (.leaf)) (.two (.two (.leaf) (.leaf)) (.leaf))) (.two (.leaf) (.leaf))))
theorem s19 : SoundF cx.P cx.G 19 sg19 r19 := by
  have e : denF cx [(17, ⟨sg17, r17⟩)] an19 Try.f19.ntmps (Try.f19.body.getD .skip) Try.f19.results.toList sg19 = r19 := by kernel_rfl
  rw [← e]
  exact sound_of_den (c := cx) (Known.cons s17 Try.func17 (by kernel_rfl) (by kernel_rfl) (Known.nil)) Try.func19 (by kernel_rfl) (Nat.le_of_ble_eq_true (by kernel_rfl))

/-! reredos/reredoskeep.HomeOne -/
def sg7 : Sig := ⟨[⟨false, .bo, (.int .i64)⟩, ⟨false, .bo, (.sl (.int .i64))⟩, ⟨false, .bo, (.int .i64)⟩, ⟨false, .bo, (.int .i64)⟩], [⟨false, .own, .bool⟩]⟩
noncomputable def r7 : (Int × (List Int × (Int × Int))) → Option Bool := fun a =>
  Option.bind (r16 (a.1, a.2.1, a.2.2.1)) fun (r1 : (Int × (List ((Int × Int)) × Int))) =>
    Option.bind (r18 (a.2.2.2, (8 : Int))) fun (r2 : Int) =>
      Option.bind (r19 (r1, r2)) fun (r3 : (Int × Int)) =>
        Option.bind (r19 (r1, (Go.IntKind.wrap .i64 ((8 : Int) + r2)))) fun (r4 : (Int × Int)) =>
          bif decide (r3.2 = (0 : Int)) then
            bif decide (r4.2 = (2 : Int)) then
              bif decide ((0 : Int) ≤ r3.1) then
                bif decide (r3.1 < r1.1) then
                  bif decide (r1.1 = 0) then
                    none
                  else
                    some (decide ((Int.tmod (Go.IntKind.wrap .i64 (r2 - r3.1)) r1.1) = (0 : Int)))
                else
                  some false
              else
                some false
            else
              some false
          else
            some false
def an7 : Ann := .two (.leaf) (.two (.leaf) (.two (.leaf) (.two (.leaf) (.two (.leaf) (.two (.leaf) (.leaf))))))
theorem s7 : SoundF cx.P cx.G 7 sg7 r7 := by
  have e : denF cx [(16, ⟨sg16, r16⟩), (18, ⟨sg18, r18⟩), (19, ⟨sg19, r19⟩)] an7 Try.f7.ntmps (Try.f7.body.getD .skip) Try.f7.results.toList sg7 = r7 := by kernel_rfl
  rw [← e]
  exact sound_of_den (c := cx) (Known.cons s16 Try.func16 (by kernel_rfl) (by kernel_rfl) (Known.cons s18 Try.func18 (by kernel_rfl) (by kernel_rfl) (Known.cons s19 Try.func19 (by kernel_rfl) (by kernel_rfl) (Known.nil)))) Try.func7 (by kernel_rfl) (Nat.le_of_ble_eq_true (by kernel_rfl))

/-! reredos/reredoskeep.ConfigGood -/
def sg6 : Sig := ⟨[⟨false, .bo, (.int .i64)⟩, ⟨false, .bo, (.sl (.int .i64))⟩, ⟨false, .bo, (.int .i64)⟩], [⟨false, .own, .bool⟩]⟩
noncomputable def r6 : (Int × (List Int × Int)) → Option Bool := fun a =>
  Option.bind (r16 (a.1, a.2.1, a.2.2)) fun (r1 : (Int × (List ((Int × Int)) × Int))) =>
    bif roomOk true 0 r1.2.1.length 16 then
      Option.bind (idxI r1.2.1 (0 : Int)) fun (b2 : (Int × Int)) =>
        bif roomOk false r1.2.1.length 1 16 then
          Option.bind (r17 r1) fun (r3 : Int) =>
            bif decide (r3 = (0 : Int)) then
              Option.bind (r17 (r1.1, (app r1.2.1 [b2], r1.2.2))) fun (r4 : Int) =>
                bif decide (r4 = (7 : Int)) then
                  Option.bind (r17 ((0 : Int), ([], (0 : Int)))) fun (r5 : Int) =>
                    some (decide (r5 = (2 : Int)))
                else
                  some false
            else
              some false
        else
          none
    else
      none
def an6 : Ann := .two (.leaf) (.two (.leaf) (.two (.leaf) (.two (.draw 8) (.two (.leaf) (.leaf)))))
theorem s6 : SoundF cx.P cx.G 6 sg6 r6 := by
  have e : denF cx [(16, ⟨sg16, r16⟩), (17, ⟨sg17, r17⟩)] an6 Try.f6.ntmps (Try.f6.body.getD .skip) Try.f6.results.toList sg6 = r6 := by kernel_rfl
  rw [← e]
  exact sound_of_den (c := cx) (Known.cons s16 Try.func16 (by kernel_rfl) (by kernel_rfl) (Known.cons s17 Try.func17 (by kernel_rfl) (by kernel_rfl) (Known.nil))) Try.func6 (by kernel_rfl) (Nat.le_of_ble_eq_true (by kernel_rfl))

end Go.Ha
