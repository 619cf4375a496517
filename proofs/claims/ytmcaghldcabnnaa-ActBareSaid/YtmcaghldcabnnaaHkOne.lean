/- What the functions compute: written by gen.py. -/
import Derived.Test.YtmcaghldcabnnaaRvThirtySeven
import Derived.Test.YtmcaghldcabnnaaProg
import Derived.KernelRfl
namespace Go.Hk
open Go.RowKit Go.Proofs Go.V
def tys : List (Nat × TyInfo) := [
  (3, ⟨.int .i64, 1, 8, [.int .i64 0], false, [none], [none], (.int .i64)⟩),
  (4, ⟨.bool, 1, 1, [.bool false], false, [none], [none], .bool⟩),
  (5, ⟨.int .u8, 1, 1, [.int .u8 0], false, [none], [none], (.int .u8)⟩),
  (9, ⟨.str, 1, 16, [.string ⟨#[]⟩], false, [none], [none], .str⟩),
  (22, ⟨.sl 41, 1, 24, [.slice none 0 0], false, [some (.pair (.int .i64) (.pair (.int .i64) (.pair (.int .i64) (.pair (.int .i64) (.pair (.int .i64) (.int .i64))))))], [none], (.sl (.pair (.int .i64) (.pair (.int .i64) (.pair (.int .i64) (.pair (.int .i64) (.pair (.int .i64) (.int .i64)))))))⟩),
  (23, ⟨.sl 39, 1, 24, [.slice none 0 0], false, [some (.pair (.int .i64) (.int .i64))], [none], (.sl (.pair (.int .i64) (.int .i64)))⟩),
  (25, ⟨.st [(0, 3), (1, 23), (2, 3)], 3, 40, [.int .i64 0, .slice none 0 0, .int .i64 0], false, [none, some (.pair (.int .i64) (.int .i64)), none], [none, none, none], (.pair (.int .i64) (.pair (.rsl (.pair (.int .i64) (.int .i64))) (.int .i64)))⟩),
  (27, ⟨.sl 3, 1, 24, [.slice none 0 0], false, [some (.int .i64)], [none], (.sl (.int .i64))⟩),
  (29, ⟨.st [(0, 3), (1, 3), (2, 3), (3, 3), (4, 3)], 5, 40, [.int .i64 0, .int .i64 0, .int .i64 0, .int .i64 0, .int .i64 0], true, [none, none, none, none, none], [none, none, none, none, none], (.pair (.int .i64) (.pair (.int .i64) (.pair (.int .i64) (.pair (.int .i64) (.int .i64)))))⟩),
  (31, ⟨.st [(0, 3), (1, 3), (2, 3), (3, 3), (4, 3), (5, 27), (6, 29), (11, 9)], 12, 120, [.int .i64 0, .int .i64 0, .int .i64 0, .int .i64 0, .int .i64 0, .slice none 0 0, .int .i64 0, .int .i64 0, .int .i64 0, .int .i64 0, .int .i64 0, .string ⟨#[]⟩], false, [none, none, none, none, none, some (.int .i64), none, none, none, none, none, none], [none, none, none, none, none, none, none, none, none, none, none, none], (.pair (.int .i64) (.pair (.int .i64) (.pair (.int .i64) (.pair (.int .i64) (.pair (.int .i64) (.pair (.rsl (.int .i64)) (.pair (.pair (.int .i64) (.pair (.int .i64) (.pair (.int .i64) (.pair (.int .i64) (.int .i64))))) .str)))))))⟩),
  (32, ⟨.sl 31, 1, 24, [.slice none 0 0], false, [some (.pair (.int .i64) (.pair (.int .i64) (.pair (.int .i64) (.pair (.int .i64) (.pair (.int .i64) (.pair (.rsl (.int .i64)) (.pair (.pair (.int .i64) (.pair (.int .i64) (.pair (.int .i64) (.pair (.int .i64) (.int .i64))))) .str)))))))], [none], (.sl (.pair (.int .i64) (.pair (.int .i64) (.pair (.int .i64) (.pair (.int .i64) (.pair (.int .i64) (.pair (.rsl (.int .i64)) (.pair (.pair (.int .i64) (.pair (.int .i64) (.pair (.int .i64) (.pair (.int .i64) (.int .i64))))) .str))))))))⟩),
  (34, ⟨.int .i64, 1, 8, [.int .i64 0], false, [none], [none], (.int .i64)⟩),
  (39, ⟨.st [(0, 3), (1, 3)], 2, 16, [.int .i64 0, .int .i64 0], true, [none, none], [none, none], (.pair (.int .i64) (.int .i64))⟩),
  (41, ⟨.st [(0, 3), (1, 3), (2, 3), (3, 3), (4, 3), (5, 3)], 6, 48, [.int .i64 0, .int .i64 0, .int .i64 0, .int .i64 0, .int .i64 0, .int .i64 0], false, [none, none, none, none, none, none], [none, none, none, none, none, none], (.pair (.int .i64) (.pair (.int .i64) (.pair (.int .i64) (.pair (.int .i64) (.pair (.int .i64) (.int .i64))))))⟩),
  (49, ⟨.sl 9, 1, 24, [.slice none 0 0], false, [some .str], [none], (.sl .str)⟩),
  (53, ⟨.sl 5, 1, 24, [.slice none 0 0], false, [some (.int .u8)], [none], (.sl (.int .u8))⟩)]
theorem tysOk : TyOk Try.prog tys := tyOk_of fun e he => by
  simp only [tys, List.mem_cons, List.not_mem_nil, or_false] at he
  rcases he with rfl | rfl | rfl | rfl | rfl | rfl | rfl | rfl | rfl | rfl | rfl | rfl | rfl | rfl | rfl | rfl
  · exact ⟨by kernel_rfl, by kernel_rfl, fun h => nomatch h⟩
  · exact ⟨by kernel_rfl, by kernel_rfl, fun h => nomatch h⟩
  · exact ⟨by kernel_rfl, by kernel_rfl, fun h => nomatch h⟩
  · exact ⟨by kernel_rfl, by kernel_rfl, fun h => nomatch h⟩
  · exact ⟨by kernel_rfl, by kernel_rfl, fun h => nomatch h⟩
  · exact ⟨by kernel_rfl, by kernel_rfl, fun h => nomatch h⟩
  · exact ⟨by kernel_rfl, by kernel_rfl, fun h => nomatch h⟩
  · exact ⟨by kernel_rfl, by kernel_rfl, fun h => nomatch h⟩
  · exact ⟨by kernel_rfl, by kernel_rfl, fun _ => ⟨by kernel_rfl, by kernel_rfl, by kernel_rfl⟩⟩
  · exact ⟨by kernel_rfl, by kernel_rfl, fun h => nomatch h⟩
  · exact ⟨by kernel_rfl, by kernel_rfl, fun h => nomatch h⟩
  · exact ⟨by kernel_rfl, by kernel_rfl, fun h => nomatch h⟩
  · exact ⟨by kernel_rfl, by kernel_rfl, fun _ => ⟨by kernel_rfl, by kernel_rfl, by kernel_rfl⟩⟩
  · exact ⟨by kernel_rfl, by kernel_rfl, fun h => nomatch h⟩
  · exact ⟨by kernel_rfl, by kernel_rfl, fun h => nomatch h⟩
  · exact ⟨by kernel_rfl, by kernel_rfl, fun h => nomatch h⟩
noncomputable def inls : List (Nat × Go.Func) := [(16, Try.f16), (17, Try.f17), (18, Try.f18)]
theorem inlsOk : ∀ f fn, Go.V.look inls f = some fn → Try.prog.funcs[f]? = some fn ∧ (fn.name == "runtime.NumGoroutine") = false := inlOk_of fun e he => by
  simp only [inls, List.mem_cons, List.not_mem_nil, or_false] at he
  rcases he with rfl | rfl | rfl
  · exact ⟨Try.func16, by kernel_rfl⟩
  · exact ⟨Try.func17, by kernel_rfl⟩
  · exact ⟨Try.func18, by kernel_rfl⟩
noncomputable def cx : Ctx := ⟨Try.prog, tys, tysOk, [], 0, inls, inlsOk, by kernel_rfl⟩

/-! reredos/reredoskeep.picked -/
def sg7 : Sig := ⟨[⟨false, .bo, (.int .i64)⟩, ⟨false, .bo, (.int .i64)⟩], [⟨false, .own, (.int .i64)⟩]⟩
noncomputable def r7 (a : (Int × Int)) : Option Int :=
  Option.bind (
    bif decide (a.1 < (0 : Int)) then
      some (Go.IntKind.wrap .i64 (0 - (Go.IntKind.wrap .i64 (a.1 + (1 : Int)))))
    else
      some a.1) fun (d1 : Int) =>
    bif decide (a.2 = 0) then
      none
    else
      some (Int.tmod d1 a.2)
def an7 : Ann := .two (.leaf) (.two (.join [1] [] [⟨.normal, [], [.tmp 0 (.int .i64)]⟩] (.two (.leaf) (.two (.leaf) (.leaf)))) (.two (.leaf) (.leaf)))
theorem s7 : SoundF cx.P cx.G 7 sg7 r7 := by
  have e : denF cx [] an7 Try.f7.ntmps (Try.f7.body.getD .skip) Try.f7.results.toList sg7 = r7 := by kernel_rfl
  rw [← e]
  exact sound_of_den (c := cx) (Known.nil) Try.func7 (by kernel_rfl) (Nat.le_of_ble_eq_true (by kernel_rfl)) rfl

/-! reredos/reredoskeep.two -/
def sg4 : Sig := ⟨[⟨false, .bo, (.int .i64)⟩], [⟨true, .ro, (.pair (.int .i64) (.pair (.sl (.pair (.int .i64) (.int .i64))) (.int .i64)))⟩]⟩
noncomputable def r4 (a : Int) : Option (Int × (List ((Int × Int)) × Int)) :=
  Option.bind (r7 (a, (3 : Int))) fun (y1 : Int) =>
    some ((Go.IntKind.wrap .i64 ((1 : Int) + y1)), ([((0 : Int), (0 : Int)), ((1 : Int), (0 : Int))], (3 : Int)))
def an4 : Ann := .two (.leaf) (.two (.leaf) (.leaf))
theorem s4 : SoundF cx.P cx.G 4 sg4 r4 := by
  have e : denF cx [(7, ⟨sg7, r7⟩)] an4 Try.f4.ntmps (Try.f4.body.getD .skip) Try.f4.results.toList sg4 = r4 := by kernel_rfl
  rw [← e]
  exact sound_of_den (c := cx) (Known.cons (.ofF s7 (by kernel_rfl)) Try.func7 (by kernel_rfl) (by kernel_rfl) (Known.nil)) Try.func4 (by kernel_rfl) (Nat.le_of_ble_eq_true (by kernel_rfl)) rfl

/-! reredos/reredoskeep.ask -/
def sg8 : Sig := ⟨[⟨true, .bo, (.pair (.int .i64) (.pair (.int .i64) (.pair (.int .i64) (.pair (.int .i64) (.pair (.int .i64) (.int .i64))))))⟩], [⟨true, .own, (.pair (.int .i64) (.pair (.int .i64) (.pair (.int .i64) (.pair (.int .i64) (.int .i64)))))⟩]⟩
noncomputable def r8 (a : (Int × (Int × (Int × (Int × (Int × Int)))))) : Option (Int × (Int × (Int × (Int × Int)))) :=
  Option.bind (r7 (a.1, (5 : Int))) fun (y1 : Int) =>
    Option.bind (
      bif !(decide ((Go.IntKind.wrap .i64 ((1 : Int) + y1)) = (1 : Int))) then
        Option.bind (r7 (a.2.1, (4 : Int))) fun (y4 : Int) =>
          some ((), ((Go.IntKind.wrap .i64 ((1 : Int) + y1)), ((Go.IntKind.wrap .i64 ((1 : Int) + y4)), ((0 : Int), ((0 : Int), (0 : Int))))))
      else
        some ((), ((Go.IntKind.wrap .i64 ((1 : Int) + y1)), ((0 : Int), ((0 : Int), ((0 : Int), (0 : Int))))))) fun (d5 : (Unit × (Int × (Int × (Int × (Int × Int)))))) =>
      Option.bind (
        bif decide (d5.2.1 = (2 : Int)) then
          Option.bind (r7 (a.2.2.1, (3 : Int))) fun (y14 : Int) =>
            Option.bind (r7 (a.2.2.2.1, (4 : Int))) fun (y15 : Int) =>
              some ((), (d5.2.1, (d5.2.2.1, (y14, (y15, d5.2.2.2.2.2)))))
        else
          bif decide (d5.2.1 = (3 : Int)) then
            Option.bind (r7 (a.2.2.2.1, (4 : Int))) fun (y16 : Int) =>
              Option.bind (r7 (a.2.2.2.2.1, (99 : Int))) fun (y17 : Int) =>
                some ((), (d5.2.1, (d5.2.2.1, (d5.2.2.2.1, (y16, y17)))))
          else
            some ((), d5.2)) fun (d18 : (Unit × (Int × (Int × (Int × (Int × Int)))))) =>
        some d18.2
def an8 : Ann := .two (.leaf) (.two (.leaf) (.two (.join [1, 2] [1, 2] [⟨.normal, [], [.tmp 3 (.pt 3 [(0, 0)] 0 0 5), .box 3 [.int .i64, .int .i64, .int .i64, .int .i64, .int .i64]]⟩] (.two (.leaf) (.two (.leaf) (.leaf)))) (.two (.join [2] [2] [⟨.normal, [], [.tmp 3 (.pt 3 [(0, 0)] 0 0 5), .box 3 [.int .i64, .int .i64, .int .i64, .int .i64, .int .i64]]⟩] (.two (.leaf) (.one (.two (.leaf) (.two (.two (.leaf) (.leaf)) (.two (.leaf) (.two (.two (.leaf) (.leaf)) (.leaf)))))))) (.two (.leaf) (.leaf)))))
theorem s8 : SoundF cx.P cx.G 8 sg8 r8 := by
  have e : denF cx [(7, ⟨sg7, r7⟩)] an8 Try.f8.ntmps (Try.f8.body.getD .skip) Try.f8.results.toList sg8 = r8 := by kernel_rfl
  rw [← e]
  exact sound_of_den (c := cx) (Known.cons (.ofF s7 (by kernel_rfl)) Try.func7 (by kernel_rfl) (by kernel_rfl) (Known.nil)) Try.func8 (by kernel_rfl) (Nat.le_of_ble_eq_true (by kernel_rfl)) rfl

/-! reredos/reredoskeep.dec -/
def sg14 : Sig := ⟨[⟨false, .bo, (.int .i64)⟩], [⟨false, .own, .str⟩]⟩
noncomputable def r14 : Nat → Int → Option (List UInt8)
  | 0 => fun _ => none
  | n + 1 => fun a =>
  bif decide (a < (10 : Int)) then
    some (List.map byte8 [(Go.IntKind.wrap .u8 (Go.IntKind.wrap .i64 ((48 : Int) + a)))])
  else
    Option.bind ((r14 n) (Go.IntKind.wrap .i64 (Int.tdiv a (10 : Int)))) fun (y2 : List UInt8) =>
      bif decide (y2.length + (List.map byte8 [(Go.IntKind.wrap .u8 (Go.IntKind.wrap .i64 ((48 : Int) + (Int.tmod a (10 : Int)))))]).length ≤ 9223372036854775807) then
        some (y2 ++ (List.map byte8 [(Go.IntKind.wrap .u8 (Go.IntKind.wrap .i64 ((48 : Int) + (Int.tmod a (10 : Int)))))]))
      else
        none
def an14 : Ann := .two (.leaf) (.two (.two (.leaf) (.two (.two (.leaf) (.leaf)) (.leaf))) (.two (.draw 9) (.leaf)))
theorem s14n : ∀ n, SoundF cx.P cx.G 14 sg14 (r14 n)
  | 0 => SoundF.none
  | n + 1 => by
    have e : denF cx [(14, ⟨sg14, r14 n⟩)] an14 Try.f14.ntmps (Try.f14.body.getD .skip) Try.f14.results.toList sg14 = r14 (n + 1) := by kernel_rfl
    rw [← e]
    exact sound_of_den (c := cx) (Known.cons (F := ⟨sg14, r14 n⟩) (.ofF (s14n n) (by kernel_rfl)) Try.func14 (by kernel_rfl) (by kernel_rfl) (Known.nil)) Try.func14 (by kernel_rfl) (Nat.le_of_ble_eq_true (by kernel_rfl)) rfl
noncomputable def R14 : Int → Option (List UInt8) := limR r14
theorem s14 : SoundF cx.P cx.G 14 sg14 R14 := SoundF.lim s14n

/-! reredos/reredoskeep.typed -/
def sg9 : Sig := ⟨[⟨true, .bo, (.pair (.int .i64) (.pair (.int .i64) (.pair (.int .i64) (.pair (.int .i64) (.pair (.int .i64) (.int .i64))))))⟩, ⟨false, .bo, .bool⟩], [⟨false, .own, .str⟩]⟩
noncomputable def r9 (a : ((Int × (Int × (Int × (Int × (Int × Int))))) × Bool)) : Option (List UInt8) :=
  Option.bind (r7 (a.1.2.1, (4 : Int))) fun (y7 : Int) =>
    Option.bind (R14 y7) fun (y8 : List UInt8) =>
      bif decide (y8.length + ([32] : List UInt8).length ≤ 9223372036854775807) then
        Option.bind (r7 (a.1.2.2.1, (3 : Int))) fun (y9 : Int) =>
          Option.bind (R14 y9) fun (y10 : List UInt8) =>
            bif decide ((y8 ++ ([32] : List UInt8)).length + y10.length ≤ 9223372036854775807) then
              bif decide (((y8 ++ ([32] : List UInt8)) ++ y10).length + ([32] : List UInt8).length ≤ 9223372036854775807) then
                Option.bind (r7 (a.1.2.2.2.1, (4 : Int))) fun (y11 : Int) =>
                  Option.bind (R14 (Go.IntKind.wrap .i64 ((1 : Int) + y11))) fun (y12 : List UInt8) =>
                    bif decide ((((y8 ++ ([32] : List UInt8)) ++ y10) ++ ([32] : List UInt8)).length + y12.length ≤ 9223372036854775807) then
                      Option.bind (r7 (a.1.2.2.2.2.1, (8 : Int))) fun (y13 : Int) =>
                        bif decide (y13 < (3 : Int)) then
                          some ([108, 105, 115, 116] : List UInt8)
                        else
                          bif decide (y13 < (5 : Int)) then
                            bif decide (([115, 116, 97, 116, 117, 115, 32] : List UInt8).length + ((((y8 ++ ([32] : List UInt8)) ++ y10) ++ ([32] : List UInt8)) ++ y12).length ≤ 9223372036854775807) then
                              some (([115, 116, 97, 116, 117, 115, 32] : List UInt8) ++ ((((y8 ++ ([32] : List UInt8)) ++ y10) ++ ([32] : List UInt8)) ++ y12))
                            else
                              none
                          else
                            bif decide (y13 = (5 : Int)) then
                              some ([97, 117, 100, 105, 116] : List UInt8)
                            else
                              Option.bind (
                                bif decide (y13 = (6 : Int)) then
                                  some a.2
                                else
                                  some false) fun (d14 : Bool) =>
                                bif d14 then
                                  bif decide (([102, 111, 114, 99, 101, 32] : List UInt8).length + ((((y8 ++ ([32] : List UInt8)) ++ y10) ++ ([32] : List UInt8)) ++ y12).length ≤ 9223372036854775807) then
                                    bif decide ((([102, 111, 114, 99, 101, 32] : List UInt8) ++ ((((y8 ++ ([32] : List UInt8)) ++ y10) ++ ([32] : List UInt8)) ++ y12)).length + ([32] : List UInt8).length ≤ 9223372036854775807) then
                                      Option.bind (r7 (a.1.2.2.2.2.2, (2 : Int))) fun (y15 : Int) =>
                                        bif inB y15 ([([99, 111, 109, 109, 105, 116] : List UInt8), ([97, 98, 111, 114, 116] : List UInt8)].length) then
                                          Option.bind (idxN [([99, 111, 109, 109, 105, 116] : List UInt8), ([97, 98, 111, 114, 116] : List UInt8)] (Int.toNat y15)) fun (x16 : List UInt8) =>
                                            bif decide (((([102, 111, 114, 99, 101, 32] : List UInt8) ++ ((((y8 ++ ([32] : List UInt8)) ++ y10) ++ ([32] : List UInt8)) ++ y12)) ++ ([32] : List UInt8)).length + x16.length ≤ 9223372036854775807) then
                                              some (((([102, 111, 114, 99, 101, 32] : List UInt8) ++ ((((y8 ++ ([32] : List UInt8)) ++ y10) ++ ([32] : List UInt8)) ++ y12)) ++ ([32] : List UInt8)) ++ x16)
                                            else
                                              none
                                        else
                                          none
                                    else
                                      none
                                  else
                                    none
                                else
                                  Option.bind (r7 (a.1.2.2.2.2.2, (6 : Int))) fun (y17 : Int) =>
                                    bif inB y17 ([([] : List UInt8), ([108, 105, 115, 116, 115] : List UInt8), ([115, 116, 97, 116, 117, 115, 32, 49, 32, 49] : List UInt8), ([102, 111, 114, 99, 101, 32, 48, 32, 48, 32, 49] : List UInt8), ([97, 117, 100, 105, 116, 32] : List UInt8), ([115, 116, 97, 116, 117, 115, 32, 48, 32, 48, 32, 48, 49] : List UInt8)].length) then
                                      Option.bind (idxN [([] : List UInt8), ([108, 105, 115, 116, 115] : List UInt8), ([115, 116, 97, 116, 117, 115, 32, 49, 32, 49] : List UInt8), ([102, 111, 114, 99, 101, 32, 48, 32, 48, 32, 49] : List UInt8), ([97, 117, 100, 105, 116, 32] : List UInt8), ([115, 116, 97, 116, 117, 115, 32, 48, 32, 48, 32, 48, 49] : List UInt8)] (Int.toNat y17)) fun (x18 : List UInt8) =>
                                        some x18
                                    else
                                      none
                    else
                      none
              else
                none
            else
              none
      else
        none
def an9 : Ann := .two (.leaf) (.two (.draw 16) (.two (.two (.leaf) (.one (.two (.leaf) (.two (.two (.leaf) (.leaf)) (.two (.leaf) (.two (.two (.leaf) (.leaf)) (.two (.leaf) (.two (.two (.leaf) (.leaf)) (.two (.join [2, 5] [2] [⟨.normal, [], [.tmp 38 (.bool)]⟩] (.leaf)) (.two (.two (.leaf) (.leaf)) (.leaf))))))))))) (.two (.leaf) (.leaf))))
theorem s9 : SoundF cx.P cx.G 9 sg9 r9 := by
  have e : denF cx [(7, ⟨sg7, r7⟩), (14, ⟨sg14, R14⟩)] an9 Try.f9.ntmps (Try.f9.body.getD .skip) Try.f9.results.toList sg9 = r9 := by kernel_rfl
  rw [← e]
  exact sound_of_den (c := cx) (Known.cons (.ofF s7 (by kernel_rfl)) Try.func7 (by kernel_rfl) (by kernel_rfl) (Known.cons (.ofF s14 (by kernel_rfl)) Try.func14 (by kernel_rfl) (by kernel_rfl) (Known.nil))) Try.func9 (by kernel_rfl) (Nat.le_of_ble_eq_true (by kernel_rfl)) rfl

/-! reredos/reredoskeep.Acts -/
noncomputable def r5_L0 (a : ((Int × (List ((Int × Int)) × Int)) × (List ((Int × (Int × (Int × (Int × (Int × Int)))))) × (Int × Bool)))) (b281 : (Int × (Int × (Int × (Int × (Int × Int)))))) (d326 : (Unit × (Int × (Int × (Int × (Int × (Int × (Int × (List Int × (Int × (Int × (Int × (Int × (Int × List UInt8)))))))))))))) : Option ((Unit × (Int × (Int × (Int × (Int × (Int × (Int × (List Int × (Int × (Int × (Int × (Int × (Int × List UInt8))))))))))))) ⊕ (Unit × (Int × (Int × (Int × (Int × (Int × (List Int × (Int × (Int × (Int × (Int × (Int × List UInt8))))))))))))) :=
  bif decide (d326.2.1 < (↑a.1.2.1.length : Int)) then
    bif decide ((Go.IntKind.wrap .i64 (d326.2.1 + (1 : Int))) = 0) then
      none
    else
      Option.bind (r7 ((Go.IntKind.wrap .i64 (Int.tdiv b281.2.2.2.2.1 (Go.IntKind.wrap .i64 (d326.2.1 + (1 : Int))))), (40 : Int))) fun (y328 : Int) =>
        bif roomOk false d326.2.2.2.2.2.2.2.1.length 1 8 then
          some (Sum.inl ((), ((Go.IntKind.wrap .i64 (d326.2.1 + (1 : Int))), (d326.2.2.1, (d326.2.2.2.1, (d326.2.2.2.2.1, (d326.2.2.2.2.2.1, (d326.2.2.2.2.2.2.1, (app d326.2.2.2.2.2.2.2.1 [y328], d326.2.2.2.2.2.2.2.2)))))))))
        else
          none
  else
    some (Sum.inr ((), d326.2.2))
noncomputable def r5_L1 (a : ((Int × (List ((Int × Int)) × Int)) × (List ((Int × (Int × (Int × (Int × (Int × Int)))))) × (Int × Bool)))) (d169 : (Unit × (Int × List ((Int × (Int × (Int × (Int × (Int × (List Int × ((Int × (Int × (Int × (Int × Int)))) × List UInt8))))))))))) : Option ((Unit × (Int × List ((Int × (Int × (Int × (Int × (Int × (List Int × ((Int × (Int × (Int × (Int × Int)))) × List UInt8)))))))))) ⊕ (Unit × List ((Int × (Int × (Int × (Int × (Int × (List Int × ((Int × (Int × (Int × (Int × Int)))) × List UInt8)))))))))) :=
  Option.bind (
    bif decide (d169.2.1 < (↑a.2.1.length : Int)) then
      some (decide ((↑d169.2.2.length : Int) < a.2.2.1))
    else
      some false) fun (d170 : Bool) =>
    bif d170 then
      Option.bind (
        Option.bind (idxI a.2.1 d169.2.1) fun (b281 : (Int × (Int × (Int × (Int × (Int × Int)))))) =>
          Option.bind (r7 ((Go.IntKind.wrap .i64 (Int.tdiv b281.2.1 (31 : Int))), a.1.1)) fun (y284 : Int) =>
            Option.bind (r7 ((Go.IntKind.wrap .i64 (Int.tdiv b281.2.2.1 (31 : Int))), (↑a.1.2.1.length : Int))) fun (y285 : Int) =>
              Option.bind (
                Option.bind (r7 (b281.1, (20 : Int))) fun (y316 : Int) =>
                  bif decide (y316 < (8 : Int)) then
                    Option.bind (r8 ((Go.IntKind.wrap .i64 (Int.tdiv b281.2.2.2.1 (9 : Int))), (b281.2.1, (b281.2.2.1, (b281.2.2.2.1, (b281.2.2.2.2.1, (0 : Int))))))) fun (y317 : (Int × (Int × (Int × (Int × Int))))) =>
                      some ((), ((1 : Int), (y284, ((0 : Int), (y285, ((0 : Int), ([], (y317.1, (y317.2.1, (y317.2.2.1, (y317.2.2.2.1, (y317.2.2.2.2, ([] : List UInt8)))))))))))))
                  else
                    bif decide (y316 < (15 : Int)) then
                      Option.bind (r7 (b281.2.2.2.1, a.1.1)) fun (y318 : Int) =>
                        Option.bind (r7 (b281.2.2.2.2.1, (3 : Int))) fun (y319 : Int) =>
                          some ((), ((2 : Int), (y284, (y318, (y285, (y319, ([], ((0 : Int), ((0 : Int), ((0 : Int), ((0 : Int), ((0 : Int), ([] : List UInt8)))))))))))))
                    else
                      bif decide (y316 = (15 : Int)) then
                        Option.bind (r7 (b281.2.2.2.2.2, (2 : Int))) fun (y320 : Int) =>
                          Option.bind (r7 (b281.2.2.2.1, a.1.1)) fun (y321 : Int) =>
                            Option.bind (r7 (b281.2.2.2.2.1, (3 : Int))) fun (y322 : Int) =>
                              some ((), ((Go.IntKind.wrap .i64 ((4 : Int) - y320)), (y284, (y321, (y285, (y322, ([], ((0 : Int), ((0 : Int), ((0 : Int), ((0 : Int), ((0 : Int), ([] : List UInt8)))))))))))))
                      else
                        bif decide (y316 = (16 : Int)) then
                          some ((), ((5 : Int), ((0 : Int), ((0 : Int), ((0 : Int), ((0 : Int), ([], ((0 : Int), ((0 : Int), ((0 : Int), ((0 : Int), ((0 : Int), ([] : List UInt8)))))))))))))
                        else
                          bif decide (y316 = (17 : Int)) then
                            Option.bind (loopR (r5_L0 a b281) ((), ((0 : Int), ((6 : Int), (y284, ((0 : Int), ((0 : Int), ((0 : Int), ([], ((0 : Int), ((0 : Int), ((0 : Int), ((0 : Int), ((0 : Int), ([] : List UInt8))))))))))))))) fun (q329 : (Unit × (Int × (Int × (Int × (Int × (Int × (List Int × (Int × (Int × (Int × (Int × (Int × List UInt8))))))))))))) =>
                              some ((), q329.2)
                          else
                            bif decide (y316 = (18 : Int)) then
                              some ((), ((7 : Int), (y284, ((0 : Int), ((0 : Int), ((0 : Int), ([], ((0 : Int), ((0 : Int), ((0 : Int), ((0 : Int), ((0 : Int), ([] : List UInt8)))))))))))))
                            else
                              Option.bind (r9 (b281, a.2.2.2)) fun (y330 : List UInt8) =>
                                some ((), ((8 : Int), (y284, ((0 : Int), (y285, ((0 : Int), ([], ((0 : Int), ((0 : Int), ((0 : Int), ((0 : Int), ((0 : Int), y330))))))))))))) fun (d331 : (Unit × (Int × (Int × (Int × (Int × (Int × (List Int × (Int × (Int × (Int × (Int × (Int × List UInt8))))))))))))) =>
                bif roomOk false d169.2.2.length 1 120 then
                  Option.bind (
                    bif decide (d331.2.1 = (1 : Int)) then
                      Option.bind (r7 (b281.2.2.2.2.2, (4 : Int))) fun (y334 : Int) =>
                        some (decide ((0 : Int) < y334))
                    else
                      some false) fun (d335 : Bool) =>
                    bif d335 then
                      bif decide (a.1.1 = 0) then
                        none
                      else
                        bif roomOk false ((app d169.2.2 [(d331.2.1, (d331.2.2.1, (d331.2.2.2.1, (d331.2.2.2.2.1, (d331.2.2.2.2.2.1, (d331.2.2.2.2.2.2.1, ((d331.2.2.2.2.2.2.2.1, (d331.2.2.2.2.2.2.2.2.1, (d331.2.2.2.2.2.2.2.2.2.1, (d331.2.2.2.2.2.2.2.2.2.2.1, d331.2.2.2.2.2.2.2.2.2.2.2.1)))), d331.2.2.2.2.2.2.2.2.2.2.2.2)))))))]).length) 2 120 then
                          some ((), app (app d169.2.2 [(d331.2.1, (d331.2.2.1, (d331.2.2.2.1, (d331.2.2.2.2.1, (d331.2.2.2.2.2.1, (d331.2.2.2.2.2.2.1, ((d331.2.2.2.2.2.2.2.1, (d331.2.2.2.2.2.2.2.2.1, (d331.2.2.2.2.2.2.2.2.2.1, (d331.2.2.2.2.2.2.2.2.2.2.1, d331.2.2.2.2.2.2.2.2.2.2.2.1)))), d331.2.2.2.2.2.2.2.2.2.2.2.2)))))))]) [((2 : Int), (d331.2.2.1, ((Int.tmod d331.2.2.2.2.2.2.2.2.2.2.1 a.1.1), (d331.2.2.2.2.1, ((0 : Int), ([], (((0 : Int), ((0 : Int), ((0 : Int), ((0 : Int), (0 : Int))))), ([] : List UInt8)))))))), ((2 : Int), ((Int.tmod d331.2.2.2.2.2.2.2.2.2.2.1 a.1.1), (d331.2.2.1, (d331.2.2.2.2.1, ((0 : Int), ([], (((0 : Int), ((0 : Int), ((0 : Int), ((0 : Int), (0 : Int))))), ([] : List UInt8))))))))])
                        else
                          none
                    else
                      some ((), app d169.2.2 [(d331.2.1, (d331.2.2.1, (d331.2.2.2.1, (d331.2.2.2.2.1, (d331.2.2.2.2.2.1, (d331.2.2.2.2.2.2.1, ((d331.2.2.2.2.2.2.2.1, (d331.2.2.2.2.2.2.2.2.1, (d331.2.2.2.2.2.2.2.2.2.1, (d331.2.2.2.2.2.2.2.2.2.2.1, d331.2.2.2.2.2.2.2.2.2.2.2.1)))), d331.2.2.2.2.2.2.2.2.2.2.2.2)))))))])
                else
                  none) fun (d336 : (Unit × List ((Int × (Int × (Int × (Int × (Int × (List Int × ((Int × (Int × (Int × (Int × Int)))) × List UInt8)))))))))) =>
        some (Sum.inl ((), ((Go.IntKind.wrap .i64 (d169.2.1 + (1 : Int))), d336.2)))
    else
      some (Sum.inr ((), d169.2.2))
def sg5 : Sig := ⟨[⟨true, .bo, (.pair (.int .i64) (.pair (.sl (.pair (.int .i64) (.int .i64))) (.int .i64)))⟩, ⟨false, .bo, (.sl (.pair (.int .i64) (.pair (.int .i64) (.pair (.int .i64) (.pair (.int .i64) (.pair (.int .i64) (.int .i64)))))))⟩, ⟨false, .bo, (.int .i64)⟩, ⟨false, .bo, .bool⟩], [⟨false, .own, (.sl (.pair (.int .i64) (.pair (.int .i64) (.pair (.int .i64) (.pair (.int .i64) (.pair (.int .i64) (.pair (.rsl (.int .i64)) (.pair (.pair (.int .i64) (.pair (.int .i64) (.pair (.int .i64) (.pair (.int .i64) (.int .i64))))) .str))))))))⟩]⟩
noncomputable def r5 (a : ((Int × (List ((Int × Int)) × Int)) × (List ((Int × (Int × (Int × (Int × (Int × Int)))))) × (Int × Bool)))) : Option (List ((Int × (Int × (Int × (Int × (Int × (List Int × ((Int × (Int × (Int × (Int × Int)))) × List UInt8))))))))) :=
  Option.bind (loopR (r5_L1 a) ((), ((0 : Int), []))) fun (q337 : (Unit × List ((Int × (Int × (Int × (Int × (Int × (List Int × ((Int × (Int × (Int × (Int × Int)))) × List UInt8)))))))))) =>
    some q337.2
def an5 : Ann := .two (.leaf) (.two (.leaf) (.two (.two (.leaf) (.one (.loop [1, 2, 3, 4] [4] [(9, (.pair (.int .i64) (.pair (.int .i64) (.pair (.int .i64) (.pair (.int .i64) (.pair (.int .i64) (.pair (.rsl (.int .i64)) (.pair (.pair (.int .i64) (.pair (.int .i64) (.pair (.int .i64) (.pair (.int .i64) (.int .i64))))) .str))))))))] [.tmp 9 (.own 9 [(0, 0)] (.pair (.int .i64) (.pair (.int .i64) (.pair (.int .i64) (.pair (.int .i64) (.pair (.int .i64) (.pair (.rsl (.int .i64)) (.pair (.pair (.int .i64) (.pair (.int .i64) (.pair (.int .i64) (.pair (.int .i64) (.int .i64))))) .str)))))))), .tmp 10 (.int .i64), .row 9 [.sl .own (.pair (.int .i64) (.pair (.int .i64) (.pair (.int .i64) (.pair (.int .i64) (.pair (.int .i64) (.pair (.rsl (.int .i64)) (.pair (.pair (.int .i64) (.pair (.int .i64) (.pair (.int .i64) (.pair (.int .i64) (.int .i64))))) .str)))))))]] [⟨.exit 0, [], [.tmp 9 (.own 9 [(0, 0)] (.pair (.int .i64) (.pair (.int .i64) (.pair (.int .i64) (.pair (.int .i64) (.pair (.int .i64) (.pair (.rsl (.int .i64)) (.pair (.pair (.int .i64) (.pair (.int .i64) (.pair (.int .i64) (.pair (.int .i64) (.int .i64))))) .str)))))))), .row 9 [.sl .own (.pair (.int .i64) (.pair (.int .i64) (.pair (.int .i64) (.pair (.int .i64) (.pair (.int .i64) (.pair (.rsl (.int .i64)) (.pair (.pair (.int .i64) (.pair (.int .i64) (.pair (.int .i64) (.pair (.int .i64) (.int .i64))))) .str)))))))]]⟩] (.two (.two (.join [1, 2, 3, 4, 9, 10] [4, 9] [⟨.normal, [], [.tmp 25 (.bool)]⟩] (.leaf)) (.two (.leaf) (.leaf))) (.two (.join [1, 2, 3, 4, 10] [4] [⟨.normal, [(9, (.pair (.int .i64) (.pair (.int .i64) (.pair (.int .i64) (.pair (.int .i64) (.pair (.int .i64) (.pair (.rsl (.int .i64)) (.pair (.pair (.int .i64) (.pair (.int .i64) (.pair (.int .i64) (.pair (.int .i64) (.int .i64))))) .str))))))))], [.tmp 9 (.own 9 [(0, 0)] (.pair (.int .i64) (.pair (.int .i64) (.pair (.int .i64) (.pair (.int .i64) (.pair (.int .i64) (.pair (.rsl (.int .i64)) (.pair (.pair (.int .i64) (.pair (.int .i64) (.pair (.int .i64) (.pair (.int .i64) (.int .i64))))) .str)))))))), .row 9 [.sl .own (.pair (.int .i64) (.pair (.int .i64) (.pair (.int .i64) (.pair (.int .i64) (.pair (.int .i64) (.pair (.rsl (.int .i64)) (.pair (.pair (.int .i64) (.pair (.int .i64) (.pair (.int .i64) (.pair (.int .i64) (.int .i64))))) .str)))))))]]⟩] (.one (.two (.leaf) (.two (.draw 15) (.two (.join [1, 2, 3, 4, 9, 10, 11] [4, 9, 11] [⟨.normal, [], [.tmp 12 (.pt 12 [(0, 0)] 0 0 12), .box 12 [.int .i64, .int .i64, .int .i64, .int .i64, .int .i64, .sl .own (.int .i64), .int .i64, .int .i64, .int .i64, .int .i64, .int .i64, .str]]⟩] (.two (.leaf) (.one (.two (.leaf) (.two (.two (.leaf) (.leaf)) (.two (.leaf) (.two (.two (.leaf) (.two (.leaf) (.leaf))) (.two (.leaf) (.two (.two (.leaf) (.two (.leaf) (.leaf))) (.two (.leaf) (.two (.leaf) (.two (.leaf) (.two (.two (.leaf) (.two (.leaf) (.one (.loop [1, 2, 3, 4, 9, 10, 11] [4, 9, 11] [] [.tmp 12 (.pt 12 [(0, 0)] 0 0 12), .tmp 14 (.int .i64), .box 12 [.int .i64, .int .i64, .int .i64, .int .i64, .int .i64, .sl .own (.int .i64), .int .i64, .int .i64, .int .i64, .int .i64, .int .i64, .str]] [⟨.exit 3, [], [.tmp 12 (.pt 12 [(0, 0)] 0 0 12), .box 12 [.int .i64, .int .i64, .int .i64, .int .i64, .int .i64, .sl .own (.int .i64), .int .i64, .int .i64, .int .i64, .int .i64, .int .i64, .str]]⟩] (.two (.two (.leaf) (.two (.leaf) (.leaf))) (.two (.one (.draw 9)) (.leaf))))))) (.two (.leaf) (.two (.leaf) (.two (.leaf) (.leaf))))))))))))))))) (.two (.leaf) (.two (.join [1, 2, 3, 4, 9, 10, 12] [4, 12, 141] [⟨.normal, [], [.tmp 150 (.bool)]⟩] (.leaf)) (.two (.two (.leaf) (.leaf)) (.leaf))))))))) (.leaf)))))) (.two (.leaf) (.leaf))))
theorem s5 : SoundF cx.P cx.G 5 sg5 r5 := by
  have e : denF cx [(7, ⟨sg7, r7⟩), (8, ⟨sg8, r8⟩), (9, ⟨sg9, r9⟩)] an5 Try.f5.ntmps (Try.f5.body.getD .skip) Try.f5.results.toList sg5 = r5 := by kernel_rfl
  rw [← e]
  exact sound_of_den (c := cx) (Known.cons (.ofF s7 (by kernel_rfl)) Try.func7 (by kernel_rfl) (by kernel_rfl) (Known.cons (.ofF s8 (by kernel_rfl)) Try.func8 (by kernel_rfl) (by kernel_rfl) (Known.cons (.ofF s9 (by kernel_rfl)) Try.func9 (by kernel_rfl) (by kernel_rfl) (Known.nil)))) Try.func5 (by kernel_rfl) (Nat.le_of_ble_eq_true (by kernel_rfl)) rfl

/-! reredos/label.one -/
def sg15 : Sig := ⟨[⟨true, .bo, (.pair (.int .i64) (.int .i64))⟩], [⟨false, .own, .bool⟩]⟩
noncomputable def r15 (a : (Int × Int)) : Option Bool :=
  Option.bind (
    bif decide ((0 : Int) ≤ a.1) then
      some (decide (a.1 ≤ (9 : Int)))
    else
      some false) fun (g1 : Bool) =>
    Option.bind (
      bif g1 then
        some (decide ((0 : Int) ≤ a.2))
      else
        some false) fun (g2 : Bool) =>
      bif g2 then
        some (decide (a.2 ≤ (15 : Int)))
      else
        some false
def an15 : Ann := .two (.leaf) (.two (.segs [(8, ([1], ([1], [.tmp 10 (.bool)]))), (5, ([1], ([1], [.tmp 15 (.bool)])))]) (.leaf))
theorem s15 : SoundF cx.P cx.G 15 sg15 r15 := by
  have e : denF cx [] an15 Try.f15.ntmps (Try.f15.body.getD .skip) Try.f15.results.toList sg15 = r15 := by kernel_rfl
  rw [← e]
  exact sound_of_den (c := cx) (Known.nil) Try.func15 (by kernel_rfl) (Nat.le_of_ble_eq_true (by kernel_rfl)) rfl

/-! reredos/label.Check -/
noncomputable def r10_L0 (d3 : Int) (a : (Int × (List ((Int × Int)) × Int))) (b4 : (Int × Int)) (d6 : Int) : Option (Int ⊕ (Unit ⊕ Int)) :=
  bif decide (d6 < (↑((List.take (Int.toNat d3) a.2.1).length) : Int)) then
    Option.bind (idxI (List.take (Int.toNat d3) a.2.1) d6) fun (b7 : (Int × Int)) =>
      bif (decide (b7.1 = b4.1) && (decide (b7.2 = b4.2) && true)) then
        some (Sum.inr (Sum.inr (7 : Int)))
      else
        some (Sum.inl (Go.IntKind.wrap .i64 (d6 + (1 : Int))))
  else
    some (Sum.inr (Sum.inl ()))
noncomputable def r10_L1 (a : (Int × (List ((Int × Int)) × Int))) (d3 : Int) : Option (Int ⊕ (Unit ⊕ Int)) :=
  bif decide (d3 < (↑a.2.1.length : Int)) then
    Option.bind (idxI a.2.1 d3) fun (b4 : (Int × Int)) =>
      Option.bind (r15 b4) fun (y5 : Bool) =>
        bif !(y5) then
          some (Sum.inr (Sum.inr (2 : Int)))
        else
          bif okB none (some d3) none a.2.1.length then
            Option.bind (loopR (r10_L0 d3 a b4) (0 : Int)) fun (q8 : (Unit ⊕ Int)) =>
              Sum.elim (fun (v9 : Unit) =>
                  some (Sum.inl (Go.IntKind.wrap .i64 (d3 + (1 : Int)))))
                (fun (v10 : Int) =>
                  some (Sum.inr (Sum.inr v10))) q8
          else
            none
  else
    some (Sum.inr (Sum.inl ()))
def sg10 : Sig := ⟨[⟨true, .bo, (.pair (.int .i64) (.pair (.sl (.pair (.int .i64) (.int .i64))) (.int .i64)))⟩], [⟨false, .own, (.int .i64)⟩]⟩
noncomputable def r10 (a : (Int × (List ((Int × Int)) × Int))) : Option Int :=
  Option.bind (
    bif !(decide (a.1 < (1 : Int))) then
      some (decide ((4 : Int) < a.1))
    else
      some true) fun (d1 : Bool) =>
    bif d1 then
      some (2 : Int)
    else
      Option.bind (
        bif !(decide ((↑a.2.1.length : Int) < (1 : Int))) then
          some (decide ((6 : Int) < (↑a.2.1.length : Int)))
        else
          some true) fun (d2 : Bool) =>
        bif d2 then
          some (1 : Int)
        else
          Option.bind (loopR (r10_L1 a) (0 : Int)) fun (q11 : (Unit ⊕ Int)) =>
            Sum.elim (fun (v12 : Unit) =>
                Option.bind (
                  bif !(decide (a.2.2 < (1 : Int))) then
                    some (decide ((1048576 : Int) < a.2.2))
                  else
                    some true) fun (d14 : Bool) =>
                  bif d14 then
                    some (2 : Int)
                  else
                    some (0 : Int))
              (fun (v13 : Int) =>
                some v13) q11
def an10 : Ann := .two (.leaf) (.two (.two (.join [1] [1] [⟨.normal, [], [.tmp 14 (.bool)]⟩] (.leaf)) (.two (.two (.leaf) (.leaf)) (.leaf))) (.two (.two (.join [1] [1] [⟨.normal, [], [.tmp 24 (.bool)]⟩] (.leaf)) (.two (.two (.leaf) (.leaf)) (.leaf))) (.two (.two (.leaf) (.one (.loop [1, 26, 27] [1] [] [.tmp 28 (.int .i64)] [⟨.exit 0, [], []⟩, ⟨.ret, [], [.tmp 2 (.int .i64)]⟩] (.two (.leaf) (.two (.two (.leaf) (.leaf)) (.two (.one (.two (.leaf) (.two (.two (.leaf) (.two (.two (.leaf) (.leaf)) (.leaf))) (.two (.leaf) (.one (.loop [1, 4, 26, 27, 28, 39, 40] [1, 4] [] [.tmp 41 (.int .i64)] [⟨.exit 2, [], []⟩, ⟨.ret, [], [.tmp 2 (.int .i64)]⟩] (.two (.leaf) (.two (.two (.leaf) (.leaf)) (.two (.one (.two (.leaf) (.two (.leaf) (.two (.two (.leaf) (.leaf)) (.leaf))))) (.leaf)))))))))) (.leaf))))))) (.two (.two (.join [] [] [⟨.normal, [], [.tmp 57 (.bool)]⟩] (.leaf)) (.two (.two (.leaf) (.leaf)) (.leaf))) (.two (.leaf) (.leaf))))))
theorem s10 : SoundF cx.P cx.G 10 sg10 r10 := by
  have e : denF cx [(15, ⟨sg15, r15⟩)] an10 Try.f10.ntmps (Try.f10.body.getD .skip) Try.f10.results.toList sg10 = r10 := by kernel_rfl
  rw [← e]
  exact sound_of_den (c := cx) (Known.cons (.ofF s15 (by kernel_rfl)) Try.func15 (by kernel_rfl) (by kernel_rfl) (Known.nil)) Try.func10 (by kernel_rfl) (Nat.le_of_ble_eq_true (by kernel_rfl)) rfl

/-! reredos/lines.numbers$1 -/
def sg17 : Sig := ⟨[⟨false, .bo, (.int .i64)⟩], [⟨false, .own, .bool⟩]⟩
noncomputable def r17 (a : Int) : Option Bool :=
  bif !(decide (a < (0 : Int))) then
    some (decide ((6000 : Int) < a))
  else
    some true
def an17 : Ann := .two (.leaf) (.two (.leaf) (.leaf))
theorem s17 : SoundF cx.P cx.G 17 sg17 r17 := by
  have e : denF cx [] an17 Try.f17.ntmps (Try.f17.body.getD .skip) Try.f17.results.toList sg17 = r17 := by kernel_rfl
  rw [← e]
  exact sound_of_den (c := cx) (Known.nil) Try.func17 (by kernel_rfl) (Nat.le_of_ble_eq_true (by kernel_rfl)) rfl

/-! reredos/lines.numbers -/
noncomputable def r11_L0 (a : ((Int × (List ((Int × Int)) × Int)) × (Int × (Int × (Int × (Int × (Int × (List Int × ((Int × (Int × (Int × (Int × Int)))) × List UInt8))))))))) (d38 : Int) : Option (Int ⊕ (Unit ⊕ Int)) :=
  bif decide (d38 < (↑a.2.2.2.2.2.2.1.length : Int)) then
    Option.bind (idxI a.2.2.2.2.2.2.1 d38) fun (b39 : Int) =>
      Option.bind (
        bif !(decide (b39 < (0 : Int))) then
          some (decide ((6000 : Int) < b39))
        else
          some true) fun (d40 : Bool) =>
        bif d40 then
          some (Sum.inr (Sum.inr d38))
        else
          some (Sum.inl (Go.IntKind.wrap .i64 (d38 + (1 : Int))))
  else
    some (Sum.inr (Sum.inl ()))
def sg11 : Sig := ⟨[⟨true, .bo, (.pair (.int .i64) (.pair (.sl (.pair (.int .i64) (.int .i64))) (.int .i64)))⟩, ⟨true, .bo, (.pair (.int .i64) (.pair (.int .i64) (.pair (.int .i64) (.pair (.int .i64) (.pair (.int .i64) (.pair (.sl (.int .i64)) (.pair (.pair (.int .i64) (.pair (.int .i64) (.pair (.int .i64) (.pair (.int .i64) (.int .i64))))) .str)))))))⟩], [⟨false, .own, .bool⟩]⟩
noncomputable def r11 (a : ((Int × (List ((Int × Int)) × Int)) × (Int × (Int × (Int × (Int × (Int × (List Int × ((Int × (Int × (Int × (Int × Int)))) × List UInt8))))))))) : Option Bool :=
  Option.bind (
    Option.bind (
      bif !(decide (a.2.2.1 < (0 : Int))) then
        some (decide (a.1.1 ≤ a.2.2.1))
      else
        some true) fun (g17 : Bool) =>
      Option.bind (
        bif !(g17) then
          some (decide (a.2.2.2.1 < (0 : Int)))
        else
          some true) fun (g18 : Bool) =>
        Option.bind (
          bif !(g18) then
            some (decide (a.1.1 ≤ a.2.2.2.1))
          else
            some true) fun (g19 : Bool) =>
          Option.bind (
            bif !(g19) then
              some (decide (a.2.2.2.2.1 < (0 : Int)))
            else
              some true) fun (g20 : Bool) =>
            Option.bind (
              bif !(g20) then
                some (decide ((↑a.1.2.1.length : Int) ≤ a.2.2.2.2.1))
              else
                some true) fun (g21 : Bool) =>
              Option.bind (
                bif !(g21) then
                  some (decide (a.2.2.2.2.2.1 < (0 : Int)))
                else
                  some true) fun (g22 : Bool) =>
                Option.bind (
                  bif !(g22) then
                    some (decide ((1048576 : Int) < a.2.2.2.2.2.1))
                  else
                    some true) fun (g23 : Bool) =>
                  Option.bind (
                    bif !(g23) then
                      some (decide ((↑a.1.2.1.length : Int) < (↑a.2.2.2.2.2.2.1.length : Int)))
                    else
                      some true) fun (g24 : Bool) =>
                    bif !(g24) then
                      some (decide ((60 : Int) < (↑a.2.2.2.2.2.2.2.2.length : Int)))
                    else
                      some true) fun (d25 : Bool) =>
    bif d25 then
      some false
    else
      Option.bind (
        Option.bind (loopR (r11_L0 a) (0 : Int)) fun (q41 : (Unit ⊕ Int)) =>
          Sum.elim (fun (v42 : Unit) =>
              some (-1 : Int))
            (fun (v43 : Int) =>
              some v43) q41) fun (d44 : Int) =>
        some (!(decide ((0 : Int) ≤ d44)))
def an11 : Ann := .two (.leaf) (.two (.two (.join [3] [3] [⟨.normal, [], [.tmp 64 (.bool)]⟩] (.segs [(10, ([2, 3], ([2, 3], [.tmp 14 (.bool)]))), (5, ([2, 3], ([2, 3], [.tmp 19 (.bool)]))), (7, ([2, 3], ([2, 3], [.tmp 26 (.bool)]))), (5, ([2, 3], ([2, 3], [.tmp 31 (.bool)]))), (8, ([2, 3], ([2, 3], [.tmp 39 (.bool)]))), (5, ([2, 3], ([2, 3], [.tmp 44 (.bool)]))), (5, ([2, 3], ([2, 3], [.tmp 49 (.bool)]))), (9, ([3], ([3], [.tmp 58 (.bool)])))])) (.two (.two (.leaf) (.leaf)) (.leaf))) (.two (.inl 2 69 (.two (.leaf) (.two (.inl 2 78 (.join [] [] [⟨.ret, [], [.tmp 82 (.int .i64)]⟩] (.two (.leaf) (.two (.two (.leaf) (.one (.loop [78, 79, 85] [] [] [.tmp 86 (.int .i64)] [⟨.exit 0, [], []⟩, ⟨.ret, [], [.tmp 82 (.int .i64)]⟩] (.two (.leaf) (.two (.two (.leaf) (.leaf)) (.two (.one (.two (.leaf) (.two (.inl 5 97 (.join [78, 79, 83, 85, 86] [] [⟨.ret, [], [.tmp 99 (.bool)]⟩] (.two (.leaf) (.two (.leaf) (.leaf)))) (.leaf)) (.two (.two (.leaf) (.leaf)) (.leaf))))) (.leaf))))))) (.two (.leaf) (.leaf))))) (.leaf)) (.leaf))) (.leaf)) (.leaf)))
theorem s11 : SoundF cx.P cx.G 11 sg11 r11 := by
  have e : denF cx [] an11 Try.f11.ntmps (Try.f11.body.getD .skip) Try.f11.results.toList sg11 = r11 := by kernel_rfl
  rw [← e]
  exact sound_of_den (c := cx) (Known.nil) Try.func11 (by kernel_rfl) (Nat.le_of_ble_eq_true (by kernel_rfl)) rfl

/-! reredos/lines.bare -/
def sg12 : Sig := ⟨[⟨true, .bo, (.pair (.int .i64) (.pair (.int .i64) (.pair (.int .i64) (.pair (.int .i64) (.pair (.int .i64) (.pair (.sl (.int .i64)) (.pair (.pair (.int .i64) (.pair (.int .i64) (.pair (.int .i64) (.pair (.int .i64) (.int .i64))))) .str)))))))⟩], [⟨false, .own, .bool⟩]⟩
noncomputable def r12 (a : (Int × (Int × (Int × (Int × (Int × (List Int × ((Int × (Int × (Int × (Int × Int)))) × List UInt8)))))))) : Option Bool :=
  Option.bind (
    Option.bind (
      bif !(decide (a.1 = (2 : Int))) then
        some (decide (a.1 = (3 : Int)))
      else
        some true) fun (g3 : Bool) =>
      bif !(g3) then
        some (decide (a.1 = (4 : Int)))
      else
        some true) fun (d4 : Bool) =>
    Option.bind (
      bif !(d4) then
        some (!(decide (a.1 = (5 : Int))))
      else
        some true) fun (d5 : Bool) =>
      Option.bind (
        Option.bind (
          bif !(d4) then
            some (decide (a.1 = (1 : Int)))
          else
            some true) fun (g8 : Bool) =>
          bif !(g8) then
            some (decide (a.1 = (8 : Int)))
          else
            some true) fun (d9 : Bool) =>
        Option.bind (
          bif !(d5) then
            some (decide (a.2.1 = (0 : Int)))
          else
            some true) fun (g10 : Bool) =>
          Option.bind (
            bif g10 then
              bif !(d9) then
                some (decide (a.2.2.2.1 = (0 : Int)))
              else
                some true
            else
              some false) fun (g11 : Bool) =>
            Option.bind (
              bif g11 then
                bif !(d4) then
                  bif decide (a.2.2.1 = (0 : Int)) then
                    some (decide (a.2.2.2.2.1 = (0 : Int)))
                  else
                    some false
                else
                  some true
              else
                some false) fun (g12 : Bool) =>
              Option.bind (
                bif g12 then
                  bif !(decide (a.1 = (6 : Int))) then
                    some (decide ((↑a.2.2.2.2.2.1.length : Int) = (0 : Int)))
                  else
                    some true
                else
                  some false) fun (g13 : Bool) =>
                Option.bind (
                  bif g13 then
                    bif !(decide (a.1 = (1 : Int))) then
                      some (decide (a.2.2.2.2.2.2.1.1 = (0 : Int)) && (decide (a.2.2.2.2.2.2.1.2.1 = (0 : Int)) && (decide (a.2.2.2.2.2.2.1.2.2.1 = (0 : Int)) && (decide (a.2.2.2.2.2.2.1.2.2.2.1 = (0 : Int)) && (decide (a.2.2.2.2.2.2.1.2.2.2.2 = (0 : Int)) && true)))))
                    else
                      some true
                  else
                    some false) fun (g14 : Bool) =>
                  bif g14 then
                    bif !(decide (a.1 = (8 : Int))) then
                      some (decide (a.2.2.2.2.2.2.2 = ([] : List UInt8)))
                    else
                      some true
                  else
                    some false
def an12 : Ann := .two (.leaf) (.two (.join [1] [1] [⟨.normal, [], [.tmp 3 (.bool)]⟩] (.segs [(8, ([1], ([1], [.tmp 13 (.bool)])))])) (.two (.join [1, 3] [1] [⟨.normal, [], [.tmp 4 (.bool)]⟩] (.leaf)) (.two (.join [1, 3, 4] [1] [⟨.normal, [], [.tmp 5 (.bool)]⟩] (.segs [(6, ([1, 3, 4], ([1], [.tmp 30 (.bool)])))])) (.two (.segs [(6, ([1, 3, 5], ([1], [.tmp 41 (.bool)]))), (8, ([1, 3], ([1], [.tmp 49 (.bool)]))), (13, ([1], ([1], [.tmp 62 (.bool)]))), (11, ([1], ([1], [.tmp 73 (.bool)]))), (11, ([1], ([1], [.tmp 84 (.bool)])))]) (.leaf)))))
theorem s12 : SoundF cx.P cx.G 12 sg12 r12 := by
  have e : denF cx [] an12 Try.f12.ntmps (Try.f12.body.getD .skip) Try.f12.results.toList sg12 = r12 := by kernel_rfl
  rw [← e]
  exact sound_of_den (c := cx) (Known.nil) Try.func12 (by kernel_rfl) (Nat.le_of_ble_eq_true (by kernel_rfl)) rfl

/-! reredos/lines.call -/
def sg13 : Sig := ⟨[⟨true, .bo, (.pair (.int .i64) (.pair (.int .i64) (.pair (.int .i64) (.pair (.int .i64) (.int .i64)))))⟩], [⟨false, .own, (.int .i64)⟩]⟩
noncomputable def r13 (a : (Int × (Int × (Int × (Int × Int))))) : Option Int :=
  Option.bind (
    bif !(decide (a.1 < (1 : Int))) then
      some (decide ((5 : Int) < a.1))
    else
      some true) fun (d1 : Bool) =>
    bif d1 then
      some (3 : Int)
    else
      Option.bind (
        Option.bind (
          bif !(decide (a.2.1 < (0 : Int))) then
            some (decide ((1048576 : Int) < a.2.1))
          else
            some true) fun (g14 : Bool) =>
          Option.bind (
            bif !(g14) then
              some (decide (a.2.2.1 < (0 : Int)))
            else
              some true) fun (g15 : Bool) =>
            Option.bind (
              bif !(g15) then
                some (decide ((6 : Int) ≤ a.2.2.1))
              else
                some true) fun (g16 : Bool) =>
              Option.bind (
                bif !(g16) then
                  some (decide (a.2.2.2.1 < (0 : Int)))
                else
                  some true) fun (g17 : Bool) =>
                Option.bind (
                  bif !(g17) then
                    some (decide ((8 : Int) < a.2.2.2.1))
                  else
                    some true) fun (g18 : Bool) =>
                  Option.bind (
                    bif !(g18) then
                      some (decide (a.2.2.2.2 < (0 : Int)))
                    else
                      some true) fun (g19 : Bool) =>
                    bif !(g19) then
                      some (decide ((1073741824 : Int) < a.2.2.2.2))
                    else
                      some true) fun (d20 : Bool) =>
        bif d20 then
          some (2 : Int)
        else
          Option.bind (
            bif !(decide (a.1 = (1 : Int))) then
              some ((), (a.1, (a.2.1, ((0 : Int), ((0 : Int), (0 : Int))))))
            else
              some ((), (a.1, ((0 : Int), ((0 : Int), ((0 : Int), (0 : Int))))))) fun (d21 : (Unit × (Int × (Int × (Int × (Int × Int)))))) =>
            Option.bind (
              bif decide (a.1 = (2 : Int)) then
                Option.bind (
                  
                    some ((), (d21.2.1, (d21.2.2.1, (a.2.2.1, (a.2.2.2.1, d21.2.2.2.2.2)))))) fun (d26 : (Unit × (Int × (Int × (Int × (Int × Int)))))) =>
                  some ((), d26.2)
              else
                bif decide (a.1 = (3 : Int)) then
                  Option.bind (
                    
                      some ((), (d21.2.1, (d21.2.2.1, (d21.2.2.2.1, a.2.2.2))))) fun (d27 : (Unit × (Int × (Int × (Int × (Int × Int)))))) =>
                    some ((), d27.2)
                else
                  some ((), d21.2)) fun (d28 : (Unit × (Int × (Int × (Int × (Int × Int)))))) =>
              bif !((decide (a.1 = d28.2.1) && (decide (a.2.1 = d28.2.2.1) && (decide (a.2.2.1 = d28.2.2.2.1) && (decide (a.2.2.2.1 = d28.2.2.2.2.1) && (decide (a.2.2.2.2 = d28.2.2.2.2.2) && true)))))) then
                some (4 : Int)
              else
                some (0 : Int)
noncomputable def r13q : (Int × (Int × (Int × (Int × Int)))) → Option Int := fun a =>
  Option.bind (
    bif !(decide (a.1 < (1 : Int))) then
      some (decide ((5 : Int) < a.1))
    else
      some true) fun (d1 : Bool) =>
    bif d1 then
      some (3 : Int)
    else
      Option.bind (
        Option.bind (
          bif !(decide (a.2.1 < (0 : Int))) then
            some (decide ((1048576 : Int) < a.2.1))
          else
            some true) fun (g14 : Bool) =>
          Option.bind (
            bif !(g14) then
              some (decide (a.2.2.1 < (0 : Int)))
            else
              some true) fun (g15 : Bool) =>
            Option.bind (
              bif !(g15) then
                some (decide ((6 : Int) ≤ a.2.2.1))
              else
                some true) fun (g16 : Bool) =>
              Option.bind (
                bif !(g16) then
                  some (decide (a.2.2.2.1 < (0 : Int)))
                else
                  some true) fun (g17 : Bool) =>
                Option.bind (
                  bif !(g17) then
                    some (decide ((8 : Int) < a.2.2.2.1))
                  else
                    some true) fun (g18 : Bool) =>
                  Option.bind (
                    bif !(g18) then
                      some (decide (a.2.2.2.2 < (0 : Int)))
                    else
                      some true) fun (g19 : Bool) =>
                    bif !(g19) then
                      some (decide ((1073741824 : Int) < a.2.2.2.2))
                    else
                      some true) fun (d20 : Bool) =>
        bif d20 then
          some (2 : Int)
        else
          Option.bind (
            bif !(decide (a.1 = (1 : Int))) then
              some ((), (a.1, (a.2.1, ((0 : Int), ((0 : Int), (0 : Int))))))
            else
              some ((), (a.1, ((0 : Int), ((0 : Int), ((0 : Int), (0 : Int))))))) fun (d21 : (Unit × (Int × (Int × (Int × (Int × Int)))))) =>
            Option.bind (
              bif decide (a.1 = (2 : Int)) then
                Option.bind (
                  sameR (
                    some ((), (d21.2.1, (d21.2.2.1, (a.2.2.1, (a.2.2.2.1, d21.2.2.2.2.2))))))
 (
                    sameR (
                      sameR (
                        some ((), (d21.2.1, (d21.2.2.1, (a.2.2.1, (a.2.2.2.1, d21.2.2.2.2.2))))))
 (
                        some ((), (d21.2.1, (d21.2.2.1, (a.2.2.1, (a.2.2.2.1, d21.2.2.2.2.2)))))))
 (
                      sameR (
                        sameR (
                          some ((), (d21.2.1, (d21.2.2.1, (a.2.2.1, (a.2.2.2.1, d21.2.2.2.2.2))))))
 (
                          some ((), (d21.2.1, (d21.2.2.1, (a.2.2.1, (a.2.2.2.1, d21.2.2.2.2.2)))))))
 (
                        some ((), (d21.2.1, (d21.2.2.1, (a.2.2.1, (a.2.2.2.1, d21.2.2.2.2.2))))))))) fun (d26 : (Unit × (Int × (Int × (Int × (Int × Int)))))) =>
                  some ((), d26.2)
              else
                bif decide (a.1 = (3 : Int)) then
                  Option.bind (
                    sameR (
                      some ((), (d21.2.1, (d21.2.2.1, (d21.2.2.2.1, a.2.2.2)))))
 (
                      sameR (
                        sameR (
                          some ((), (d21.2.1, (d21.2.2.1, (d21.2.2.2.1, a.2.2.2)))))
 (
                          some ((), (d21.2.1, (d21.2.2.1, (d21.2.2.2.1, a.2.2.2))))))
 (
                        sameR (
                          sameR (
                            some ((), (d21.2.1, (d21.2.2.1, (d21.2.2.2.1, a.2.2.2)))))
 (
                            some ((), (d21.2.1, (d21.2.2.1, (d21.2.2.2.1, a.2.2.2))))))
 (
                          some ((), (d21.2.1, (d21.2.2.1, (d21.2.2.2.1, a.2.2.2)))))))) fun (d27 : (Unit × (Int × (Int × (Int × (Int × Int)))))) =>
                    some ((), d27.2)
                else
                  some ((), d21.2)) fun (d28 : (Unit × (Int × (Int × (Int × (Int × Int)))))) =>
              bif !((decide (a.1 = d28.2.1) && (decide (a.2.1 = d28.2.2.1) && (decide (a.2.2.1 = d28.2.2.2.1) && (decide (a.2.2.2.1 = d28.2.2.2.2.1) && (decide (a.2.2.2.2 = d28.2.2.2.2.2) && true)))))) then
                some (4 : Int)
              else
                some (0 : Int)
theorem r13e : r13q = r13 := by unfold r13q r13; simp only [sameR_self]
def an13 : Ann := .two (.leaf) (.two (.two (.join [1] [1] [⟨.normal, [], [.tmp 11 (.bool)]⟩] (.leaf)) (.two (.two (.leaf) (.leaf)) (.leaf))) (.two (.two (.join [1] [1] [⟨.normal, [], [.tmp 49 (.bool)]⟩] (.segs [(8, ([1], ([1], [.tmp 19 (.bool)]))), (5, ([1], ([1], [.tmp 24 (.bool)]))), (5, ([1], ([1], [.tmp 29 (.bool)]))), (5, ([1], ([1], [.tmp 34 (.bool)]))), (5, ([1], ([1], [.tmp 39 (.bool)]))), (5, ([1], ([1], [.tmp 44 (.bool)])))])) (.two (.two (.leaf) (.leaf)) (.leaf))) (.two (.leaf) (.two (.join [1] [1] [⟨.normal, [], [.tmp 3 (.pt 3 [(0, 0)] 0 0 5), .box 3 [.int .i64, .int .i64, .int .i64, .int .i64, .int .i64]]⟩] (.two (.leaf) (.two (.leaf) (.leaf)))) (.two (.join [1] [1] [⟨.normal, [], [.tmp 3 (.pt 3 [(0, 0)] 0 0 5), .box 3 [.int .i64, .int .i64, .int .i64, .int .i64, .int .i64]]⟩] (.two (.leaf) (.one (.two (.leaf) (.two (.join [1] [1] [⟨.normal, [], [.tmp 3 (.pt 3 [(0, 0)] 0 0 5), .box 3 [.int .i64, .int .i64, .int .i64, .int .i64, .int .i64]]⟩] (.drawT [0, 1, 2, 3, 4] [2, 3])) (.two (.leaf) (.two (.join [1] [1] [⟨.normal, [], [.tmp 3 (.pt 3 [(0, 0)] 0 0 5), .box 3 [.int .i64, .int .i64, .int .i64, .int .i64, .int .i64]]⟩] (.drawT [0, 1, 2, 3, 4] [2, 3])) (.leaf)))))))) (.two (.two (.leaf) (.two (.two (.leaf) (.leaf)) (.leaf))) (.two (.leaf) (.leaf))))))))
theorem s13 : SoundF cx.P cx.G 13 sg13 r13 := by
  have e : denF cx [] an13 Try.f13.ntmps (Try.f13.body.getD .skip) Try.f13.results.toList sg13 = r13q := by kernel_rfl
  rw [← r13e, ← e]
  exact sound_of_den (c := cx) (Known.nil) Try.func13 (by kernel_rfl) (Nat.le_of_ble_eq_true (by kernel_rfl)) rfl

/-! reredos/lines.Check -/
def sg6 : Sig := ⟨[⟨true, .bo, (.pair (.int .i64) (.pair (.sl (.pair (.int .i64) (.int .i64))) (.int .i64)))⟩, ⟨true, .bo, (.pair (.int .i64) (.pair (.int .i64) (.pair (.int .i64) (.pair (.int .i64) (.pair (.int .i64) (.pair (.sl (.int .i64)) (.pair (.pair (.int .i64) (.pair (.int .i64) (.pair (.int .i64) (.pair (.int .i64) (.int .i64))))) .str)))))))⟩], [⟨false, .own, (.int .i64)⟩]⟩
noncomputable def r6 (a : ((Int × (List ((Int × Int)) × Int)) × (Int × (Int × (Int × (Int × (Int × (List Int × ((Int × (Int × (Int × (Int × Int)))) × List UInt8))))))))) : Option Int :=
  Option.bind (r10 a.1) fun (y1 : Int) =>
    bif !(decide (y1 = (0 : Int))) then
      some y1
    else
      Option.bind (
        bif !(decide (a.2.1 < (1 : Int))) then
          some (decide ((8 : Int) < a.2.1))
        else
          some true) fun (d2 : Bool) =>
        bif d2 then
          some (3 : Int)
        else
          Option.bind (r11 (a.1, a.2)) fun (y3 : Bool) =>
            bif !(y3) then
              some (2 : Int)
            else
              Option.bind (r12 a.2) fun (y4 : Bool) =>
                bif !(y4) then
                  some (4 : Int)
                else
                  bif decide (a.2.1 = (1 : Int)) then
                    Option.bind (r13 a.2.2.2.2.2.2.2.1) fun (y5 : Int) =>
                      some y5
                  else
                    some (0 : Int)
def an6 : Ann := .two (.leaf) (.two (.two (.leaf) (.two (.leaf) (.two (.two (.leaf) (.leaf)) (.leaf)))) (.two (.one (.two (.join [2, 3] [2, 3] [⟨.normal, [], [.tmp 11 (.bool)]⟩] (.leaf)) (.two (.two (.leaf) (.leaf)) (.two (.leaf) (.two (.two (.leaf) (.leaf)) (.two (.leaf) (.two (.two (.leaf) (.leaf)) (.two (.leaf) (.two (.two (.leaf) (.leaf)) (.leaf)))))))))) (.two (.leaf) (.leaf))))
theorem s6 : SoundF cx.P cx.G 6 sg6 r6 := by
  have e : denF cx [(10, ⟨sg10, r10⟩), (11, ⟨sg11, r11⟩), (12, ⟨sg12, r12⟩), (13, ⟨sg13, r13⟩)] an6 Try.f6.ntmps (Try.f6.body.getD .skip) Try.f6.results.toList sg6 = r6 := by kernel_rfl
  rw [← e]
  exact sound_of_den (c := cx) (Known.cons (.ofF s10 (by kernel_rfl)) Try.func10 (by kernel_rfl) (by kernel_rfl) (Known.cons (.ofF s11 (by kernel_rfl)) Try.func11 (by kernel_rfl) (by kernel_rfl) (Known.cons (.ofF s12 (by kernel_rfl)) Try.func12 (by kernel_rfl) (by kernel_rfl) (Known.cons (.ofF s13 (by kernel_rfl)) Try.func13 (by kernel_rfl) (by kernel_rfl) (Known.nil))))) Try.func6 (by kernel_rfl) (Nat.le_of_ble_eq_true (by kernel_rfl)) rfl

/-! reredos/reredoskeep.ActBare -/
noncomputable def r3_L0 (y2 : List ((Int × (Int × (Int × (Int × (Int × (List Int × ((Int × (Int × (Int × (Int × Int)))) × List UInt8))))))))) (y1 : (Int × (List ((Int × Int)) × Int))) (d3 : Int) : Option (Int ⊕ (Unit ⊕ Bool)) :=
  bif decide (d3 < (↑y2.length : Int)) then
    bif inB d3 y2.length then
      Option.bind (idxN y2 (Int.toNat d3)) fun (x4 : (Int × (Int × (Int × (Int × (Int × (List Int × ((Int × (Int × (Int × (Int × Int)))) × List UInt8)))))))) =>
        Option.bind (r6 (y1, x4)) fun (y5 : Int) =>
          bif !(decide (y5 = (0 : Int))) then
            some (Sum.inr (Sum.inr false))
          else
            some (Sum.inl (Go.IntKind.wrap .i64 (d3 + (1 : Int))))
    else
      none
  else
    some (Sum.inr (Sum.inl ()))
def sg3 : Sig := ⟨[⟨false, .bo, (.sl (.pair (.int .i64) (.pair (.int .i64) (.pair (.int .i64) (.pair (.int .i64) (.pair (.int .i64) (.int .i64)))))))⟩, ⟨false, .bo, (.int .i64)⟩], [⟨false, .own, .bool⟩]⟩
noncomputable def r3 (a : (List ((Int × (Int × (Int × (Int × (Int × Int)))))) × Int)) : Option Bool :=
  Option.bind (r4 (1 : Int)) fun (y1 : (Int × (List ((Int × Int)) × Int))) =>
    Option.bind (r5 (y1, a.1, (20 : Int), true)) fun (y2 : List ((Int × (Int × (Int × (Int × (Int × (List Int × ((Int × (Int × (Int × (Int × Int)))) × List UInt8))))))))) =>
      Option.bind (loopR (r3_L0 y2 y1) (0 : Int)) fun (q6 : (Unit ⊕ Bool)) =>
        Sum.elim (fun (v7 : Unit) =>
            Option.bind (r7 (a.2, (↑([((5 : Int), ((1 : Int), ((0 : Int), ((0 : Int), ((0 : Int), ([], (((0 : Int), ((0 : Int), ((0 : Int), ((0 : Int), (0 : Int))))), ([] : List UInt8)))))))), ((7 : Int), ((0 : Int), ((0 : Int), ((1 : Int), ((0 : Int), ([], (((0 : Int), ((0 : Int), ((0 : Int), ((0 : Int), (0 : Int))))), ([] : List UInt8)))))))), ((1 : Int), ((0 : Int), ((0 : Int), ((0 : Int), ((1 : Int), ([], (((1 : Int), ((0 : Int), ((0 : Int), ((0 : Int), (0 : Int))))), ([] : List UInt8)))))))), ((2 : Int), ((0 : Int), ((0 : Int), ((0 : Int), ((0 : Int), ([], (((0 : Int), ((0 : Int), ((0 : Int), ((0 : Int), (0 : Int))))), ([120] : List UInt8)))))))), ((8 : Int), ((0 : Int), ((0 : Int), ((0 : Int), ((0 : Int), ([(0 : Int)], (((0 : Int), ((0 : Int), ((0 : Int), ((0 : Int), (0 : Int))))), ([] : List UInt8)))))))), ((1 : Int), ((0 : Int), ((0 : Int), ((0 : Int), ((0 : Int), ([], (((4 : Int), ((0 : Int), ((0 : Int), ((0 : Int), (1 : Int))))), ([] : List UInt8))))))))].length) : Int))) fun (y13 : Int) =>
              bif inB y13 ([((5 : Int), ((1 : Int), ((0 : Int), ((0 : Int), ((0 : Int), ([], (((0 : Int), ((0 : Int), ((0 : Int), ((0 : Int), (0 : Int))))), ([] : List UInt8)))))))), ((7 : Int), ((0 : Int), ((0 : Int), ((1 : Int), ((0 : Int), ([], (((0 : Int), ((0 : Int), ((0 : Int), ((0 : Int), (0 : Int))))), ([] : List UInt8)))))))), ((1 : Int), ((0 : Int), ((0 : Int), ((0 : Int), ((1 : Int), ([], (((1 : Int), ((0 : Int), ((0 : Int), ((0 : Int), (0 : Int))))), ([] : List UInt8)))))))), ((2 : Int), ((0 : Int), ((0 : Int), ((0 : Int), ((0 : Int), ([], (((0 : Int), ((0 : Int), ((0 : Int), ((0 : Int), (0 : Int))))), ([120] : List UInt8)))))))), ((8 : Int), ((0 : Int), ((0 : Int), ((0 : Int), ((0 : Int), ([(0 : Int)], (((0 : Int), ((0 : Int), ((0 : Int), ((0 : Int), (0 : Int))))), ([] : List UInt8)))))))), ((1 : Int), ((0 : Int), ((0 : Int), ((0 : Int), ((0 : Int), ([], (((4 : Int), ((0 : Int), ((0 : Int), ((0 : Int), (1 : Int))))), ([] : List UInt8))))))))].length) then
                Option.bind (idxN [((5 : Int), ((1 : Int), ((0 : Int), ((0 : Int), ((0 : Int), ([], (((0 : Int), ((0 : Int), ((0 : Int), ((0 : Int), (0 : Int))))), ([] : List UInt8)))))))), ((7 : Int), ((0 : Int), ((0 : Int), ((1 : Int), ((0 : Int), ([], (((0 : Int), ((0 : Int), ((0 : Int), ((0 : Int), (0 : Int))))), ([] : List UInt8)))))))), ((1 : Int), ((0 : Int), ((0 : Int), ((0 : Int), ((1 : Int), ([], (((1 : Int), ((0 : Int), ((0 : Int), ((0 : Int), (0 : Int))))), ([] : List UInt8)))))))), ((2 : Int), ((0 : Int), ((0 : Int), ((0 : Int), ((0 : Int), ([], (((0 : Int), ((0 : Int), ((0 : Int), ((0 : Int), (0 : Int))))), ([120] : List UInt8)))))))), ((8 : Int), ((0 : Int), ((0 : Int), ((0 : Int), ((0 : Int), ([(0 : Int)], (((0 : Int), ((0 : Int), ((0 : Int), ((0 : Int), (0 : Int))))), ([] : List UInt8)))))))), ((1 : Int), ((0 : Int), ((0 : Int), ((0 : Int), ((0 : Int), ([], (((4 : Int), ((0 : Int), ((0 : Int), ((0 : Int), (1 : Int))))), ([] : List UInt8))))))))] (Int.toNat y13)) fun (x14 : (Int × (Int × (Int × (Int × (Int × (List Int × ((Int × (Int × (Int × (Int × Int)))) × List UInt8)))))))) =>
                  Option.bind (r6 (y1, x14)) fun (y15 : Int) =>
                    bif decide (y15 = (4 : Int)) then
                      Option.bind (r6 (y1, ((0 : Int), ((0 : Int), ((0 : Int), ((0 : Int), ((0 : Int), ([], (((0 : Int), ((0 : Int), ((0 : Int), ((0 : Int), (0 : Int))))), ([] : List UInt8)))))))))) fun (y16 : Int) =>
                        some (decide (y16 = (3 : Int)))
                    else
                      some false
              else
                none)
          (fun (v8 : Bool) =>
            some v8) q6
def an3 : Ann := .two (.leaf) (.two (.leaf) (.two (.leaf) (.two (.two (.leaf) (.one (.loop [1, 5, 6, 22, 23] [5, 19, 22] [] [.tmp 24 (.int .i64)] [⟨.exit 0, [], []⟩, ⟨.ret, [], [.tmp 4 (.bool)]⟩] (.two (.leaf) (.two (.two (.leaf) (.leaf)) (.two (.one (.two (.leaf) (.two (.leaf) (.two (.two (.leaf) (.leaf)) (.leaf))))) (.leaf))))))) (.two (.draw 13) (.leaf)))))
theorem s3 : SoundF cx.P cx.G 3 sg3 r3 := by
  have e : denF cx [(4, ⟨sg4, r4⟩), (5, ⟨sg5, r5⟩), (6, ⟨sg6, r6⟩), (7, ⟨sg7, r7⟩)] an3 Try.f3.ntmps (Try.f3.body.getD .skip) Try.f3.results.toList sg3 = r3 := by kernel_rfl
  rw [← e]
  exact sound_of_den (c := cx) (Known.cons (.ofF s4 (by kernel_rfl)) Try.func4 (by kernel_rfl) (by kernel_rfl) (Known.cons (.ofF s5 (by kernel_rfl)) Try.func5 (by kernel_rfl) (by kernel_rfl) (Known.cons (.ofF s6 (by kernel_rfl)) Try.func6 (by kernel_rfl) (by kernel_rfl) (Known.cons (.ofF s7 (by kernel_rfl)) Try.func7 (by kernel_rfl) (by kernel_rfl) (Known.nil))))) Try.func3 (by kernel_rfl) (Nat.le_of_ble_eq_true (by kernel_rfl)) rfl

end Go.Hk
