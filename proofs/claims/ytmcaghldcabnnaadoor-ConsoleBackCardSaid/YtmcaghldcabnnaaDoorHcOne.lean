/- What the functions compute: written by gen.py. -/
import Derived.Test.YtmcaghldcabnnaaDoorLibJ
import Derived.Test.YtmcaghldcabnnaaDoorHcShelf
import Derived.Test.YtmcaghldcabnnaaDoorProg
import Derived.KernelRfl
namespace Go.Hc
open Go.RowKit Go.Proofs Go.V Go.Proofs
def tys : List (Nat × TyInfo) := [
  (3, ⟨.int .i64, 1, 8, [.int .i64 0], false, [none], [none], (.int .i64)⟩),
  (4, ⟨.bool, 1, 1, [.bool false], false, [none], [none], .bool⟩),
  (5, ⟨.int .u8, 1, 1, [.int .u8 0], false, [none], [none], (.int .u8)⟩),
  (9, ⟨.str, 1, 16, [.string ⟨#[]⟩], false, [none], [none], .str⟩),
  (21, ⟨.int .i32, 1, 4, [.int .i32 0], false, [none], [none], (.int .i32)⟩),
  (34, ⟨.int .i64, 1, 8, [.int .i64 0], false, [none], [none], (.int .i64)⟩),
  (44, ⟨.sl 9, 1, 24, [.slice none 0 0], false, [some .str], [none], (.sl .str)⟩),
  (49, ⟨.st [(0, 3), (1, 3)], 2, 16, [.int .i64 0, .int .i64 0], true, [none, none], [none, none], (.pair (.int .i64) (.int .i64))⟩),
  (51, ⟨.st [(0, 3), (1, 3), (2, 49), (4, 4)], 5, 40, [.int .i64 0, .int .i64 0, .int .i64 0, .int .i64 0, .bool false], true, [none, none, none, none, none], [none, none, none, none, none], (.pair (.int .i64) (.pair (.int .i64) (.pair (.pair (.int .i64) (.int .i64)) .bool)))⟩),
  (56, ⟨.sl 5, 1, 24, [.slice none 0 0], false, [some (.int .u8)], [none], (.sl (.int .u8))⟩),
  (70, ⟨.iface, 1, 16, [.nilIface], false, [none], [none], .unit⟩),
  (73, ⟨.arr 9 9, 9, 144, [.string ⟨#[]⟩, .string ⟨#[]⟩, .string ⟨#[]⟩, .string ⟨#[]⟩, .string ⟨#[]⟩, .string ⟨#[]⟩, .string ⟨#[]⟩, .string ⟨#[]⟩, .string ⟨#[]⟩], false, [none, none, none, none, none, none, none, none, none], [none, none, none, none, none, none, none, none, none], .unit⟩),
  (88, ⟨.st [(0, 44), (1, 4)], 2, 32, [.slice none 0 0, .bool false], false, [some .str, none], [none, none], (.pair (.rsl .str) .bool)⟩),
  (94, ⟨.arr 6 9, 6, 96, [.string ⟨#[]⟩, .string ⟨#[]⟩, .string ⟨#[]⟩, .string ⟨#[]⟩, .string ⟨#[]⟩, .string ⟨#[]⟩], false, [none, none, none, none, none, none], [none, none, none, none, none, none], .unit⟩),
  (115, ⟨.int .u64, 1, 8, [.int .u64 0], false, [none], [none], (.int .u64)⟩),
  (130, ⟨.arr 20 115, 20, 160, [.int .u64 0, .int .u64 0, .int .u64 0, .int .u64 0, .int .u64 0, .int .u64 0, .int .u64 0, .int .u64 0, .int .u64 0, .int .u64 0, .int .u64 0, .int .u64 0, .int .u64 0, .int .u64 0, .int .u64 0, .int .u64 0, .int .u64 0, .int .u64 0, .int .u64 0, .int .u64 0], false, [none, none, none, none, none, none, none, none, none, none, none, none, none, none, none, none, none, none, none, none], [none, none, none, none, none, none, none, none, none, none, none, none, none, none, none, none, none, none, none, none], .unit⟩),
  (144, ⟨.st [(0, 5), (1, 5)], 2, 2, [.int .u8 0, .int .u8 0], false, [none, none], [none, none], (.pair (.int .u8) (.int .u8))⟩),
  (145, ⟨.arr 16 144, 32, 32, [.int .u8 0, .int .u8 0, .int .u8 0, .int .u8 0, .int .u8 0, .int .u8 0, .int .u8 0, .int .u8 0, .int .u8 0, .int .u8 0, .int .u8 0, .int .u8 0, .int .u8 0, .int .u8 0, .int .u8 0, .int .u8 0, .int .u8 0, .int .u8 0, .int .u8 0, .int .u8 0, .int .u8 0, .int .u8 0, .int .u8 0, .int .u8 0, .int .u8 0, .int .u8 0, .int .u8 0, .int .u8 0, .int .u8 0, .int .u8 0, .int .u8 0, .int .u8 0], false, [none, none, none, none, none, none, none, none, none, none, none, none, none, none, none, none, none, none, none, none, none, none, none, none, none, none, none, none, none, none, none, none], [none, none, none, none, none, none, none, none, none, none, none, none, none, none, none, none, none, none, none, none, none, none, none, none, none, none, none, none, none, none, none, none], .unit⟩),
  (151, ⟨.arr 32 5, 32, 32, [.int .u8 0, .int .u8 0, .int .u8 0, .int .u8 0, .int .u8 0, .int .u8 0, .int .u8 0, .int .u8 0, .int .u8 0, .int .u8 0, .int .u8 0, .int .u8 0, .int .u8 0, .int .u8 0, .int .u8 0, .int .u8 0, .int .u8 0, .int .u8 0, .int .u8 0, .int .u8 0, .int .u8 0, .int .u8 0, .int .u8 0, .int .u8 0, .int .u8 0, .int .u8 0, .int .u8 0, .int .u8 0, .int .u8 0, .int .u8 0, .int .u8 0, .int .u8 0], false, [none, none, none, none, none, none, none, none, none, none, none, none, none, none, none, none, none, none, none, none, none, none, none, none, none, none, none, none, none, none, none, none], [none, none, none, none, none, none, none, none, none, none, none, none, none, none, none, none, none, none, none, none, none, none, none, none, none, none, none, none, none, none, none, none], .unit⟩),
  (152, ⟨.arr 64 5, 64, 64, [.int .u8 0, .int .u8 0, .int .u8 0, .int .u8 0, .int .u8 0, .int .u8 0, .int .u8 0, .int .u8 0, .int .u8 0, .int .u8 0, .int .u8 0, .int .u8 0, .int .u8 0, .int .u8 0, .int .u8 0, .int .u8 0, .int .u8 0, .int .u8 0, .int .u8 0, .int .u8 0, .int .u8 0, .int .u8 0, .int .u8 0, .int .u8 0, .int .u8 0, .int .u8 0, .int .u8 0, .int .u8 0, .int .u8 0, .int .u8 0, .int .u8 0, .int .u8 0, .int .u8 0, .int .u8 0, .int .u8 0, .int .u8 0, .int .u8 0, .int .u8 0, .int .u8 0, .int .u8 0, .int .u8 0, .int .u8 0, .int .u8 0, .int .u8 0, .int .u8 0, .int .u8 0, .int .u8 0, .int .u8 0, .int .u8 0, .int .u8 0, .int .u8 0, .int .u8 0, .int .u8 0, .int .u8 0, .int .u8 0, .int .u8 0, .int .u8 0, .int .u8 0, .int .u8 0, .int .u8 0, .int .u8 0, .int .u8 0, .int .u8 0, .int .u8 0], false, [none, none, none, none, none, none, none, none, none, none, none, none, none, none, none, none, none, none, none, none, none, none, none, none, none, none, none, none, none, none, none, none, none, none, none, none, none, none, none, none, none, none, none, none, none, none, none, none, none, none, none, none, none, none, none, none, none, none, none, none, none, none, none, none], [none, none, none, none, none, none, none, none, none, none, none, none, none, none, none, none, none, none, none, none, none, none, none, none, none, none, none, none, none, none, none, none, none, none, none, none, none, none, none, none, none, none, none, none, none, none, none, none, none, none, none, none, none, none, none, none, none, none, none, none, none, none, none, none], .unit⟩)]
theorem tysOk : TyOk Tryd.prog tys := tyOk_of fun e he => by
  simp only [tys, List.mem_cons, List.not_mem_nil, or_false] at he
  rcases he with rfl | rfl | rfl | rfl | rfl | rfl | rfl | rfl | rfl | rfl | rfl | rfl | rfl | rfl | rfl | rfl | rfl | rfl | rfl | rfl
  · exact ⟨by kernel_rfl, by kernel_rfl, fun h => nomatch h⟩
  · exact ⟨by kernel_rfl, by kernel_rfl, fun h => nomatch h⟩
  · exact ⟨by kernel_rfl, by kernel_rfl, fun h => nomatch h⟩
  · exact ⟨by kernel_rfl, by kernel_rfl, fun h => nomatch h⟩
  · exact ⟨by kernel_rfl, by kernel_rfl, fun h => nomatch h⟩
  · exact ⟨by kernel_rfl, by kernel_rfl, fun h => nomatch h⟩
  · exact ⟨by kernel_rfl, by kernel_rfl, fun h => nomatch h⟩
  · exact ⟨by kernel_rfl, by kernel_rfl, fun _ => ⟨by kernel_rfl, by kernel_rfl, by kernel_rfl⟩⟩
  · exact ⟨by kernel_rfl, by kernel_rfl, fun _ => ⟨by kernel_rfl, by kernel_rfl, by kernel_rfl⟩⟩
  · exact ⟨by kernel_rfl, by kernel_rfl, fun h => nomatch h⟩
  · exact ⟨by kernel_rfl, by kernel_rfl, fun h => nomatch h⟩
  · exact ⟨by kernel_rfl, by kernel_rfl, fun h => nomatch h⟩
  · exact ⟨by kernel_rfl, by kernel_rfl, fun h => nomatch h⟩
  · exact ⟨by kernel_rfl, by kernel_rfl, fun h => nomatch h⟩
  · exact ⟨by kernel_rfl, by kernel_rfl, fun h => nomatch h⟩
  · exact ⟨by kernel_rfl, by kernel_rfl, fun h => nomatch h⟩
  · exact ⟨by kernel_rfl, by kernel_rfl, fun h => nomatch h⟩
  · exact ⟨by kernel_rfl, by kernel_rfl, fun h => nomatch h⟩
  · exact ⟨by kernel_rfl, by kernel_rfl, fun h => nomatch h⟩
  · exact ⟨by kernel_rfl, by kernel_rfl, fun h => nomatch h⟩
def tab0 : List (List UInt8) := [([] : List UInt8),
  ([97, 115, 107] : List UInt8),
  ([100, 101, 108, 105, 118, 101, 114] : List UInt8),
  ([100, 114, 111, 112] : List UInt8),
  ([99, 111, 112, 121] : List UInt8),
  ([116, 105, 99, 107] : List UInt8),
  ([99, 114, 97, 115, 104] : List UInt8),
  ([115, 116, 97, 114, 116] : List UInt8),
  ([116, 121, 112, 101] : List UInt8)]
def tab1 : List (List UInt8) := [([] : List UInt8),
  ([98, 101, 103, 105, 110] : List UInt8),
  ([103, 101, 116] : List UInt8),
  ([112, 117, 116] : List UInt8),
  ([99, 111, 109, 109, 105, 116] : List UInt8),
  ([114, 111, 108, 108, 98, 97, 99, 107] : List UInt8)]
def tab3 : List Int := [(1 : Int),
  (10 : Int),
  (100 : Int),
  (1000 : Int),
  (10000 : Int),
  (100000 : Int),
  (1000000 : Int),
  (10000000 : Int),
  (100000000 : Int),
  (1000000000 : Int),
  (10000000000 : Int),
  (100000000000 : Int),
  (1000000000000 : Int),
  (10000000000000 : Int),
  (100000000000000 : Int),
  (1000000000000000 : Int),
  (10000000000000000 : Int),
  (100000000000000000 : Int),
  (1000000000000000000 : Int),
  (10000000000000000000 : Int)]
def tab7 : List (Int × Int) := [((128 : Int), (191 : Int)),
  ((160 : Int), (191 : Int)),
  ((128 : Int), (159 : Int)),
  ((144 : Int), (191 : Int)),
  ((128 : Int), (143 : Int)),
  ((0 : Int), (0 : Int)),
  ((0 : Int), (0 : Int)),
  ((0 : Int), (0 : Int)),
  ((0 : Int), (0 : Int)),
  ((0 : Int), (0 : Int)),
  ((0 : Int), (0 : Int)),
  ((0 : Int), (0 : Int)),
  ((0 : Int), (0 : Int)),
  ((0 : Int), (0 : Int)),
  ((0 : Int), (0 : Int)),
  ((0 : Int), (0 : Int))]
def tab8 : List Int := [(0 : Int),
  (1 : Int),
  (28 : Int),
  (2 : Int),
  (29 : Int),
  (14 : Int),
  (24 : Int),
  (3 : Int),
  (30 : Int),
  (22 : Int),
  (20 : Int),
  (15 : Int),
  (25 : Int),
  (17 : Int),
  (4 : Int),
  (8 : Int),
  (31 : Int),
  (27 : Int),
  (13 : Int),
  (23 : Int),
  (21 : Int),
  (19 : Int),
  (16 : Int),
  (7 : Int),
  (26 : Int),
  (12 : Int),
  (18 : Int),
  (6 : Int),
  (11 : Int),
  (5 : Int),
  (10 : Int),
  (9 : Int)]
def tab9 : List Int := [(0 : Int),
  (1 : Int),
  (56 : Int),
  (2 : Int),
  (57 : Int),
  (49 : Int),
  (28 : Int),
  (3 : Int),
  (61 : Int),
  (58 : Int),
  (42 : Int),
  (50 : Int),
  (38 : Int),
  (29 : Int),
  (17 : Int),
  (4 : Int),
  (62 : Int),
  (47 : Int),
  (59 : Int),
  (36 : Int),
  (45 : Int),
  (43 : Int),
  (51 : Int),
  (22 : Int),
  (53 : Int),
  (39 : Int),
  (33 : Int),
  (30 : Int),
  (24 : Int),
  (18 : Int),
  (12 : Int),
  (5 : Int),
  (63 : Int),
  (55 : Int),
  (48 : Int),
  (27 : Int),
  (60 : Int),
  (41 : Int),
  (37 : Int),
  (16 : Int),
  (46 : Int),
  (35 : Int),
  (44 : Int),
  (21 : Int),
  (52 : Int),
  (32 : Int),
  (23 : Int),
  (11 : Int),
  (54 : Int),
  (26 : Int),
  (40 : Int),
  (15 : Int),
  (34 : Int),
  (20 : Int),
  (31 : Int),
  (10 : Int),
  (25 : Int),
  (14 : Int),
  (19 : Int),
  (9 : Int),
  (13 : Int),
  (8 : Int),
  (7 : Int),
  (6 : Int)]
noncomputable def inls : List (Nat × Go.Func) := [(34, Tryd.f34), (35, Tryd.f35)]
theorem inlsOk : ∀ f fn, Go.V.look inls f = some fn → Tryd.prog.funcs[f]? = some fn ∧ (fn.name == "runtime.NumGoroutine") = false := inlOk_of fun e he => by
  simp only [inls, List.mem_cons, List.not_mem_nil, or_false] at he
  rcases he with rfl | rfl
  · exact ⟨Tryd.func34, by kernel_rfl⟩
  · exact ⟨Tryd.func35, by kernel_rfl⟩
noncomputable def cx : Ctx := ⟨Tryd.prog, tys, tysOk, [(3, .ga (.int .u64) tab3), (4, .pp .ro [.ifc false]), (5, .pp .ro [.ifc false])], 0, inls, inlsOk, by kernel_rfl⟩

/-! reredos/reredoskeep.picked -/
def sg15 : Sig := ⟨[⟨false, .bo, (.int .i64)⟩, ⟨false, .bo, (.int .i64)⟩], [⟨false, .own, (.int .i64)⟩]⟩
noncomputable def r15 (a : (Int × Int)) : Option Int :=
  Option.bind (
    bif decide (a.1 < (0 : Int)) then
      some (Go.IntKind.wrap .i64 (0 - (Go.IntKind.wrap .i64 (a.1 + (1 : Int)))))
    else
      some a.1) fun (d1 : Int) =>
    bif decide (a.2 = 0) then
      none
    else
      some (Int.tmod d1 a.2)
def an15 : Ann := .two (.leaf) (.two (.join [1] [] [⟨.normal, [], [.tmp 0 (.int .i64)]⟩] (.two (.leaf) (.two (.leaf) (.leaf)))) (.two (.leaf) (.leaf)))
theorem s15 : SoundF cx.P cx.G 15 sg15 r15 := by
  have e : denF cx [] an15 Tryd.f15.ntmps (Tryd.f15.body.getD .skip) Tryd.f15.results.toList sg15 = r15 := by kernel_rfl
  rw [← e]
  exact sound_of_den (c := cx) (Known.nil) Tryd.func15 (by kernel_rfl) (Nat.le_of_ble_eq_true (by kernel_rfl)) rfl

/-! strings.Count -/
def sg57 : Sig := ⟨[⟨false, .bo, .str⟩, ⟨false, .bo, .str⟩], [⟨false, .own, (.int .i64)⟩]⟩
noncomputable def r57 (a : (List UInt8 × List UInt8)) : Option Int := countByteR a
theorem s57 : SoundF cx.P cx.G 57 sg57 r57 := countByte_sound Tryd.strings_Count_one

/-! strings.Index -/
def sg58 : Sig := ⟨[⟨false, .bo, .str⟩, ⟨false, .bo, .str⟩], [⟨false, .own, (.int .i64)⟩]⟩
noncomputable def r58 (a : (List UInt8 × List UInt8)) : Option Int := indexOneR a
theorem s58 : SoundF cx.P cx.G 58 sg58 r58 := indexOne_sound Tryd.strings_Index_one

/-! strings.genSplit -/
noncomputable def r48_L0 (d4 : Int) (a : (List UInt8 × (List UInt8 × (Int × Int)))) (d8 : (List UInt8 × (Unit × (Int × List (List UInt8))))) : Option ((List UInt8 × (Unit × (Int × List (List UInt8)))) ⊕ (List UInt8 × (Unit × (Int × List (List UInt8))))) :=
  bif decide (d8.2.2.1 < (Go.IntKind.wrap .i64 ((min d4 (Go.IntKind.wrap .i64 ((↑a.1.length : Int) + (1 : Int)))) - (1 : Int)))) then
    Option.bind (r58 (d8.1, a.2.1)) fun (y9 : Int) =>
      bif decide (y9 < (0 : Int)) then
        some (Sum.inr (d8.1, ((), d8.2.2)))
      else
        bif okB none (some (Go.IntKind.wrap .i64 (y9 + a.2.2.1))) none d8.1.length then
          bif inB d8.2.2.1 d8.2.2.2.length then
            Option.bind (idxN d8.2.2.2 (Int.toNat d8.2.2.1)) fun (_ : List UInt8) =>
              bif okB (some (Go.IntKind.wrap .i64 (y9 + (↑a.2.1.length : Int)))) none none d8.1.length then
                some (Sum.inl ((List.drop (Int.toNat (Go.IntKind.wrap .i64 (y9 + (↑a.2.1.length : Int)))) d8.1), ((), ((Go.IntKind.wrap .i64 (d8.2.2.1 + (1 : Int))), List.set d8.2.2.2 (Int.toNat d8.2.2.1) (List.take (Int.toNat (Go.IntKind.wrap .i64 (y9 + a.2.2.1))) d8.1)))))
              else
                none
          else
            none
        else
          none
  else
    some (Sum.inr (d8.1, ((), d8.2.2)))
def sg48 : Sig := ⟨[⟨false, .bo, .str⟩, ⟨false, .bo, .str⟩, ⟨false, .bo, (.int .i64)⟩, ⟨false, .bo, (.int .i64)⟩], [⟨false, .own, (.sl .str)⟩]⟩
noncomputable def r48 (a : (List UInt8 × (List UInt8 × (Int × Int)))) : Option (List (List UInt8)) :=
  bif decide (a.2.2.2 = (0 : Int)) then
    some []
  else
    bif decide (a.2.1 = ([] : List UInt8)) then
      none
    else
      Option.bind (
        bif decide (a.2.2.2 < (0 : Int)) then
          Option.bind (r57 (a.1, a.2.1)) fun (y3 : Int) =>
            some (Go.IntKind.wrap .i64 (y3 + (1 : Int)))
        else
          some a.2.2.2) fun (d4 : Int) =>
        bif (decide (0 ≤ (min d4 (Go.IntKind.wrap .i64 ((↑a.1.length : Int) + (1 : Int))))) && (decide ((min d4 (Go.IntKind.wrap .i64 ((↑a.1.length : Int) + (1 : Int)))) ≤ (min d4 (Go.IntKind.wrap .i64 ((↑a.1.length : Int) + (1 : Int))))) && (decide ((16 : Int) * (min d4 (Go.IntKind.wrap .i64 ((↑a.1.length : Int) + (1 : Int)))) ≤ 281474976710656) && decide ((min d4 (Go.IntKind.wrap .i64 ((↑a.1.length : Int) + (1 : Int)))) ≤ 9223372036854775807)))) then
          Option.bind (loopR (r48_L0 d4 a) (a.1, ((), ((0 : Int), List.replicate (Int.toNat (min d4 (Go.IntKind.wrap .i64 ((↑a.1.length : Int) + (1 : Int))))) ([] : List UInt8))))) fun (q11 : (List UInt8 × (Unit × (Int × List (List UInt8))))) =>
            bif inB q11.2.2.1 q11.2.2.2.length then
              Option.bind (idxN q11.2.2.2 (Int.toNat q11.2.2.1)) fun (_ : List UInt8) =>
                bif okB none (some (Go.IntKind.wrap .i64 (q11.2.2.1 + (1 : Int)))) none ((List.set q11.2.2.2 (Int.toNat q11.2.2.1) q11.1).length) then
                  some (midL (List.set q11.2.2.2 (Int.toNat q11.2.2.1) q11.1) 0 (Int.toNat (Go.IntKind.wrap .i64 (q11.2.2.1 + (1 : Int)))))
                else
                  none
            else
              none
        else
          none
def an48 : Ann := .two (.leaf) (.two (.two (.leaf) (.two (.two (.leaf) (.leaf)) (.leaf))) (.two (.two (.leaf) (.two (.two (.leaf) .leaf) (.leaf))) (.two (.join [0, 1, 2] [] [⟨.normal, [], [.tmp 3 (.int .i64)]⟩] (.two (.leaf) (.two (.leaf) (.leaf)))) (.two (.leaf) (.two (.leaf) (.two (.leaf) (.two (.leaf) (.two (.one (.loop [1, 2, 3] [] [] [.tmp 0 (.str), .tmp 9 (.own 31 [(0, 0)] .str), .tmp 10 (.int .i64), .row 31 [.sl .own .str]] [⟨.exit 0, [], [.tmp 0 (.str), .tmp 9 (.own 31 [(0, 0)] .str), .tmp 10 (.int .i64), .row 31 [.sl .own .str]]⟩] (.two (.two (.leaf) (.two (.leaf) (.leaf))) (.one (.two (.leaf) (.two (.two (.leaf) (.two (.leaf) (.leaf))) (.two (.leaf) (.two (.leaf) (.leaf))))))))) (.two (.leaf) (.two (.leaf) (.leaf)))))))))))
theorem s48 : SoundF cx.P cx.G 48 sg48 r48 := by
  have e : denF cx [(57, ⟨sg57, r57⟩), (58, ⟨sg58, r58⟩)] an48 Tryd.f48.ntmps (Tryd.f48.body.getD .skip) Tryd.f48.results.toList sg48 = r48 := by kernel_rfl
  rw [← e]
  exact sound_of_den (c := cx) (Known.cons (.ofF s57 (by kernel_rfl)) Tryd.func57 (by kernel_rfl) (by kernel_rfl) (Known.cons (.ofF s58 (by kernel_rfl)) Tryd.func58 (by kernel_rfl) (by kernel_rfl) (Known.nil))) Tryd.func48 (by kernel_rfl) (Nat.le_of_ble_eq_true (by kernel_rfl)) rfl

/-! strings.Split -/
def sg33 : Sig := ⟨[⟨false, .bo, .str⟩, ⟨false, .bo, .str⟩], [⟨false, .own, (.sl .str)⟩]⟩
noncomputable def r33 (a : (List UInt8 × List UInt8)) : Option (List (List UInt8)) :=
  Option.bind (r48 (a.1, a.2, (0 : Int), (-1 : Int))) fun (y1 : List (List UInt8)) =>
    some y1
def an33 : Ann := .two (.leaf) (.two (.leaf) (.leaf))
theorem s33 : SoundF cx.P cx.G 33 sg33 r33 := by
  have e : denF cx [(48, ⟨sg48, r48⟩)] an33 Tryd.f33.ntmps (Tryd.f33.body.getD .skip) Tryd.f33.results.toList sg33 = r33 := by kernel_rfl
  rw [← e]
  exact sound_of_den (c := cx) (Known.cons (.ofF s48 (by kernel_rfl)) Tryd.func48 (by kernel_rfl) (by kernel_rfl) (Known.nil)) Tryd.func33 (by kernel_rfl) (Nat.le_of_ble_eq_true (by kernel_rfl)) rfl

/-! strconv.Itoa -/
def sg24 : Sig := ⟨[⟨false, .bo, (.int .i64)⟩], [⟨false, .own, .str⟩]⟩
noncomputable def r24 (a : Int) : Option (List UInt8) := itoaR a
theorem s24 : SoundF cx.P cx.G 24 sg24 r24 := itoa_sound (g := 3) Tryd.strconv_Itoa (by kernel_rfl) (show Go.V.look cx.G 3 = some (.ga (.int .u64) tab3) by kernel_rfl) (by kernel_rfl)

/-! strconv.Atoi -/
def sg49 : Sig := ⟨[⟨false, .bo, .str⟩], [⟨false, .own, (.int .i64)⟩, ⟨false, .own, .ifc⟩]⟩
noncomputable def r49 (a : List UInt8) : Option (Int × Bool) := atoiR a
theorem s49 : SoundF cx.P cx.G 49 sg49 r49 := atoi_sound (g1 := 4) (g2 := 5) Tryd.strconv_Atoi_ok Tryd.strconv_Atoi_syntax Tryd.strconv_Atoi_range (by kernel_rfl) (by kernel_rfl)

/-! reredos/console.Read -/
def sg17 : Sig := ⟨[⟨false, .bo, .str⟩], [⟨true, .own, (.pair (.int .i64) (.pair (.int .i64) (.pair (.pair (.int .i64) (.int .i64)) .bool)))⟩, ⟨false, .own, (.int .i64)⟩]⟩
noncomputable def r17 (a : List UInt8) : Option ((Int × (Int × ((Int × Int) × Bool))) × Int) :=
  bif decide ((60 : Int) < (↑a.length : Int)) then
    some (((0 : Int), ((0 : Int), (((0 : Int), (0 : Int)), false))), (1 : Int))
  else
    Option.bind (r33 (a, ([32] : List UInt8))) fun (y1 : List (List UInt8)) =>
      Option.bind (
        Option.bind (
          bif decide ((↑y1.length : Int) = (0 : Int)) then
            some ((), (([] : List UInt8), (y1, true)))
          else
            bif inB (0 : Int) y1.length then
              Option.bind (idxN y1 0) fun (x12 : List UInt8) =>
                bif okB (some (1 : Int)) none none y1.length then
                  some ((), (x12, (midL y1 1 (y1.length - 1), false)))
                else
                  none
            else
              none) fun (d13 : (Unit × (List UInt8 × (List (List UInt8) × Bool)))) =>
          bif decide (d13.2.1 = ([108, 105, 115, 116] : List UInt8)) then
            some (Sum.inl ((), ((), ((), (((0 : Int), ((0 : Int), ((0 : Int), ((0 : Int), false)))), (d13.2.2, ((1 : Int), ((0 : Int), ((0 : Int), ((0 : Int), false))))))))))
          else
            bif decide (d13.2.1 = ([97, 117, 100, 105, 116] : List UInt8)) then
              some (Sum.inl ((), ((), ((), (((0 : Int), ((0 : Int), ((0 : Int), ((0 : Int), false)))), (d13.2.2, ((4 : Int), ((0 : Int), ((0 : Int), ((0 : Int), false))))))))))
            else
              bif decide (d13.2.1 = ([115, 116, 97, 116, 117, 115] : List UInt8)) then
                some (Sum.inl ((), ((), ((), (((0 : Int), ((0 : Int), ((0 : Int), ((0 : Int), false)))), (d13.2.2, ((2 : Int), ((0 : Int), ((0 : Int), ((0 : Int), false))))))))))
              else
                bif decide (d13.2.1 = ([102, 111, 114, 99, 101] : List UInt8)) then
                  some (Sum.inl ((), ((), ((), (((0 : Int), ((0 : Int), ((0 : Int), ((0 : Int), false)))), (d13.2.2, ((3 : Int), ((0 : Int), ((0 : Int), ((0 : Int), false))))))))))
                else
                  some (Sum.inr ((), ((4 : Int), ((0 : Int), ((0 : Int), ((0 : Int), ((0 : Int), false)))))))) fun (d14 : ((Unit × (Unit × (Unit × ((Int × (Int × (Int × (Int × Bool)))) × ((List (List UInt8) × Bool) × (Int × (Int × (Int × (Int × Bool))))))))) ⊕ (Unit × (Int × (Int × (Int × (Int × (Int × Bool)))))))) =>
        Sum.elim (fun (v15 : (Unit × (Unit × (Unit × ((Int × (Int × (Int × (Int × Bool)))) × ((List (List UInt8) × Bool) × (Int × (Int × (Int × (Int × Bool)))))))))) =>
            Option.bind (
              Option.bind (
                bif !(decide (v15.2.2.2.2.2.1 = (2 : Int))) then
                  some (decide (v15.2.2.2.2.2.1 = (3 : Int)))
                else
                  some true) fun (d295 : Bool) =>
                bif d295 then
                  Option.bind (
                    Option.bind (
                      bif decide ((↑v15.2.2.2.2.1.1.length : Int) = (0 : Int)) then
                        some ((), ((), (([] : List UInt8), (v15.2.2.2.2.1.1, true))))
                      else
                        bif inB (0 : Int) v15.2.2.2.2.1.1.length then
                          Option.bind (idxN v15.2.2.2.2.1.1 0) fun (x328 : List UInt8) =>
                            bif okB (some (1 : Int)) none none v15.2.2.2.2.1.1.length then
                              some ((), ((), (x328, (midL v15.2.2.2.2.1.1 1 (v15.2.2.2.2.1.1.length - 1), v15.2.2.2.2.1.2))))
                            else
                              none
                        else
                          none) fun (d329 : (Unit × (Unit × (List UInt8 × (List (List UInt8) × Bool))))) =>
                      Option.bind (r49 d329.2.2.1) fun (y330 : (Int × Bool)) =>
                        Option.bind (
                          Option.bind (
                            bif !(!(y330.2)) then
                              Option.bind (r24 y330.1) fun (y337 : List UInt8) =>
                                some (!(decide (y337 = d329.2.2.1)))
                            else
                              some true) fun (g338 : Bool) =>
                            Option.bind (
                              bif !(g338) then
                                some (decide (y330.1 < (0 : Int)))
                              else
                                some true) fun (g339 : Bool) =>
                              bif !(g339) then
                                some (decide ((5 : Int) < y330.1))
                              else
                                some true) fun (d340 : Bool) =>
                          bif d340 then
                            some ((), ((0 : Int), (d329.2.2.2.1, true)))
                          else
                            some ((), (y330.1, d329.2.2.2))) fun (d341 : (Unit × (Int × (List (List UInt8) × Bool)))) =>
                    Option.bind (
                      Option.bind (
                        bif decide ((↑d341.2.2.1.length : Int) = (0 : Int)) then
                          some ((), ((), (([] : List UInt8), (d341.2.2.1, true))))
                        else
                          bif inB (0 : Int) d341.2.2.1.length then
                            Option.bind (idxN d341.2.2.1 0) fun (x374 : List UInt8) =>
                              bif okB (some (1 : Int)) none none d341.2.2.1.length then
                                some ((), ((), (x374, (midL d341.2.2.1 1 (d341.2.2.1.length - 1), d341.2.2.2))))
                              else
                                none
                          else
                            none) fun (d375 : (Unit × (Unit × (List UInt8 × (List (List UInt8) × Bool))))) =>
                        Option.bind (r49 d375.2.2.1) fun (y376 : (Int × Bool)) =>
                          Option.bind (
                            Option.bind (
                              bif !(!(y376.2)) then
                                Option.bind (r24 y376.1) fun (y383 : List UInt8) =>
                                  some (!(decide (y383 = d375.2.2.1)))
                              else
                                some true) fun (g384 : Bool) =>
                              Option.bind (
                                bif !(g384) then
                                  some (decide (y376.1 < (0 : Int)))
                                else
                                  some true) fun (g385 : Bool) =>
                                bif !(g385) then
                                  some (decide ((3 : Int) < y376.1))
                                else
                                  some true) fun (d386 : Bool) =>
                            bif d386 then
                              some ((), ((0 : Int), (d375.2.2.2.1, true)))
                            else
                              some ((), (y376.1, d375.2.2.2))) fun (d387 : (Unit × (Int × (List (List UInt8) × Bool)))) =>
                      Option.bind (
                        Option.bind (
                          bif decide ((↑d387.2.2.1.length : Int) = (0 : Int)) then
                            some ((), ((), (([] : List UInt8), (d387.2.2.1, true))))
                          else
                            bif inB (0 : Int) d387.2.2.1.length then
                              Option.bind (idxN d387.2.2.1 0) fun (x420 : List UInt8) =>
                                bif okB (some (1 : Int)) none none d387.2.2.1.length then
                                  some ((), ((), (x420, (midL d387.2.2.1 1 (d387.2.2.1.length - 1), d387.2.2.2))))
                                else
                                  none
                            else
                              none) fun (d421 : (Unit × (Unit × (List UInt8 × (List (List UInt8) × Bool))))) =>
                          Option.bind (r49 d421.2.2.1) fun (y422 : (Int × Bool)) =>
                            Option.bind (
                              Option.bind (
                                bif !(!(y422.2)) then
                                  Option.bind (r24 y422.1) fun (y429 : List UInt8) =>
                                    some (!(decide (y429 = d421.2.2.1)))
                                else
                                  some true) fun (g430 : Bool) =>
                                Option.bind (
                                  bif !(g430) then
                                    some (decide (y422.1 < (0 : Int)))
                                  else
                                    some true) fun (g431 : Bool) =>
                                  bif !(g431) then
                                    some (decide ((1048576 : Int) < y422.1))
                                  else
                                    some true) fun (d432 : Bool) =>
                              bif d432 then
                                some ((), ((0 : Int), (d421.2.2.2.1, true)))
                              else
                                some ((), (y422.1, d421.2.2.2))) fun (d433 : (Unit × (Int × (List (List UInt8) × Bool)))) =>
                        some ((), ((), (d433.2.2, (v15.2.2.2.2.2.1, (d341.2.1, (d387.2.1, (d433.2.1, v15.2.2.2.2.2.2.2.2.2)))))))
                else
                  some ((), ((), v15.2.2.2.2))) fun (d434 : (Unit × (Unit × ((List (List UInt8) × Bool) × (Int × (Int × (Int × (Int × Bool)))))))) =>
              Option.bind (
                bif decide (d434.2.2.2.1 = (3 : Int)) then
                  Option.bind (
                    bif decide ((↑d434.2.2.1.1.length : Int) = (0 : Int)) then
                      some ((), (([] : List UInt8), (d434.2.2.1.1, true)))
                    else
                      bif inB (0 : Int) d434.2.2.1.1.length then
                        Option.bind (idxN d434.2.2.1.1 0) fun (x447 : List UInt8) =>
                          bif okB (some (1 : Int)) none none d434.2.2.1.1.length then
                            some ((), (x447, (midL d434.2.2.1.1 1 (d434.2.2.1.1.length - 1), d434.2.2.1.2)))
                          else
                            none
                      else
                        none) fun (d448 : (Unit × (List UInt8 × (List (List UInt8) × Bool)))) =>
                    Option.bind (
                      bif !(d448.2.2.2) then
                        bif !(decide (d448.2.1 = ([99, 111, 109, 109, 105, 116] : List UInt8))) then
                          some ((), !(decide (d448.2.1 = ([97, 98, 111, 114, 116] : List UInt8))))
                        else
                          some ((), false)
                      else
                        some ((), true)) fun (g449 : (Unit × Bool)) =>
                      some ((), ((), ((d448.2.2.1, g449.2), (d434.2.2.2.1, (d434.2.2.2.2.1, (d434.2.2.2.2.2.1, (d434.2.2.2.2.2.2.1, decide (d448.2.1 = ([99, 111, 109, 109, 105, 116] : List UInt8)))))))))
                else
                  some ((), ((), d434.2.2))) fun (d450 : (Unit × (Unit × ((List (List UInt8) × Bool) × (Int × (Int × (Int × (Int × Bool)))))))) =>
                Option.bind (
                  bif !(d450.2.2.1.2) then
                    some (decide ((0 : Int) < (↑d450.2.2.1.1.length : Int)))
                  else
                    some true) fun (d451 : Bool) =>
                  bif d451 then
                    some (((0 : Int), ((0 : Int), (((0 : Int), (0 : Int)), false))), (4 : Int))
                  else
                    some ((d450.2.2.2.1, (d450.2.2.2.2.1, ((d450.2.2.2.2.2.1, d450.2.2.2.2.2.2.1), d450.2.2.2.2.2.2.2))), (0 : Int)))
          (fun (v16 : (Unit × (Int × (Int × (Int × (Int × (Int × Bool))))))) =>
            some ((v16.2.2.1, (v16.2.2.2.1, ((v16.2.2.2.2.1, v16.2.2.2.2.2.1), v16.2.2.2.2.2.2))), v16.2.1)) d14
def an17 : Ann := .two (.leaf) (.two (.two (.leaf) (.two (.two (.leaf) (.leaf)) (.leaf))) (.two (.leaf) (.two (.leaf) (.two (.join [] [] [⟨.normal, [], [.tmp 2 (.pt 2 [(0, 0)] 0 0 5), .tmp 4 (.pt 14 [(0, 0)] 0 0 2), .tmp 5 (.pt 5 [(0, 0)] 0 0 5), .box 2 [.int .i64, .int .i64, .int .i64, .int .i64, .bool], .box 14 [.sl .own .str, .bool], .box 5 [.int .i64, .int .i64, .int .i64, .int .i64, .bool]]⟩, ⟨.ret, [], [.tmp 2 (.pt 2 [(0, 0)] 0 0 5), .tmp 3 (.int .i64), .box 2 [.int .i64, .int .i64, .int .i64, .int .i64, .bool]]⟩] (.two (.inl 1 86 (.join [2, 5] [2, 5] [⟨.ret, [], [.tmp 4 (.pt 14 [(0, 0)] 0 0 2), .tmp 88 (.str), .box 14 [.sl .own .str, .bool]]⟩] (.two (.leaf) (.two (.two (.leaf) (.two (.two (.leaf) (.two (.leaf) (.leaf))) (.leaf))) (.two (.leaf) (.two (.leaf) (.two (.leaf) (.leaf))))))) (.leaf)) (.one (.two (.leaf) (.two (.leaf) (.two (.leaf) (.two (.leaf) (.two (.leaf) (.two (.leaf) (.two (.leaf) (.two (.leaf) (.two (.leaf) (.leaf))))))))))))) (.two (.join [2] [2] [⟨.normal, [], [.tmp 4 (.pt 14 [(0, 0)] 0 0 2), .tmp 5 (.pt 5 [(0, 0)] 0 0 5), .box 14 [.sl .own .str, .bool], .box 5 [.int .i64, .int .i64, .int .i64, .int .i64, .bool]]⟩] (.two (.join [2, 4, 5] [2, 5, 14] [⟨.normal, [], [.tmp 37 (.bool)]⟩] (.leaf)) (.two (.two (.inl 1 114 (.join [2, 5] [2, 5] [⟨.ret, [], [.tmp 4 (.pt 14 [(0, 0)] 0 0 2), .tmp 118 (.int .i64), .box 14 [.sl .own .str, .bool]]⟩] (.two (.leaf) (.two (.inl 1 150 (.join [2, 5, 115] [2, 5] [⟨.ret, [], [.tmp 4 (.pt 14 [(0, 0)] 0 0 2), .tmp 114 (.pt 14 [(0, 0)] 0 0 2), .tmp 152 (.str), .box 14 [.sl .own .str, .bool]]⟩] (.two (.leaf) (.two (.two (.leaf) (.two (.two (.leaf) (.two (.leaf) (.leaf))) (.leaf))) (.two (.leaf) (.two (.leaf) (.two (.leaf) (.leaf))))))) (.leaf)) (.two (.leaf) (.two (.two (.join [2, 4, 5, 114, 120] [2, 5, 14] [⟨.normal, [], [.tmp 145 (.bool)]⟩] (.segs [(8, ([2, 4, 5, 114, 115, 120], ([2, 5, 14], [.tmp 136 (.bool)]))), (4, ([2, 4, 5, 114, 115, 120], ([2, 5, 14], [.tmp 140 (.bool)])))])) (.two (.two (.leaf) (.two (.leaf) (.leaf))) (.leaf))) (.two (.leaf) (.leaf))))))) (.leaf)) (.two (.inl 1 178 (.join [2, 5] [2, 5] [⟨.ret, [], [.tmp 4 (.pt 14 [(0, 0)] 0 0 2), .tmp 182 (.int .i64), .box 14 [.sl .own .str, .bool]]⟩] (.two (.leaf) (.two (.inl 1 214 (.join [2, 5, 179] [2, 5] [⟨.ret, [], [.tmp 4 (.pt 14 [(0, 0)] 0 0 2), .tmp 178 (.pt 14 [(0, 0)] 0 0 2), .tmp 216 (.str), .box 14 [.sl .own .str, .bool]]⟩] (.two (.leaf) (.two (.two (.leaf) (.two (.two (.leaf) (.two (.leaf) (.leaf))) (.leaf))) (.two (.leaf) (.two (.leaf) (.two (.leaf) (.leaf))))))) (.leaf)) (.two (.leaf) (.two (.two (.join [2, 4, 5, 178, 184] [2, 5, 14] [⟨.normal, [], [.tmp 209 (.bool)]⟩] (.segs [(8, ([2, 4, 5, 178, 179, 184], ([2, 5, 14], [.tmp 200 (.bool)]))), (4, ([2, 4, 5, 178, 179, 184], ([2, 5, 14], [.tmp 204 (.bool)])))])) (.two (.two (.leaf) (.two (.leaf) (.leaf))) (.leaf))) (.two (.leaf) (.leaf))))))) (.leaf)) (.inl 1 242 (.join [2, 5] [2, 5] [⟨.ret, [], [.tmp 4 (.pt 14 [(0, 0)] 0 0 2), .tmp 246 (.int .i64), .box 14 [.sl .own .str, .bool]]⟩] (.two (.leaf) (.two (.inl 1 278 (.join [2, 5, 243] [2, 5] [⟨.ret, [], [.tmp 4 (.pt 14 [(0, 0)] 0 0 2), .tmp 242 (.pt 14 [(0, 0)] 0 0 2), .tmp 280 (.str), .box 14 [.sl .own .str, .bool]]⟩] (.two (.leaf) (.two (.two (.leaf) (.two (.two (.leaf) (.two (.leaf) (.leaf))) (.leaf))) (.two (.leaf) (.two (.leaf) (.two (.leaf) (.leaf))))))) (.leaf)) (.two (.leaf) (.two (.two (.join [2, 4, 5, 242, 248] [2, 5, 14] [⟨.normal, [], [.tmp 273 (.bool)]⟩] (.segs [(8, ([2, 4, 5, 242, 243, 248], ([2, 5, 14], [.tmp 264 (.bool)]))), (4, ([2, 4, 5, 242, 243, 248], ([2, 5, 14], [.tmp 268 (.bool)])))])) (.two (.two (.leaf) (.two (.leaf) (.leaf))) (.leaf))) (.two (.leaf) (.leaf))))))) (.leaf)))) (.leaf)))) (.two (.join [2] [2] [⟨.normal, [], [.tmp 4 (.pt 14 [(0, 0)] 0 0 2), .tmp 5 (.pt 5 [(0, 0)] 0 0 5), .box 14 [.sl .own .str, .bool], .box 5 [.int .i64, .int .i64, .int .i64, .int .i64, .bool]]⟩] (.two (.leaf) (.two (.two (.inl 1 306 (.join [2, 5] [2, 5] [⟨.ret, [], [.tmp 4 (.pt 14 [(0, 0)] 0 0 2), .tmp 308 (.str), .box 14 [.sl .own .str, .bool]]⟩] (.two (.leaf) (.two (.two (.leaf) (.two (.two (.leaf) (.two (.leaf) (.leaf))) (.leaf))) (.two (.leaf) (.two (.leaf) (.two (.leaf) (.leaf))))))) (.leaf)) (.two (.leaf) (.segs [(13, ([2, 4, 5], ([2, 5, 14], [.tmp 57 (.pt 14 [(0, 0)] 0 0 2), .tmp 69 (.bool)])))]))) (.leaf)))) (.two (.two (.join [2, 5] [2, 5] [⟨.normal, [], [.tmp 83 (.bool)]⟩] (.leaf)) (.two (.two (.leaf) (.leaf)) (.leaf))) (.two (.leaf) (.leaf)))))))))
theorem s17 : SoundF cx.P cx.G 17 sg17 r17 := by
  have e : denF cx [(24, ⟨sg24, r24⟩), (33, ⟨sg33, r33⟩), (49, ⟨sg49, r49⟩)] an17 Tryd.f17.ntmps (Tryd.f17.body.getD .skip) Tryd.f17.results.toList sg17 = r17 := by kernel_rfl
  rw [← e]
  exact sound_of_den (c := cx) (Known.cons (.ofF s24 (by kernel_rfl)) Tryd.func24 (by kernel_rfl) (by kernel_rfl) (Known.cons (.ofF s33 (by kernel_rfl)) Tryd.func33 (by kernel_rfl) (by kernel_rfl) (Known.cons (.ofF s49 (by kernel_rfl)) Tryd.func49 (by kernel_rfl) (by kernel_rfl) (Known.nil)))) Tryd.func17 (by kernel_rfl) (Nat.le_of_ble_eq_true (by kernel_rfl)) rfl

/-! reredos/reredoskeep.ConsoleBad -/
def sg8 : Sig := ⟨[⟨false, .bo, (.int .i64)⟩, ⟨false, .bo, (.int .i64)⟩], [⟨false, .own, .bool⟩]⟩
noncomputable def r8 (a : (Int × Int)) : Option Bool :=
  Option.bind (r15 (a.1, (↑([([] : List UInt8), ([76, 105, 115, 116] : List UInt8), ([108, 105, 115, 116, 32, 49] : List UInt8), ([115, 116, 97, 116, 117, 115] : List UInt8), ([115, 116, 97, 116, 117, 115, 32, 48, 32, 48] : List UInt8), ([115, 116, 97, 116, 117, 115, 32, 48, 32, 48, 32, 45, 49] : List UInt8), ([115, 116, 97, 116, 117, 115, 32, 48, 32, 48, 32, 48, 49] : List UInt8), ([115, 116, 97, 116, 117, 115, 32, 54, 32, 48, 32, 49] : List UInt8), ([115, 116, 97, 116, 117, 115, 32, 48, 32, 52, 32, 49] : List UInt8), ([115, 116, 97, 116, 117, 115, 32, 48, 32, 48, 32, 49, 48, 52, 56, 53, 55, 55] : List UInt8), ([102, 111, 114, 99, 101, 32, 48, 32, 48, 32, 49] : List UInt8), ([102, 111, 114, 99, 101, 32, 48, 32, 48, 32, 49, 32, 109, 97, 121, 98, 101] : List UInt8), ([102, 111, 114, 99, 101, 32, 48, 32, 48, 32, 49, 32, 32, 99, 111, 109, 109, 105, 116] : List UInt8), ([97, 117, 100, 105, 116, 10] : List UInt8)].length) : Int))) fun (y1 : Int) =>
    bif inB y1 ([([] : List UInt8), ([76, 105, 115, 116] : List UInt8), ([108, 105, 115, 116, 32, 49] : List UInt8), ([115, 116, 97, 116, 117, 115] : List UInt8), ([115, 116, 97, 116, 117, 115, 32, 48, 32, 48] : List UInt8), ([115, 116, 97, 116, 117, 115, 32, 48, 32, 48, 32, 45, 49] : List UInt8), ([115, 116, 97, 116, 117, 115, 32, 48, 32, 48, 32, 48, 49] : List UInt8), ([115, 116, 97, 116, 117, 115, 32, 54, 32, 48, 32, 49] : List UInt8), ([115, 116, 97, 116, 117, 115, 32, 48, 32, 52, 32, 49] : List UInt8), ([115, 116, 97, 116, 117, 115, 32, 48, 32, 48, 32, 49, 48, 52, 56, 53, 55, 55] : List UInt8), ([102, 111, 114, 99, 101, 32, 48, 32, 48, 32, 49] : List UInt8), ([102, 111, 114, 99, 101, 32, 48, 32, 48, 32, 49, 32, 109, 97, 121, 98, 101] : List UInt8), ([102, 111, 114, 99, 101, 32, 48, 32, 48, 32, 49, 32, 32, 99, 111, 109, 109, 105, 116] : List UInt8), ([97, 117, 100, 105, 116, 10] : List UInt8)].length) then
      Option.bind (idxN [([] : List UInt8), ([76, 105, 115, 116] : List UInt8), ([108, 105, 115, 116, 32, 49] : List UInt8), ([115, 116, 97, 116, 117, 115] : List UInt8), ([115, 116, 97, 116, 117, 115, 32, 48, 32, 48] : List UInt8), ([115, 116, 97, 116, 117, 115, 32, 48, 32, 48, 32, 45, 49] : List UInt8), ([115, 116, 97, 116, 117, 115, 32, 48, 32, 48, 32, 48, 49] : List UInt8), ([115, 116, 97, 116, 117, 115, 32, 54, 32, 48, 32, 49] : List UInt8), ([115, 116, 97, 116, 117, 115, 32, 48, 32, 52, 32, 49] : List UInt8), ([115, 116, 97, 116, 117, 115, 32, 48, 32, 48, 32, 49, 48, 52, 56, 53, 55, 55] : List UInt8), ([102, 111, 114, 99, 101, 32, 48, 32, 48, 32, 49] : List UInt8), ([102, 111, 114, 99, 101, 32, 48, 32, 48, 32, 49, 32, 109, 97, 121, 98, 101] : List UInt8), ([102, 111, 114, 99, 101, 32, 48, 32, 48, 32, 49, 32, 32, 99, 111, 109, 109, 105, 116] : List UInt8), ([97, 117, 100, 105, 116, 10] : List UInt8)] (Int.toNat y1)) fun (x2 : List UInt8) =>
        Option.bind (r17 x2) fun (y3 : ((Int × (Int × ((Int × Int) × Bool))) × Int)) =>
          Option.bind (r15 (a.2, (9 : Int))) fun (y4 : Int) =>
            bif (decide (0 ≤ (Go.IntKind.wrap .i64 ((61 : Int) + y4))) && (decide ((Go.IntKind.wrap .i64 ((61 : Int) + y4)) ≤ (Go.IntKind.wrap .i64 ((61 : Int) + y4))) && (decide ((1 : Int) * (Go.IntKind.wrap .i64 ((61 : Int) + y4)) ≤ 281474976710656) && decide ((Go.IntKind.wrap .i64 ((61 : Int) + y4)) ≤ 9223372036854775807)))) then
              Option.bind (r17 (List.map byte8 (List.replicate (Int.toNat (Go.IntKind.wrap .i64 ((61 : Int) + y4))) (0 : Int)))) fun (y5 : ((Int × (Int × ((Int × Int) × Bool))) × Int)) =>
                Option.bind (
                  bif decide (y3.2 = (4 : Int)) then
                    some (decide (y5.2 = (1 : Int)))
                  else
                    some false) fun (g6 : Bool) =>
                  bif g6 then
                    some (decide (y3.1.1 = (0 : Int)) && (decide (y3.1.2.1 = (0 : Int)) && ((decide (y3.1.2.2.1.1 = (0 : Int)) && (decide (y3.1.2.2.1.2 = (0 : Int)) && true)) && (decide (y3.1.2.2.2 = false) && true))))
                  else
                    some false
            else
              none
    else
      none
def an8 : Ann := .two (.leaf) (.two (.leaf) (.two (.leaf) (.two (.leaf) (.two (.leaf) (.two (.segs [(6, ([6], ([6], [.tmp 38 (.bool)])))]) (.leaf))))))
theorem s8 : SoundF cx.P cx.G 8 sg8 r8 := by
  have e : denF cx [(15, ⟨sg15, r15⟩), (17, ⟨sg17, r17⟩)] an8 Tryd.f8.ntmps (Tryd.f8.body.getD .skip) Tryd.f8.results.toList sg8 = r8 := by kernel_rfl
  rw [← e]
  exact sound_of_den (c := cx) (Known.cons (.ofF s15 (by kernel_rfl)) Tryd.func15 (by kernel_rfl) (by kernel_rfl) (Known.cons (.ofF s17 (by kernel_rfl)) Tryd.func17 (by kernel_rfl) (by kernel_rfl) (Known.nil))) Tryd.func8 (by kernel_rfl) (Nat.le_of_ble_eq_true (by kernel_rfl)) rfl

/-! reredos/reredoskeep.dec -/
def sg16 : Sig := ⟨[⟨false, .bo, (.int .i64)⟩], [⟨false, .own, .str⟩]⟩
noncomputable def r16 : Nat → Int → Option (List UInt8)
  | 0 => fun _ => none
  | n + 1 => fun a =>
  bif decide (a < (10 : Int)) then
    some (List.map byte8 [(Go.IntKind.wrap .u8 (Go.IntKind.wrap .i64 ((48 : Int) + a)))])
  else
    Option.bind ((r16 n) (Go.IntKind.wrap .i64 (Int.tdiv a (10 : Int)))) fun (y2 : List UInt8) =>
      bif decide (y2.length + (List.map byte8 [(Go.IntKind.wrap .u8 (Go.IntKind.wrap .i64 ((48 : Int) + (Int.tmod a (10 : Int)))))]).length ≤ 9223372036854775807) then
        some (y2 ++ (List.map byte8 [(Go.IntKind.wrap .u8 (Go.IntKind.wrap .i64 ((48 : Int) + (Int.tmod a (10 : Int)))))]))
      else
        none
def an16 : Ann := .two (.leaf) (.two (.two (.leaf) (.two (.two (.leaf) (.leaf)) (.leaf))) (.two (.draw 9) (.leaf)))
theorem s16n : ∀ n, SoundF cx.P cx.G 16 sg16 (r16 n)
  | 0 => SoundF.none
  | n + 1 => by
    have e : denF cx [(16, ⟨sg16, r16 n⟩)] an16 Tryd.f16.ntmps (Tryd.f16.body.getD .skip) Tryd.f16.results.toList sg16 = r16 (n + 1) := by kernel_rfl
    rw [← e]
    exact sound_of_den (c := cx) (Known.cons (F := ⟨sg16, r16 n⟩) (.ofF (s16n n) (by kernel_rfl)) Tryd.func16 (by kernel_rfl) (by kernel_rfl) (Known.nil)) Tryd.func16 (by kernel_rfl) (Nat.le_of_ble_eq_true (by kernel_rfl)) rfl
noncomputable def R16 : Int → Option (List UInt8) := limR r16
theorem s16 : SoundF cx.P cx.G 16 sg16 R16 := SoundF.lim s16n

/-! reredos/reredoskeep.ConsoleBack -/
def sg7 : Sig := ⟨[⟨false, .bo, (.int .i64)⟩, ⟨false, .bo, (.int .i64)⟩, ⟨false, .bo, (.int .i64)⟩, ⟨false, .bo, .bool⟩, ⟨false, .bo, (.int .i64)⟩], [⟨false, .own, .bool⟩]⟩
noncomputable def r7 (a : (Int × (Int × (Int × (Bool × Int))))) : Option Bool :=
  Option.bind (r15 (a.1, (6 : Int))) fun (y1 : Int) =>
    Option.bind (r15 (a.2.1, (4 : Int))) fun (y2 : Int) =>
      Option.bind (r15 (a.2.2.1, (1048577 : Int))) fun (y3 : Int) =>
        Option.bind (R16 y1) fun (y7 : List UInt8) =>
          bif decide (y7.length + ([32] : List UInt8).length ≤ 9223372036854775807) then
            Option.bind (R16 y2) fun (y8 : List UInt8) =>
              bif decide ((y7 ++ ([32] : List UInt8)).length + y8.length ≤ 9223372036854775807) then
                bif decide (((y7 ++ ([32] : List UInt8)) ++ y8).length + ([32] : List UInt8).length ≤ 9223372036854775807) then
                  Option.bind (R16 y3) fun (y9 : List UInt8) =>
                    bif decide ((((y7 ++ ([32] : List UInt8)) ++ y8) ++ ([32] : List UInt8)).length + y9.length ≤ 9223372036854775807) then
                      bif decide (([102, 111, 114, 99, 101, 32] : List UInt8).length + ((((y7 ++ ([32] : List UInt8)) ++ y8) ++ ([32] : List UInt8)) ++ y9).length ≤ 9223372036854775807) then
                        bif decide ((([102, 111, 114, 99, 101, 32] : List UInt8) ++ ((((y7 ++ ([32] : List UInt8)) ++ y8) ++ ([32] : List UInt8)) ++ y9)).length + ([32, 97, 98, 111, 114, 116] : List UInt8).length ≤ 9223372036854775807) then
                          Option.bind (
                            bif a.2.2.2.1 then
                              bif decide (([102, 111, 114, 99, 101, 32] : List UInt8).length + ((((y7 ++ ([32] : List UInt8)) ++ y8) ++ ([32] : List UInt8)) ++ y9).length ≤ 9223372036854775807) then
                                bif decide ((([102, 111, 114, 99, 101, 32] : List UInt8) ++ ((((y7 ++ ([32] : List UInt8)) ++ y8) ++ ([32] : List UInt8)) ++ y9)).length + ([32, 99, 111, 109, 109, 105, 116] : List UInt8).length ≤ 9223372036854775807) then
                                  some ((([102, 111, 114, 99, 101, 32] : List UInt8) ++ ((((y7 ++ ([32] : List UInt8)) ++ y8) ++ ([32] : List UInt8)) ++ y9)) ++ ([32, 99, 111, 109, 109, 105, 116] : List UInt8))
                                else
                                  none
                              else
                                none
                            else
                              some ((([102, 111, 114, 99, 101, 32] : List UInt8) ++ ((((y7 ++ ([32] : List UInt8)) ++ y8) ++ ([32] : List UInt8)) ++ y9)) ++ ([32, 97, 98, 111, 114, 116] : List UInt8))) fun (d10 : List UInt8) =>
                            Option.bind (
                              Option.bind (r15 (a.2.2.2.2, (4 : Int))) fun (y13 : Int) =>
                                bif decide (y13 = (1 : Int)) then
                                  bif decide (([115, 116, 97, 116, 117, 115, 32] : List UInt8).length + ((((y7 ++ ([32] : List UInt8)) ++ y8) ++ ([32] : List UInt8)) ++ y9).length ≤ 9223372036854775807) then
                                    some ((), ((([115, 116, 97, 116, 117, 115, 32] : List UInt8) ++ ((((y7 ++ ([32] : List UInt8)) ++ y8) ++ ([32] : List UInt8)) ++ y9)), ((2 : Int), (y1, (y2, (y3, false))))))
                                  else
                                    none
                                else
                                  bif decide (y13 = (2 : Int)) then
                                    some ((), (([108, 105, 115, 116] : List UInt8), ((1 : Int), ((0 : Int), ((0 : Int), ((0 : Int), false))))))
                                  else
                                    bif decide (y13 = (3 : Int)) then
                                      some ((), (([97, 117, 100, 105, 116] : List UInt8), ((4 : Int), ((0 : Int), ((0 : Int), ((0 : Int), false))))))
                                    else
                                      some ((), (d10, ((3 : Int), (y1, (y2, (y3, a.2.2.2.1))))))) fun (d14 : (Unit × (List UInt8 × (Int × (Int × (Int × (Int × Bool))))))) =>
                              Option.bind (r17 d14.2.1) fun (y15 : ((Int × (Int × ((Int × Int) × Bool))) × Int)) =>
                                bif decide (d14.2.1.length + ([32] : List UInt8).length ≤ 9223372036854775807) then
                                  Option.bind (r17 (d14.2.1 ++ ([32] : List UInt8))) fun (y16 : ((Int × (Int × ((Int × Int) × Bool))) × Int)) =>
                                    Option.bind (
                                      bif decide (y15.2 = (0 : Int)) then
                                        some (decide (y16.2 = (4 : Int)))
                                      else
                                        some false) fun (g17 : Bool) =>
                                      bif g17 then
                                        some (decide (d14.2.2.1 = y15.1.1) && (decide (d14.2.2.2.1 = y15.1.2.1) && ((decide (d14.2.2.2.2.1 = y15.1.2.2.1.1) && (decide (d14.2.2.2.2.2.1 = y15.1.2.2.1.2) && true)) && (decide (d14.2.2.2.2.2.2 = y15.1.2.2.2) && true))))
                                      else
                                        some false
                                else
                                  none
                        else
                          none
                      else
                        none
                    else
                      none
                else
                  none
              else
                none
          else
            none
def an7 : Ann := .two (.leaf) (.two (.leaf) (.two (.draw 14) (.two (.leaf) (.two (.leaf) (.two (.join [4, 11, 12] [11] [⟨.normal, [], [.tmp 13 (.str)]⟩] (.two (.leaf) (.two (.leaf) (.leaf)))) (.two (.join [] [] [⟨.normal, [], [.tmp 11 (.pt 11 [(0, 0)] 0 0 5), .tmp 13 (.str), .box 11 [.int .i64, .int .i64, .int .i64, .int .i64, .bool]]⟩] (.two (.leaf) (.one (.two (.leaf) (.two (.two (.leaf) (.two (.leaf) (.leaf))) (.two (.leaf) (.two (.two (.leaf) (.leaf)) (.two (.leaf) (.two (.two (.leaf) (.leaf)) (.leaf)))))))))) (.two (.leaf) (.two (.leaf) (.two (.segs [(6, ([11, 14], ([11, 14], [.tmp 80 (.bool)])))]) (.leaf))))))))))
theorem s7 : SoundF cx.P cx.G 7 sg7 r7 := by
  have e : denF cx [(15, ⟨sg15, r15⟩), (16, ⟨sg16, R16⟩), (17, ⟨sg17, r17⟩)] an7 Tryd.f7.ntmps (Tryd.f7.body.getD .skip) Tryd.f7.results.toList sg7 = r7 := by kernel_rfl
  rw [← e]
  exact sound_of_den (c := cx) (Known.cons (.ofF s15 (by kernel_rfl)) Tryd.func15 (by kernel_rfl) (by kernel_rfl) (Known.cons (.ofF s16 (by kernel_rfl)) Tryd.func16 (by kernel_rfl) (by kernel_rfl) (Known.cons (.ofF s17 (by kernel_rfl)) Tryd.func17 (by kernel_rfl) (by kernel_rfl) (Known.nil)))) Tryd.func7 (by kernel_rfl) (Nat.le_of_ble_eq_true (by kernel_rfl)) rfl

end Go.Hc
