/- What the functions compute: written by gen.py. -/
import Derived.Test.YtmiibfolfflbmaaLibI
import Derived.WalkKit
import Derived.Lib.Walk
import Derived.Lib.JoinLaws
import Derived.Test.YtmiibfolfflbmaaLibJ
import Derived.Test.YtmiibfolfflbmaaProg
import Derived.KernelRfl
namespace Go.Hp
open Go.RowKit Go.Proofs Go.V
def tys : List (Nat × TyInfo) := [
  (3, ⟨.int .i64, 1, 8, [.int .i64 0], false, [none], [none], (.int .i64)⟩),
  (4, ⟨.bool, 1, 1, [.bool false], false, [none], [none], .bool⟩),
  (22, ⟨.sl 24, 1, 24, [.slice none 0 0], false, [some (.pair (.int .i64) (.pair (.int .i64) (.pair (.int .i64) (.pair (.int .i64) (.pair (.int .i64) (.int .i64))))))], [none], (.sl (.pair (.int .i64) (.pair (.int .i64) (.pair (.int .i64) (.pair (.int .i64) (.pair (.int .i64) (.int .i64)))))))⟩),
  (24, ⟨.st [(0, 3), (1, 3), (2, 3), (3, 3), (4, 3), (5, 3)], 6, 48, [.int .i64 0, .int .i64 0, .int .i64 0, .int .i64 0, .int .i64 0, .int .i64 0], false, [none, none, none, none, none, none], [none, none, none, none, none, none], (.pair (.int .i64) (.pair (.int .i64) (.pair (.int .i64) (.pair (.int .i64) (.pair (.int .i64) (.int .i64))))))⟩),
  (25, ⟨.sl 64, 1, 24, [.slice none 0 0], false, [some (.pair (.int .i64) (.int .i64))], [none], (.sl (.pair (.int .i64) (.int .i64)))⟩),
  (27, ⟨.st [(0, 3), (1, 25), (2, 3)], 3, 40, [.int .i64 0, .slice none 0 0, .int .i64 0], false, [none, some (.pair (.int .i64) (.int .i64)), none], [none, none, none], (.pair (.int .i64) (.pair (.rsl (.pair (.int .i64) (.int .i64))) (.int .i64)))⟩),
  (29, ⟨.sl 82, 1, 24, [.slice none 0 0], false, [some (.pair (.int .i64) (.pair (.int .i64) (.int .i64)))], [none], (.sl (.pair (.int .i64) (.pair (.int .i64) (.int .i64))))⟩),
  (30, ⟨.sl 72, 1, 24, [.slice none 0 0], false, [some (.pair (.pair (.int .i64) (.int .i64)) (.pair (.int .i64) (.pair .bool (.pair (.int .i64) (.int .i64)))))], [none], (.sl (.pair (.pair (.int .i64) (.int .i64)) (.pair (.int .i64) (.pair .bool (.pair (.int .i64) (.int .i64))))))⟩),
  (31, ⟨.sl 58, 1, 24, [.slice none 0 0], false, [some (.pair (.pair (.int .i64) (.int .i64)) (.int .i64))], [none], (.sl (.pair (.pair (.int .i64) (.int .i64)) (.int .i64)))⟩),
  (32, ⟨.sl 38, 1, 24, [.slice none 0 0], false, [some (.pair (.int .i64) (.int .i64))], [none], (.sl (.pair (.int .i64) (.int .i64)))⟩),
  (34, ⟨.st [(0, 29), (1, 30), (2, 31), (3, 32)], 4, 96, [.slice none 0 0, .slice none 0 0, .slice none 0 0, .slice none 0 0], false, [some (.pair (.int .i64) (.pair (.int .i64) (.int .i64))), some (.pair (.pair (.int .i64) (.int .i64)) (.pair (.int .i64) (.pair .bool (.pair (.int .i64) (.int .i64))))), some (.pair (.pair (.int .i64) (.int .i64)) (.int .i64)), some (.pair (.int .i64) (.int .i64))], [none, none, none, none], (.pair (.rsl (.pair (.int .i64) (.pair (.int .i64) (.int .i64)))) (.pair (.rsl (.pair (.pair (.int .i64) (.int .i64)) (.pair (.int .i64) (.pair .bool (.pair (.int .i64) (.int .i64)))))) (.pair (.rsl (.pair (.pair (.int .i64) (.int .i64)) (.int .i64))) (.rsl (.pair (.int .i64) (.int .i64))))))⟩),
  (38, ⟨.st [(0, 3), (1, 3)], 2, 16, [.int .i64 0, .int .i64 0], true, [none, none], [none, none], (.pair (.int .i64) (.int .i64))⟩),
  (39, ⟨.int .i64, 1, 8, [.int .i64 0], false, [none], [none], (.int .i64)⟩),
  (42, ⟨.sl 60, 1, 24, [.slice none 0 0], false, [some (.pair (.int .i64) (.pair (.int .i64) (.pair (.int .i64) (.pair (.pair (.int .i64) (.int .i64)) (.pair (.int .i64) (.pair (.int .i64) (.pair (.int .i64) (.pair (.int .i64) (.pair (.int .i64) (.pair .bool (.int .i64)))))))))))], [none], (.sl (.pair (.int .i64) (.pair (.int .i64) (.pair (.int .i64) (.pair (.pair (.int .i64) (.int .i64)) (.pair (.int .i64) (.pair (.int .i64) (.pair (.int .i64) (.pair (.int .i64) (.pair (.int .i64) (.pair .bool (.int .i64))))))))))))⟩),
  (43, ⟨.sl 54, 1, 24, [.slice none 0 0], false, [some (.pair (.int .i64) (.pair (.pair (.int .i64) (.int .i64)) (.pair (.int .i64) (.pair (.int .i64) (.pair (.int .i64) (.pair .bool (.rsl (.int .i64))))))))], [none], (.sl (.pair (.int .i64) (.pair (.pair (.int .i64) (.int .i64)) (.pair (.int .i64) (.pair (.int .i64) (.pair (.int .i64) (.pair .bool (.rsl (.int .i64)))))))))⟩),
  (44, ⟨.sl 51, 1, 24, [.slice none 0 0], false, [some (.pair (.pair (.int .i64) (.int .i64)) (.pair .bool .bool))], [none], (.sl (.pair (.pair (.int .i64) (.int .i64)) (.pair .bool .bool)))⟩),
  (46, ⟨.st [(0, 34), (4, 42), (5, 43), (6, 44)], 7, 168, [.slice none 0 0, .slice none 0 0, .slice none 0 0, .slice none 0 0, .slice none 0 0, .slice none 0 0, .slice none 0 0], false, [some (.pair (.int .i64) (.pair (.int .i64) (.int .i64))), some (.pair (.pair (.int .i64) (.int .i64)) (.pair (.int .i64) (.pair .bool (.pair (.int .i64) (.int .i64))))), some (.pair (.pair (.int .i64) (.int .i64)) (.int .i64)), some (.pair (.int .i64) (.int .i64)), some (.pair (.int .i64) (.pair (.int .i64) (.pair (.int .i64) (.pair (.pair (.int .i64) (.int .i64)) (.pair (.int .i64) (.pair (.int .i64) (.pair (.int .i64) (.pair (.int .i64) (.pair (.int .i64) (.pair .bool (.int .i64))))))))))), some (.pair (.int .i64) (.pair (.pair (.int .i64) (.int .i64)) (.pair (.int .i64) (.pair (.int .i64) (.pair (.int .i64) (.pair .bool (.rsl (.int .i64)))))))), some (.pair (.pair (.int .i64) (.int .i64)) (.pair .bool .bool))], [none, none, none, none, none, none, none], (.pair (.pair (.rsl (.pair (.int .i64) (.pair (.int .i64) (.int .i64)))) (.pair (.rsl (.pair (.pair (.int .i64) (.int .i64)) (.pair (.int .i64) (.pair .bool (.pair (.int .i64) (.int .i64)))))) (.pair (.rsl (.pair (.pair (.int .i64) (.int .i64)) (.int .i64))) (.rsl (.pair (.int .i64) (.int .i64)))))) (.pair (.rsl (.pair (.int .i64) (.pair (.int .i64) (.pair (.int .i64) (.pair (.pair (.int .i64) (.int .i64)) (.pair (.int .i64) (.pair (.int .i64) (.pair (.int .i64) (.pair (.int .i64) (.pair (.int .i64) (.pair .bool (.int .i64)))))))))))) (.pair (.rsl (.pair (.int .i64) (.pair (.pair (.int .i64) (.int .i64)) (.pair (.int .i64) (.pair (.int .i64) (.pair (.int .i64) (.pair .bool (.rsl (.int .i64))))))))) (.rsl (.pair (.pair (.int .i64) (.int .i64)) (.pair .bool .bool))))))⟩),
  (49, ⟨.sl 34, 1, 24, [.slice none 0 0], false, [some (.pair (.rsl (.pair (.int .i64) (.pair (.int .i64) (.int .i64)))) (.pair (.rsl (.pair (.pair (.int .i64) (.int .i64)) (.pair (.int .i64) (.pair .bool (.pair (.int .i64) (.int .i64)))))) (.pair (.rsl (.pair (.pair (.int .i64) (.int .i64)) (.int .i64))) (.rsl (.pair (.int .i64) (.int .i64))))))], [none], (.sl (.pair (.rsl (.pair (.int .i64) (.pair (.int .i64) (.int .i64)))) (.pair (.rsl (.pair (.pair (.int .i64) (.int .i64)) (.pair (.int .i64) (.pair .bool (.pair (.int .i64) (.int .i64)))))) (.pair (.rsl (.pair (.pair (.int .i64) (.int .i64)) (.int .i64))) (.rsl (.pair (.int .i64) (.int .i64)))))))⟩),
  (51, ⟨.st [(0, 38), (2, 4), (3, 4)], 4, 24, [.int .i64 0, .int .i64 0, .bool false, .bool false], true, [none, none, none, none], [none, none, none, none], (.pair (.pair (.int .i64) (.int .i64)) (.pair .bool .bool))⟩),
  (52, ⟨.sl 3, 1, 24, [.slice none 0 0], false, [some (.int .i64)], [none], (.sl (.int .i64))⟩),
  (54, ⟨.st [(0, 3), (1, 38), (3, 3), (4, 3), (5, 3), (6, 4), (7, 52)], 8, 80, [.int .i64 0, .int .i64 0, .int .i64 0, .int .i64 0, .int .i64 0, .int .i64 0, .bool false, .slice none 0 0], false, [none, none, none, none, none, none, none, some (.int .i64)], [none, none, none, none, none, none, none, none], (.pair (.int .i64) (.pair (.pair (.int .i64) (.int .i64)) (.pair (.int .i64) (.pair (.int .i64) (.pair (.int .i64) (.pair .bool (.rsl (.int .i64))))))))⟩),
  (58, ⟨.st [(0, 38), (2, 3)], 3, 24, [.int .i64 0, .int .i64 0, .int .i64 0], true, [none, none, none], [none, none, none], (.pair (.pair (.int .i64) (.int .i64)) (.int .i64))⟩),
  (60, ⟨.st [(0, 3), (1, 3), (2, 3), (3, 38), (5, 3), (6, 3), (7, 3), (8, 3), (9, 3), (10, 4), (11, 39)], 12, 96, [.int .i64 0, .int .i64 0, .int .i64 0, .int .i64 0, .int .i64 0, .int .i64 0, .int .i64 0, .int .i64 0, .int .i64 0, .int .i64 0, .bool false, .int .i64 0], true, [none, none, none, none, none, none, none, none, none, none, none, none], [none, none, none, none, none, none, none, none, none, none, none, none], (.pair (.int .i64) (.pair (.int .i64) (.pair (.int .i64) (.pair (.pair (.int .i64) (.int .i64)) (.pair (.int .i64) (.pair (.int .i64) (.pair (.int .i64) (.pair (.int .i64) (.pair (.int .i64) (.pair .bool (.int .i64)))))))))))⟩),
  (64, ⟨.st [(0, 3), (1, 3)], 2, 16, [.int .i64 0, .int .i64 0], true, [none, none], [none, none], (.pair (.int .i64) (.int .i64))⟩),
  (72, ⟨.st [(0, 38), (2, 3), (3, 4), (4, 3), (5, 3)], 6, 48, [.int .i64 0, .int .i64 0, .int .i64 0, .bool false, .int .i64 0, .int .i64 0], true, [none, none, none, none, none, none], [none, none, none, none, none, none], (.pair (.pair (.int .i64) (.int .i64)) (.pair (.int .i64) (.pair .bool (.pair (.int .i64) (.int .i64)))))⟩),
  (75, ⟨.st [(0, 27), (3, 3), (4, 3), (5, 49)], 6, 80, [.int .i64 0, .slice none 0 0, .int .i64 0, .int .i64 0, .int .i64 0, .slice none 0 0], false, [none, some (.pair (.int .i64) (.int .i64)), none, none, none, some (.pair (.rsl (.pair (.int .i64) (.pair (.int .i64) (.int .i64)))) (.pair (.rsl (.pair (.pair (.int .i64) (.int .i64)) (.pair (.int .i64) (.pair .bool (.pair (.int .i64) (.int .i64)))))) (.pair (.rsl (.pair (.pair (.int .i64) (.int .i64)) (.int .i64))) (.rsl (.pair (.int .i64) (.int .i64))))))], [none, none, none, none, none, none], (.pair (.pair (.int .i64) (.pair (.rsl (.pair (.int .i64) (.int .i64))) (.int .i64))) (.pair (.int .i64) (.pair (.int .i64) (.rsl (.pair (.rsl (.pair (.int .i64) (.pair (.int .i64) (.int .i64)))) (.pair (.rsl (.pair (.pair (.int .i64) (.int .i64)) (.pair (.int .i64) (.pair .bool (.pair (.int .i64) (.int .i64)))))) (.pair (.rsl (.pair (.pair (.int .i64) (.int .i64)) (.int .i64))) (.rsl (.pair (.int .i64) (.int .i64))))))))))⟩),
  (82, ⟨.st [(0, 3), (1, 3), (2, 3)], 3, 24, [.int .i64 0, .int .i64 0, .int .i64 0], true, [none, none, none], [none, none, none], (.pair (.int .i64) (.pair (.int .i64) (.int .i64)))⟩),
  (118, ⟨.int .u64, 1, 8, [.int .u64 0], false, [none], [none], (.int .u64)⟩)]
theorem tysOk : TyOk Try.prog tys := tyOk_of fun e he => by
  simp only [tys, List.mem_cons, List.not_mem_nil, or_false] at he
  rcases he with rfl | rfl | rfl | rfl | rfl | rfl | rfl | rfl | rfl | rfl | rfl | rfl | rfl | rfl | rfl | rfl | rfl | rfl | rfl | rfl | rfl | rfl | rfl | rfl | rfl | rfl | rfl | rfl
  · exact ⟨by kernel_rfl, by kernel_rfl, fun h => nomatch h⟩
  · exact ⟨by kernel_rfl, by kernel_rfl, fun h => nomatch h⟩
  · exact ⟨by kernel_rfl, by kernel_rfl, fun h => nomatch h⟩
  · exact ⟨by kernel_rfl, by kernel_rfl, fun h => nomatch h⟩
  · exact ⟨by kernel_rfl, by kernel_rfl, fun h => nomatch h⟩
  · exact ⟨by kernel_rfl, by kernel_rfl, fun h => nomatch h⟩
  · exact ⟨by kernel_rfl, by kernel_rfl, fun h => nomatch h⟩
  · exact ⟨by kernel_rfl, by kernel_rfl, fun h => nomatch h⟩
  · exact ⟨by kernel_rfl, by kernel_rfl, fun h => nomatch h⟩
  · exact ⟨by kernel_rfl, by kernel_rfl, fun h => nomatch h⟩
  · exact ⟨by kernel_rfl, by kernel_rfl, fun h => nomatch h⟩
  · exact ⟨by kernel_rfl, by kernel_rfl, fun _ => ⟨by kernel_rfl, by kernel_rfl, by kernel_rfl⟩⟩
  · exact ⟨by kernel_rfl, by kernel_rfl, fun h => nomatch h⟩
  · exact ⟨by kernel_rfl, by kernel_rfl, fun h => nomatch h⟩
  · exact ⟨by kernel_rfl, by kernel_rfl, fun h => nomatch h⟩
  · exact ⟨by kernel_rfl, by kernel_rfl, fun h => nomatch h⟩
  · exact ⟨by kernel_rfl, by kernel_rfl, fun h => nomatch h⟩
  · exact ⟨by kernel_rfl, by kernel_rfl, fun h => nomatch h⟩
  · exact ⟨by kernel_rfl, by kernel_rfl, fun _ => ⟨by kernel_rfl, by kernel_rfl, by kernel_rfl⟩⟩
  · exact ⟨by kernel_rfl, by kernel_rfl, fun h => nomatch h⟩
  · exact ⟨by kernel_rfl, by kernel_rfl, fun h => nomatch h⟩
  · exact ⟨by kernel_rfl, by kernel_rfl, fun _ => ⟨by kernel_rfl, by kernel_rfl, by kernel_rfl⟩⟩
  · exact ⟨by kernel_rfl, by kernel_rfl, fun _ => ⟨by kernel_rfl, by kernel_rfl, by kernel_rfl⟩⟩
  · exact ⟨by kernel_rfl, by kernel_rfl, fun _ => ⟨by kernel_rfl, by kernel_rfl, by kernel_rfl⟩⟩
  · exact ⟨by kernel_rfl, by kernel_rfl, fun _ => ⟨by kernel_rfl, by kernel_rfl, by kernel_rfl⟩⟩
  · exact ⟨by kernel_rfl, by kernel_rfl, fun h => nomatch h⟩
  · exact ⟨by kernel_rfl, by kernel_rfl, fun _ => ⟨by kernel_rfl, by kernel_rfl, by kernel_rfl⟩⟩
  · exact ⟨by kernel_rfl, by kernel_rfl, fun h => nomatch h⟩
noncomputable def inls : List (Nat × Go.Func) := [(16, Try.f16), (17, Try.f17), (28, Try.f28), (29, Try.f29), (30, Try.f30), (31, Try.f31), (39, Try.f39), (40, Try.f40), (42, Try.f42), (43, Try.f43), (45, Try.f45), (46, Try.f46), (50, Try.f50), (55, Try.f55), (56, Try.f56), (59, Try.f59)]
theorem inlsOk : ∀ f fn, Go.V.look inls f = some fn → Try.prog.funcs[f]? = some fn ∧ (fn.name == "runtime.NumGoroutine") = false := inlOk_of fun e he => by
  simp only [inls, List.mem_cons, List.not_mem_nil, or_false] at he
  rcases he with rfl | rfl | rfl | rfl | rfl | rfl | rfl | rfl | rfl | rfl | rfl | rfl | rfl | rfl | rfl | rfl
  · exact ⟨Try.func16, by kernel_rfl⟩
  · exact ⟨Try.func17, by kernel_rfl⟩
  · exact ⟨Try.func28, by kernel_rfl⟩
  · exact ⟨Try.func29, by kernel_rfl⟩
  · exact ⟨Try.func30, by kernel_rfl⟩
  · exact ⟨Try.func31, by kernel_rfl⟩
  · exact ⟨Try.func39, by kernel_rfl⟩
  · exact ⟨Try.func40, by kernel_rfl⟩
  · exact ⟨Try.func42, by kernel_rfl⟩
  · exact ⟨Try.func43, by kernel_rfl⟩
  · exact ⟨Try.func45, by kernel_rfl⟩
  · exact ⟨Try.func46, by kernel_rfl⟩
  · exact ⟨Try.func50, by kernel_rfl⟩
  · exact ⟨Try.func55, by kernel_rfl⟩
  · exact ⟨Try.func56, by kernel_rfl⟩
  · exact ⟨Try.func59, by kernel_rfl⟩
noncomputable def cx : Ctx := ⟨Try.prog, tys, tysOk, [], 0, inls, inlsOk, by kernel_rfl⟩

/-! reredos/reredoskeep.picked -/
def sg7 : Sig := ⟨[⟨false, .bo, (.int .i64)⟩, ⟨false, .bo, (.int .i64)⟩], [⟨false, .own, (.int .i64)⟩]⟩
noncomputable def r7 (a : (Int × Int)) : Option Int :=
  Option.bind (
    bif decide (a.1 < (0 : Int)) then
      some (Go.IntKind.wrap .i64 (0 - (Go.IntKind.wrap .i64 (a.1 + (1 : Int)))))
    else
      some a.1) fun (d1 : Int) =>
    bif decide (a.2 = 0) then
      none
    else
      some (Int.tmod d1 a.2)
def an7 : Ann := .two (.leaf) (.two (.join [1] [] [⟨.normal, [], [.tmp 0 (.int .i64)]⟩] (.two (.leaf) (.two (.leaf) (.leaf)))) (.two (.leaf) (.leaf)))
theorem s7 : SoundF cx.P cx.G 7 sg7 r7 := by
  have e : denF cx [] an7 Try.f7.ntmps (Try.f7.body.getD .skip) Try.f7.results.toList sg7 = r7 := by kernel_rfl
  rw [← e]
  exact sound_of_den (c := cx) (Known.nil) Try.func7 (by kernel_rfl) (Nat.le_of_ble_eq_true (by kernel_rfl)) rfl

/-! reredos/reredoskeep.two -/
def sg5 : Sig := ⟨[⟨false, .bo, (.int .i64)⟩], [⟨true, .ro, (.pair (.int .i64) (.pair (.sl (.pair (.int .i64) (.int .i64))) (.int .i64)))⟩]⟩
noncomputable def r5 (a : Int) : Option (Int × (List ((Int × Int)) × Int)) :=
  Option.bind (r7 (a, (3 : Int))) fun (y1 : Int) =>
    some ((Go.IntKind.wrap .i64 ((1 : Int) + y1)), ([((0 : Int), (0 : Int)), ((1 : Int), (0 : Int))], (3 : Int)))
def an5 : Ann := .two (.leaf) (.two (.leaf) (.leaf))
theorem s5 : SoundF cx.P cx.G 5 sg5 r5 := by
  have e : denF cx [(7, ⟨sg7, r7⟩)] an5 Try.f5.ntmps (Try.f5.body.getD .skip) Try.f5.results.toList sg5 = r5 := by kernel_rfl
  rw [← e]
  exact sound_of_den (c := cx) (Known.cons (.ofF s7 (by kernel_rfl)) Try.func7 (by kernel_rfl) (by kernel_rfl) (Known.nil)) Try.func5 (by kernel_rfl) (Nat.le_of_ble_eq_true (by kernel_rfl)) rfl

/-! reredos/store.items -/
noncomputable def r51_L0 (a : List ((Int × (Int × Int)))) (d1 : Int) : Option (Int ⊕ (Unit ⊕ Bool)) :=
  bif decide (d1 < (↑a.length : Int)) then
    Option.bind (idxI a d1) fun (b2 : (Int × (Int × Int))) =>
      Option.bind (
        Option.bind (
          bif !(decide (b2.1 < (0 : Int))) then
            some (decide ((8 : Int) ≤ b2.1))
          else
            some true) fun (g11 : Bool) =>
          Option.bind (
            bif !(g11) then
              some (decide (b2.2.1 < (0 : Int)))
            else
              some true) fun (g12 : Bool) =>
            Option.bind (
              bif !(g12) then
                some (decide ((1073741824 : Int) < b2.2.1))
              else
                some true) fun (g13 : Bool) =>
              Option.bind (
                bif !(g13) then
                  some (decide (b2.2.2 < (1 : Int)))
                else
                  some true) fun (g14 : Bool) =>
                bif !(g14) then
                  some (decide ((1048576 : Int) < b2.2.2))
                else
                  some true) fun (d15 : Bool) =>
        bif d15 then
          some (Sum.inr (Sum.inr false))
        else
          Option.bind (
            bif decide ((0 : Int) < d1) then
              Option.bind (idxI a (Go.IntKind.wrap .i64 (d1 - (1 : Int)))) fun (b21 : (Int × (Int × Int))) =>
                some (decide (b2.1 ≤ b21.1))
            else
              some false) fun (d22 : Bool) =>
            bif d22 then
              some (Sum.inr (Sum.inr false))
            else
              some (Sum.inl (Go.IntKind.wrap .i64 (d1 + (1 : Int))))
  else
    some (Sum.inr (Sum.inl ()))
def sg51 : Sig := ⟨[⟨false, .bo, (.sl (.pair (.int .i64) (.pair (.int .i64) (.int .i64))))⟩], [⟨false, .own, .bool⟩]⟩
noncomputable def r51 (a : List ((Int × (Int × Int)))) : Option Bool :=
  Option.bind (loopR (r51_L0 a) (0 : Int)) fun (q23 : (Unit ⊕ Bool)) =>
    Sum.elim (fun (_ : Unit) =>
        some true)
      (fun (v25 : Bool) =>
        some v25) q23
def an51 : Ann := .two (.leaf) (.two (.two (.leaf) (.one (.loop [0, 5, 6] [] [] [.tmp 7 (.int .i64)] [⟨.exit 0, [], []⟩, ⟨.ret, [], [.tmp 2 (.bool)]⟩] (.two (.leaf) (.two (.two (.leaf) (.leaf)) (.two (.one (.two (.leaf) (.two (.two (.join [0, 3, 4, 5, 6, 7] [4] [⟨.normal, [], [.tmp 39 (.bool)]⟩] (.segs [(8, ([0, 3, 4, 5, 6, 7], ([4], [.tmp 19 (.bool)]))), (5, ([0, 3, 4, 5, 6, 7], ([4], [.tmp 24 (.bool)]))), (5, ([0, 3, 4, 5, 6, 7], ([4], [.tmp 29 (.bool)]))), (5, ([0, 3, 4, 5, 6, 7], ([4], [.tmp 34 (.bool)])))])) (.two (.two (.leaf) (.leaf)) (.leaf))) (.two (.join [0, 5, 6, 7] [] [⟨.normal, [], [.tmp 52 (.bool)]⟩] (.draw 11)) (.two (.two (.leaf) (.leaf)) (.leaf)))))) (.leaf))))))) (.two (.leaf) (.leaf)))
theorem s51 : SoundF cx.P cx.G 51 sg51 r51 := by
  have e : denF cx [] an51 Try.f51.ntmps (Try.f51.body.getD .skip) Try.f51.results.toList sg51 = r51 := by kernel_rfl
  rw [← e]
  exact sound_of_den (c := cx) (Known.nil) Try.func51 (by kernel_rfl) (Nat.le_of_ble_eq_true (by kernel_rfl)) rfl

/-! slices.Index[[]reredos/api.Txn,reredos/api.Txn] -/
noncomputable def r41_L0 (a : (List ((Int × Int)) × (Int × Int))) (d1 : Int) : Option (Int ⊕ (Unit ⊕ Int)) :=
  bif decide (d1 < (↑a.1.length : Int)) then
    Option.bind (idxI a.1 d1) fun (b3 : (Int × Int)) =>
      bif (decide (a.2.1 = b3.1) && (decide (a.2.2 = b3.2) && true)) then
        some (Sum.inr (Sum.inr d1))
      else
        some (Sum.inl (Go.IntKind.wrap .i64 (d1 + (1 : Int))))
  else
    some (Sum.inr (Sum.inl ()))
def sg41 : Sig := ⟨[⟨false, .bo, (.sl (.pair (.int .i64) (.int .i64)))⟩, ⟨true, .bo, (.pair (.int .i64) (.int .i64))⟩], [⟨false, .own, (.int .i64)⟩]⟩
noncomputable def r41 (a : (List ((Int × Int)) × (Int × Int))) : Option Int :=
  Option.bind (loopR (r41_L0 a) (0 : Int)) fun (q4 : (Unit ⊕ Int)) =>
    Sum.elim (fun (_ : Unit) =>
        some (-1 : Int))
      (fun (v6 : Int) =>
        some v6) q4
def an41 : Ann := .two (.leaf) (.two (.two (.leaf) (.one (.loop [0, 3, 7] [3] [] [.tmp 8 (.int .i64)] [⟨.exit 0, [], []⟩, ⟨.ret, [], [.tmp 4 (.int .i64)]⟩] (.two (.leaf) (.two (.two (.leaf) (.leaf)) (.two (.one (.two (.leaf) (.two (.draw 5) (.two (.two (.leaf) (.leaf)) (.leaf))))) (.leaf))))))) (.two (.leaf) (.leaf)))
theorem s41 : SoundF cx.P cx.G 41 sg41 r41 := by
  have e : denF cx [] an41 Try.f41.ntmps (Try.f41.body.getD .skip) Try.f41.results.toList sg41 = r41 := by kernel_rfl
  rw [← e]
  exact sound_of_den (c := cx) (Known.nil) Try.func41 (by kernel_rfl) (Nat.le_of_ble_eq_true (by kernel_rfl)) rfl

/-! slices.Contains[[]reredos/api.Txn,reredos/api.Txn] -/
def sg23 : Sig := ⟨[⟨false, .bo, (.sl (.pair (.int .i64) (.int .i64)))⟩, ⟨true, .bo, (.pair (.int .i64) (.int .i64))⟩], [⟨false, .own, .bool⟩]⟩
noncomputable def r23 (a : (List ((Int × Int)) × (Int × Int))) : Option Bool :=
  Option.bind (r41 (a.1, a.2)) fun (y1 : Int) =>
    some (decide ((0 : Int) ≤ y1))
def an23 : Ann := .two (.leaf) (.two (.leaf) (.leaf))
theorem s23 : SoundF cx.P cx.G 23 sg23 r23 := by
  have e : denF cx [(41, ⟨sg41, r41⟩)] an23 Try.f23.ntmps (Try.f23.body.getD .skip) Try.f23.results.toList sg23 = r23 := by kernel_rfl
  rw [← e]
  exact sound_of_den (c := cx) (Known.cons (.ofF s41 (by kernel_rfl)) Try.func41 (by kernel_rfl) (by kernel_rfl) (Known.nil)) Try.func23 (by kernel_rfl) (Nat.le_of_ble_eq_true (by kernel_rfl)) rfl

/-! reredos/store.txn -/
def sg33 : Sig := ⟨[⟨true, .bo, (.pair (.int .i64) (.int .i64))⟩], [⟨false, .own, .bool⟩]⟩
noncomputable def r33 (a : (Int × Int)) : Option Bool :=
  Option.bind (
    bif decide ((0 : Int) ≤ a.1) then
      some (decide (a.1 < (4 : Int)))
    else
      some false) fun (g1 : Bool) =>
    Option.bind (
      bif g1 then
        some (decide ((1 : Int) ≤ a.2))
      else
        some false) fun (g2 : Bool) =>
      bif g2 then
        some (decide (a.2 ≤ (1048576 : Int)))
      else
        some false
def an33 : Ann := .two (.leaf) (.two (.segs [(8, ([1], ([1], [.tmp 10 (.bool)]))), (5, ([1], ([1], [.tmp 15 (.bool)])))]) (.leaf))
theorem s33 : SoundF cx.P cx.G 33 sg33 r33 := by
  have e : denF cx [] an33 Try.f33.ntmps (Try.f33.body.getD .skip) Try.f33.results.toList sg33 = r33 := by kernel_rfl
  rw [← e]
  exact sound_of_den (c := cx) (Known.nil) Try.func33 (by kernel_rfl) (Nat.le_of_ble_eq_true (by kernel_rfl)) rfl

/-! reredos/store.doubts -/
noncomputable def r52_L0 (a : (List ((Int × (Int × Int))) × (List (((Int × Int) × (Int × (Bool × (Int × Int))))) × (List (((Int × Int) × Int)) × List ((Int × Int)))))) (b2 : ((Int × Int) × Int)) (d26 : Int) : Option (Int ⊕ (Unit ⊕ Int)) :=
  bif decide (d26 < (↑a.2.1.length : Int)) then
    Option.bind (idxI a.2.1 d26) fun (b27 : ((Int × Int) × (Int × (Bool × (Int × Int))))) =>
      bif (decide (b27.1.1 = b2.1.1) && (decide (b27.1.2 = b2.1.2) && true)) then
        some (Sum.inr (Sum.inr d26))
      else
        some (Sum.inl (Go.IntKind.wrap .i64 (d26 + (1 : Int))))
  else
    some (Sum.inr (Sum.inl ()))
noncomputable def r52_L1 (d1 : Int) (a : (List ((Int × (Int × Int))) × (List (((Int × Int) × (Int × (Bool × (Int × Int))))) × (List (((Int × Int) × Int)) × List ((Int × Int)))))) (b2 : ((Int × Int) × Int)) (d32 : Int) : Option (Int ⊕ (Unit ⊕ Bool)) :=
  bif decide (d32 < (↑((List.take (Int.toNat d1) a.2.2.1).length) : Int)) then
    Option.bind (idxI (List.take (Int.toNat d1) a.2.2.1) d32) fun (b33 : ((Int × Int) × Int)) =>
      bif (decide (b33.1.1 = b2.1.1) && (decide (b33.1.2 = b2.1.2) && true)) then
        some (Sum.inr (Sum.inr false))
      else
        some (Sum.inl (Go.IntKind.wrap .i64 (d32 + (1 : Int))))
  else
    some (Sum.inr (Sum.inl ()))
noncomputable def r52_L2 (a : (List ((Int × (Int × Int))) × (List (((Int × Int) × (Int × (Bool × (Int × Int))))) × (List (((Int × Int) × Int)) × List ((Int × Int)))))) (d1 : Int) : Option (Int ⊕ (Unit ⊕ Bool)) :=
  bif decide (d1 < (↑a.2.2.1.length : Int)) then
    Option.bind (idxI a.2.2.1 d1) fun (b2 : ((Int × Int) × Int)) =>
      Option.bind (
        Option.bind (
          Option.bind (r33 b2.1) fun (y11 : Bool) =>
            bif !(!(y11)) then
              some (decide (b2.2 < (0 : Int)))
            else
              some true) fun (g12 : Bool) =>
          Option.bind (
            bif !(g12) then
              some (decide ((1048576 : Int) < b2.2))
            else
              some true) fun (g13 : Bool) =>
            bif !(g13) then
              Option.bind (r23 (a.2.2.2, b2.1)) fun (y14 : Bool) =>
                some y14
            else
              some true) fun (d15 : Bool) =>
        bif d15 then
          some (Sum.inr (Sum.inr false))
        else
          Option.bind (
            Option.bind (loopR (r52_L0 a b2) (0 : Int)) fun (q28 : (Unit ⊕ Int)) =>
              Sum.elim (fun (_ : Unit) =>
                  some (-1 : Int))
                (fun (v30 : Int) =>
                  some v30) q28) fun (d31 : Int) =>
            bif !(decide ((0 : Int) ≤ d31)) then
              some (Sum.inr (Sum.inr false))
            else
              bif okB none (some d1) none a.2.2.1.length then
                Option.bind (loopR (r52_L1 d1 a b2) (0 : Int)) fun (q34 : (Unit ⊕ Bool)) =>
                  Sum.elim (fun (_ : Unit) =>
                      some (Sum.inl (Go.IntKind.wrap .i64 (d1 + (1 : Int)))))
                    (fun (v36 : Bool) =>
                      some (Sum.inr (Sum.inr v36))) q34
              else
                none
  else
    some (Sum.inr (Sum.inl ()))
noncomputable def r52_L3 (a : (List ((Int × (Int × Int))) × (List (((Int × Int) × (Int × (Bool × (Int × Int))))) × (List (((Int × Int) × Int)) × List ((Int × Int)))))) (d40 : Int) : Option (Int ⊕ (Unit ⊕ Bool)) :=
  bif decide (d40 < (↑a.2.2.2.length : Int)) then
    Option.bind (idxI a.2.2.2 d40) fun (b41 : (Int × Int)) =>
      Option.bind (
        Option.bind (r33 b41) fun (y52 : Bool) =>
          bif !(!(y52)) then
            bif okB none (some d40) none a.2.2.2.length then
              Option.bind (r23 (List.take (Int.toNat d40) a.2.2.2, b41)) fun (y53 : Bool) =>
                some y53
            else
              none
          else
            some true) fun (d54 : Bool) =>
        bif d54 then
          some (Sum.inr (Sum.inr false))
        else
          some (Sum.inl (Go.IntKind.wrap .i64 (d40 + (1 : Int))))
  else
    some (Sum.inr (Sum.inl ()))
def sg52 : Sig := ⟨[⟨true, .bo, (.pair (.sl (.pair (.int .i64) (.pair (.int .i64) (.int .i64)))) (.pair (.sl (.pair (.pair (.int .i64) (.int .i64)) (.pair (.int .i64) (.pair .bool (.pair (.int .i64) (.int .i64)))))) (.pair (.sl (.pair (.pair (.int .i64) (.int .i64)) (.int .i64))) (.sl (.pair (.int .i64) (.int .i64))))))⟩], [⟨false, .own, .bool⟩]⟩
noncomputable def r52 (a : (List ((Int × (Int × Int))) × (List (((Int × Int) × (Int × (Bool × (Int × Int))))) × (List (((Int × Int) × Int)) × List ((Int × Int)))))) : Option Bool :=
  Option.bind (loopR (r52_L2 a) (0 : Int)) fun (q37 : (Unit ⊕ Bool)) =>
    Sum.elim (fun (_ : Unit) =>
        Option.bind (loopR (r52_L3 a) (0 : Int)) fun (q55 : (Unit ⊕ Bool)) =>
          Sum.elim (fun (_ : Unit) =>
              some true)
            (fun (v57 : Bool) =>
              some v57) q55)
      (fun (v39 : Bool) =>
        some v39) q37
def an52 : Ann := .two (.leaf) (.two (.two (.leaf) (.one (.loop [1, 10, 11] [1] [] [.tmp 12 (.int .i64)] [⟨.exit 0, [], []⟩, ⟨.ret, [], [.tmp 2 (.bool)]⟩] (.two (.leaf) (.two (.two (.leaf) (.leaf)) (.two (.one (.two (.leaf) (.two (.two (.join [1, 3, 4, 10, 11, 12] [1, 4] [⟨.normal, [], [.tmp 37 (.bool)]⟩] (.segs [(9, ([1, 3, 4, 10, 11, 12], ([1, 4], [.tmp 25 (.bool)]))), (5, ([1, 3, 4, 10, 11, 12], ([1, 4], [.tmp 30 (.bool)])))])) (.two (.two (.leaf) (.leaf)) (.leaf))) (.two (.two (.inl 3 79 (.two (.leaf) (.two (.inl 2 88 (.join [1, 3, 4, 10, 11, 12] [1, 4] [⟨.ret, [], [.tmp 92 (.int .i64)]⟩] (.two (.leaf) (.two (.two (.leaf) (.one (.loop [1, 3, 4, 10, 11, 12, 88, 89, 95] [1, 4] [] [.tmp 96 (.int .i64)] [⟨.exit 0, [], []⟩, ⟨.ret, [], [.tmp 92 (.int .i64)]⟩] (.two (.leaf) (.two (.two (.leaf) (.leaf)) (.two (.one (.two (.leaf) (.two (.inl 5 107 (.two (.leaf) (.two (.leaf) (.leaf))) (.leaf)) (.two (.two (.leaf) (.leaf)) (.leaf))))) (.leaf))))))) (.two (.leaf) (.leaf))))) (.leaf)) (.leaf))) (.leaf)) (.two (.two (.leaf) (.leaf)) (.leaf))) (.two (.leaf) (.one (.loop [1, 4, 10, 11, 12, 46, 47] [1, 4] [] [.tmp 48 (.int .i64)] [⟨.exit 2, [], []⟩, ⟨.ret, [], [.tmp 2 (.bool)]⟩] (.two (.leaf) (.two (.two (.leaf) (.leaf)) (.two (.one (.two (.leaf) (.two (.leaf) (.two (.two (.leaf) (.leaf)) (.leaf))))) (.leaf))))))))))) (.leaf))))))) (.two (.two (.leaf) (.one (.loop [1, 60, 61] [1] [] [.tmp 62 (.int .i64)] [⟨.exit 4, [], []⟩, ⟨.ret, [], [.tmp 2 (.bool)]⟩] (.two (.leaf) (.two (.two (.leaf) (.leaf)) (.two (.one (.two (.leaf) (.two (.join [1, 60, 61, 62] [1] [⟨.normal, [], [.tmp 77 (.bool)]⟩] (.draw 9)) (.two (.two (.leaf) (.leaf)) (.leaf))))) (.leaf))))))) (.two (.leaf) (.leaf))))
theorem s52 : SoundF cx.P cx.G 52 sg52 r52 := by
  have e : denF cx [(23, ⟨sg23, r23⟩), (33, ⟨sg33, r33⟩)] an52 Try.f52.ntmps (Try.f52.body.getD .skip) Try.f52.results.toList sg52 = r52 := by kernel_rfl
  rw [← e]
  exact sound_of_den (c := cx) (Known.cons (.ofF s23 (by kernel_rfl)) Try.func23 (by kernel_rfl) (by kernel_rfl) (Known.cons (.ofF s33 (by kernel_rfl)) Try.func33 (by kernel_rfl) (by kernel_rfl) (Known.nil))) Try.func52 (by kernel_rfl) (Nat.le_of_ble_eq_true (by kernel_rfl)) rfl

/-! reredos/store.doubted -/
noncomputable def r44_L0 (a : ((List ((Int × (Int × Int))) × (List (((Int × Int) × (Int × (Bool × (Int × Int))))) × (List (((Int × Int) × Int)) × List ((Int × Int))))) × (Int × Int))) (d11 : Int) : Option (Int ⊕ (Unit ⊕ Int)) :=
  bif decide (d11 < (↑a.1.2.2.1.length : Int)) then
    Option.bind (idxI a.1.2.2.1 d11) fun (b12 : ((Int × Int) × Int)) =>
      bif (decide (b12.1.1 = a.2.1) && (decide (b12.1.2 = a.2.2) && true)) then
        some (Sum.inr (Sum.inr d11))
      else
        some (Sum.inl (Go.IntKind.wrap .i64 (d11 + (1 : Int))))
  else
    some (Sum.inr (Sum.inl ()))
def sg44 : Sig := ⟨[⟨true, .bo, (.pair (.sl (.pair (.int .i64) (.pair (.int .i64) (.int .i64)))) (.pair (.sl (.pair (.pair (.int .i64) (.int .i64)) (.pair (.int .i64) (.pair .bool (.pair (.int .i64) (.int .i64)))))) (.pair (.sl (.pair (.pair (.int .i64) (.int .i64)) (.int .i64))) (.sl (.pair (.int .i64) (.int .i64))))))⟩, ⟨true, .bo, (.pair (.int .i64) (.int .i64))⟩], [⟨false, .own, .bool⟩]⟩
noncomputable def r44 (a : ((List ((Int × (Int × Int))) × (List (((Int × Int) × (Int × (Bool × (Int × Int))))) × (List (((Int × Int) × Int)) × List ((Int × Int))))) × (Int × Int))) : Option Bool :=
  Option.bind (
    Option.bind (loopR (r44_L0 a) (0 : Int)) fun (q13 : (Unit ⊕ Int)) =>
      Sum.elim (fun (_ : Unit) =>
          some (-1 : Int))
        (fun (v15 : Int) =>
          some v15) q13) fun (d16 : Int) =>
    some (decide ((0 : Int) ≤ d16))
def an44 : Ann := .two (.leaf) (.two (.inl 3 9 (.two (.leaf) (.two (.inl 2 18 (.join [] [] [⟨.ret, [], [.tmp 22 (.int .i64)]⟩] (.two (.leaf) (.two (.two (.leaf) (.one (.loop [18, 19, 25] [3] [] [.tmp 26 (.int .i64)] [⟨.exit 0, [], []⟩, ⟨.ret, [], [.tmp 22 (.int .i64)]⟩] (.two (.leaf) (.two (.two (.leaf) (.leaf)) (.two (.one (.two (.leaf) (.two (.inl 5 37 (.two (.leaf) (.two (.leaf) (.leaf))) (.leaf)) (.two (.two (.leaf) (.leaf)) (.leaf))))) (.leaf))))))) (.two (.leaf) (.leaf))))) (.leaf)) (.leaf))) (.leaf)) (.leaf))
theorem s44 : SoundF cx.P cx.G 44 sg44 r44 := by
  have e : denF cx [] an44 Try.f44.ntmps (Try.f44.body.getD .skip) Try.f44.results.toList sg44 = r44 := by kernel_rfl
  rw [← e]
  exact sound_of_den (c := cx) (Known.nil) Try.func44 (by kernel_rfl) (Nat.le_of_ble_eq_true (by kernel_rfl)) rfl

/-! reredos/store.locks -/
noncomputable def r53_L0 (d1 : Int) (a : (List ((Int × (Int × Int))) × (List (((Int × Int) × (Int × (Bool × (Int × Int))))) × (List (((Int × Int) × Int)) × List ((Int × Int)))))) (b2 : ((Int × Int) × (Int × (Bool × (Int × Int))))) (d25 : Int) : Option (Int ⊕ (Unit ⊕ Bool)) :=
  bif decide (d25 < (↑((List.take (Int.toNat d1) a.2.1).length) : Int)) then
    Option.bind (idxI (List.take (Int.toNat d1) a.2.1) d25) fun (b26 : ((Int × Int) × (Int × (Bool × (Int × Int))))) =>
      Option.bind (
        bif decide (b26.2.1 = b2.2.1) then
          bif !((decide (b26.1.1 = b2.1.1) && (decide (b26.1.2 = b2.1.2) && true))) then
            bif !(b26.2.2.1) then
              some b2.2.2.1
            else
              some true
          else
            some true
        else
          some false) fun (d27 : Bool) =>
        bif d27 then
          some (Sum.inr (Sum.inr false))
        else
          some (Sum.inl (Go.IntKind.wrap .i64 (d25 + (1 : Int))))
  else
    some (Sum.inr (Sum.inl ()))
noncomputable def r53_L1 (a : (List ((Int × (Int × Int))) × (List (((Int × Int) × (Int × (Bool × (Int × Int))))) × (List (((Int × Int) × Int)) × List ((Int × Int)))))) (d1 : Int) : Option (Int ⊕ (Unit ⊕ Bool)) :=
  bif decide (d1 < (↑a.2.1.length : Int)) then
    Option.bind (idxI a.2.1 d1) fun (b2 : ((Int × Int) × (Int × (Bool × (Int × Int))))) =>
      Option.bind (
        Option.bind (
          Option.bind (r44 (a, b2.1)) fun (y17 : Bool) =>
            bif !(!(y17)) then
              some (decide (b2.2.1 < (0 : Int)))
            else
              some true) fun (g18 : Bool) =>
          Option.bind (
            bif !(g18) then
              some (decide ((8 : Int) ≤ b2.2.1))
            else
              some true) fun (g19 : Bool) =>
            Option.bind (
              bif !(g19) then
                some (decide (b2.2.2.2.1 < (0 : Int)))
              else
                some true) fun (g20 : Bool) =>
              Option.bind (
                bif !(g20) then
                  some (decide ((1073741824 : Int) < b2.2.2.2.1))
                else
                  some true) fun (g21 : Bool) =>
                Option.bind (
                  bif !(g21) then
                    some (decide (b2.2.2.2.2 < (0 : Int)))
                  else
                    some true) fun (g22 : Bool) =>
                  Option.bind (
                    bif !(g22) then
                      some (decide ((1048576 : Int) < b2.2.2.2.2))
                    else
                      some true) fun (g23 : Bool) =>
                    bif !(g23) then
                      bif !(b2.2.2.1) then
                        some (!(decide ((Go.IntKind.wrap .i64 (b2.2.2.2.1 + b2.2.2.2.2)) = (0 : Int))))
                      else
                        some false
                    else
                      some true) fun (d24 : Bool) =>
        bif d24 then
          some (Sum.inr (Sum.inr false))
        else
          bif okB none (some d1) none a.2.1.length then
            Option.bind (loopR (r53_L0 d1 a b2) (0 : Int)) fun (q28 : (Unit ⊕ Bool)) =>
              Sum.elim (fun (_ : Unit) =>
                  some (Sum.inl (Go.IntKind.wrap .i64 (d1 + (1 : Int)))))
                (fun (v30 : Bool) =>
                  some (Sum.inr (Sum.inr v30))) q28
          else
            none
  else
    some (Sum.inr (Sum.inl ()))
def sg53 : Sig := ⟨[⟨true, .bo, (.pair (.sl (.pair (.int .i64) (.pair (.int .i64) (.int .i64)))) (.pair (.sl (.pair (.pair (.int .i64) (.int .i64)) (.pair (.int .i64) (.pair .bool (.pair (.int .i64) (.int .i64)))))) (.pair (.sl (.pair (.pair (.int .i64) (.int .i64)) (.int .i64))) (.sl (.pair (.int .i64) (.int .i64))))))⟩], [⟨false, .own, .bool⟩]⟩
noncomputable def r53 (a : (List ((Int × (Int × Int))) × (List (((Int × Int) × (Int × (Bool × (Int × Int))))) × (List (((Int × Int) × Int)) × List ((Int × Int)))))) : Option Bool :=
  Option.bind (loopR (r53_L1 a) (0 : Int)) fun (q31 : (Unit ⊕ Bool)) =>
    Sum.elim (fun (_ : Unit) =>
        some (decide ((↑a.2.1.length : Int) ≤ (24 : Int))))
      (fun (v33 : Bool) =>
        some v33) q31
def an53 : Ann := .two (.leaf) (.two (.two (.leaf) (.one (.loop [1, 8, 9] [1] [] [.tmp 10 (.int .i64)] [⟨.exit 0, [], []⟩, ⟨.ret, [], [.tmp 2 (.bool)]⟩] (.two (.leaf) (.two (.two (.leaf) (.leaf)) (.two (.one (.two (.leaf) (.two (.two (.join [1, 3, 4, 8, 9, 10] [1, 4] [⟨.normal, [], [.tmp 62 (.bool)]⟩] (.segs [(10, ([1, 3, 4, 8, 9, 10], ([1, 4], [.tmp 24 (.bool)]))), (5, ([1, 3, 4, 8, 9, 10], ([1, 4], [.tmp 29 (.bool)]))), (5, ([1, 3, 4, 8, 9, 10], ([1, 4], [.tmp 34 (.bool)]))), (5, ([1, 3, 4, 8, 9, 10], ([1, 4], [.tmp 39 (.bool)]))), (5, ([1, 3, 4, 8, 9, 10], ([1, 4], [.tmp 44 (.bool)]))), (5, ([1, 3, 4, 8, 9, 10], ([1, 4], [.tmp 49 (.bool)])))])) (.two (.two (.leaf) (.leaf)) (.leaf))) (.two (.leaf) (.one (.loop [1, 4, 8, 9, 10, 66, 67] [1, 4] [] [.tmp 68 (.int .i64)] [⟨.exit 2, [], []⟩, ⟨.ret, [], [.tmp 2 (.bool)]⟩] (.two (.leaf) (.two (.two (.leaf) (.leaf)) (.two (.one (.two (.leaf) (.two (.join [1, 4, 8, 9, 10, 66, 67, 68] [1, 4] [⟨.normal, [], [.tmp 91 (.bool)]⟩] (.leaf)) (.two (.two (.leaf) (.leaf)) (.leaf))))) (.leaf)))))))))) (.leaf))))))) (.two (.leaf) (.leaf)))
theorem s53 : SoundF cx.P cx.G 53 sg53 r53 := by
  have e : denF cx [(44, ⟨sg44, r44⟩)] an53 Try.f53.ntmps (Try.f53.body.getD .skip) Try.f53.results.toList sg53 = r53 := by kernel_rfl
  rw [← e]
  exact sound_of_den (c := cx) (Known.cons (.ofF s44 (by kernel_rfl)) Try.func44 (by kernel_rfl) (by kernel_rfl) (Known.nil)) Try.func53 (by kernel_rfl) (Nat.le_of_ble_eq_true (by kernel_rfl)) rfl

/-! reredos/store.Check -/
def sg32 : Sig := ⟨[⟨true, .bo, (.pair (.sl (.pair (.int .i64) (.pair (.int .i64) (.int .i64)))) (.pair (.sl (.pair (.pair (.int .i64) (.int .i64)) (.pair (.int .i64) (.pair .bool (.pair (.int .i64) (.int .i64)))))) (.pair (.sl (.pair (.pair (.int .i64) (.int .i64)) (.int .i64))) (.sl (.pair (.int .i64) (.int .i64))))))⟩], [⟨false, .own, (.int .i64)⟩]⟩
noncomputable def r32 (a : (List ((Int × (Int × Int))) × (List (((Int × Int) × (Int × (Bool × (Int × Int))))) × (List (((Int × Int) × Int)) × List ((Int × Int)))))) : Option Int :=
  Option.bind (
    Option.bind (
      Option.bind (r51 a.1) fun (y9 : Bool) =>
        bif !(!(y9)) then
          Option.bind (r52 a) fun (y10 : Bool) =>
            some !(y10)
        else
          some true) fun (g11 : Bool) =>
      bif !(g11) then
        Option.bind (r53 a) fun (y12 : Bool) =>
          some !(y12)
      else
        some true) fun (d13 : Bool) =>
    bif d13 then
      some (9 : Int)
    else
      some (0 : Int)
def an32 : Ann := .two (.leaf) (.two (.two (.join [] [] [⟨.normal, [], [.tmp 16 (.bool)]⟩] (.segs [(9, ([1], ([1], [.tmp 11 (.bool)])))])) (.two (.two (.leaf) (.leaf)) (.leaf))) (.two (.leaf) (.leaf)))
theorem s32 : SoundF cx.P cx.G 32 sg32 r32 := by
  have e : denF cx [(51, ⟨sg51, r51⟩), (52, ⟨sg52, r52⟩), (53, ⟨sg53, r53⟩)] an32 Try.f32.ntmps (Try.f32.body.getD .skip) Try.f32.results.toList sg32 = r32 := by kernel_rfl
  rw [← e]
  exact sound_of_den (c := cx) (Known.cons (.ofF s51 (by kernel_rfl)) Try.func51 (by kernel_rfl) (by kernel_rfl) (Known.cons (.ofF s52 (by kernel_rfl)) Try.func52 (by kernel_rfl) (by kernel_rfl) (Known.cons (.ofF s53 (by kernel_rfl)) Try.func53 (by kernel_rfl) (by kernel_rfl) (Known.nil)))) Try.func32 (by kernel_rfl) (Nat.le_of_ble_eq_true (by kernel_rfl)) rfl

/-! reredos/store.call -/
def sg15 : Sig := ⟨[⟨true, .bo, (.pair (.sl (.pair (.int .i64) (.pair (.int .i64) (.int .i64)))) (.pair (.sl (.pair (.pair (.int .i64) (.int .i64)) (.pair (.int .i64) (.pair .bool (.pair (.int .i64) (.int .i64)))))) (.pair (.sl (.pair (.pair (.int .i64) (.int .i64)) (.int .i64))) (.sl (.pair (.int .i64) (.int .i64))))))⟩, ⟨true, .bo, (.pair (.int .i64) (.int .i64))⟩, ⟨false, .bo, (.int .i64)⟩], [⟨false, .own, (.int .i64)⟩]⟩
noncomputable def r15 (a : ((List ((Int × (Int × Int))) × (List (((Int × Int) × (Int × (Bool × (Int × Int))))) × (List (((Int × Int) × Int)) × List ((Int × Int))))) × ((Int × Int) × Int))) : Option Int :=
  Option.bind (r32 a.1) fun (y1 : Int) =>
    bif !(decide (y1 = (0 : Int))) then
      some y1
    else
      Option.bind (
        Option.bind (
          Option.bind (r33 a.2.1) fun (y6 : Bool) =>
            bif !(!(y6)) then
              some (decide (a.2.2 < (0 : Int)))
            else
              some true) fun (g7 : Bool) =>
          bif !(g7) then
            some (decide ((8 : Int) ≤ a.2.2))
          else
            some true) fun (d8 : Bool) =>
        bif d8 then
          some (2 : Int)
        else
          some (0 : Int)
def an15 : Ann := .two (.leaf) (.two (.two (.leaf) (.two (.leaf) (.two (.two (.leaf) (.leaf)) (.leaf)))) (.two (.two (.join [] [] [⟨.normal, [], [.tmp 23 (.bool)]⟩] (.segs [(7, ([2], ([], [.tmp 19 (.bool)])))])) (.two (.two (.leaf) (.leaf)) (.leaf))) (.two (.leaf) (.leaf))))
theorem s15 : SoundF cx.P cx.G 15 sg15 r15 := by
  have e : denF cx [(32, ⟨sg32, r32⟩), (33, ⟨sg33, r33⟩)] an15 Try.f15.ntmps (Try.f15.body.getD .skip) Try.f15.results.toList sg15 = r15 := by kernel_rfl
  rw [← e]
  exact sound_of_den (c := cx) (Known.cons (.ofF s32 (by kernel_rfl)) Try.func32 (by kernel_rfl) (by kernel_rfl) (Known.cons (.ofF s33 (by kernel_rfl)) Try.func33 (by kernel_rfl) (by kernel_rfl) (Known.nil))) Try.func15 (by kernel_rfl) (Nat.le_of_ble_eq_true (by kernel_rfl)) rfl

/-! cmp.isNaN[int] -/
def sg57 : Sig := ⟨[⟨false, .bo, (.int .i64)⟩], [⟨false, .own, .bool⟩]⟩
noncomputable def r57 (a : Int) : Option Bool :=
  some (!(decide (a = a)))
def an57 : Ann := .two (.leaf) (.two (.leaf) (.leaf))
theorem s57 : SoundF cx.P cx.G 57 sg57 r57 := by
  have e : denF cx [] an57 Try.f57.ntmps (Try.f57.body.getD .skip) Try.f57.results.toList sg57 = r57 := by kernel_rfl
  rw [← e]
  exact sound_of_den (c := cx) (Known.nil) Try.func57 (by kernel_rfl) (Nat.le_of_ble_eq_true (by kernel_rfl)) rfl

/-! cmp.Compare[int] -/
def sg47 : Sig := ⟨[⟨false, .bo, (.int .i64)⟩, ⟨false, .bo, (.int .i64)⟩], [⟨false, .own, (.int .i64)⟩]⟩
noncomputable def r47 (a : (Int × Int)) : Option Int :=
  Option.bind (r57 a.1) fun (y1 : Bool) =>
    Option.bind (r57 a.2) fun (y2 : Bool) =>
      bif y1 then
        bif y2 then
          some (0 : Int)
        else
          some (-1 : Int)
      else
        bif y2 then
          some (1 : Int)
        else
          bif decide (a.1 < a.2) then
            some (-1 : Int)
          else
            bif decide (a.2 < a.1) then
              some (1 : Int)
            else
              some (0 : Int)
def an47 : Ann := .two (.leaf) (.two (.leaf) (.two (.leaf) (.two (.two (.leaf) (.two (.two (.two (.leaf) (.two (.two (.leaf) (.leaf)) (.leaf))) (.two (.leaf) (.leaf))) (.leaf))) (.two (.two (.leaf) (.two (.two (.leaf) (.leaf)) (.leaf))) (.two (.two (.leaf) (.two (.two (.leaf) (.leaf)) (.leaf))) (.two (.two (.leaf) (.two (.two (.leaf) (.leaf)) (.leaf))) (.two (.leaf) (.leaf))))))))
theorem s47 : SoundF cx.P cx.G 47 sg47 r47 := by
  have e : denF cx [(57, ⟨sg57, r57⟩)] an47 Try.f47.ntmps (Try.f47.body.getD .skip) Try.f47.results.toList sg47 = r47 := by kernel_rfl
  rw [← e]
  exact sound_of_den (c := cx) (Known.cons (.ofF s57 (by kernel_rfl)) Try.func57 (by kernel_rfl) (by kernel_rfl) (Known.nil)) Try.func47 (by kernel_rfl) (Nat.le_of_ble_eq_true (by kernel_rfl)) rfl

/-! reredos/store.at$1 -/
def sg46 : Sig := ⟨[⟨true, .bo, (.pair (.int .i64) (.pair (.int .i64) (.int .i64)))⟩, ⟨false, .bo, (.int .i64)⟩], [⟨false, .own, (.int .i64)⟩]⟩
noncomputable def r46 (a : ((Int × (Int × Int)) × Int)) : Option Int :=
  Option.bind (r47 (a.1.1, a.2)) fun (y1 : Int) =>
    some y1
def an46 : Ann := .two (.leaf) (.two (.leaf) (.leaf))
theorem s46 : SoundF cx.P cx.G 46 sg46 r46 := by
  have e : denF cx [(47, ⟨sg47, r47⟩)] an46 Try.f46.ntmps (Try.f46.body.getD .skip) Try.f46.results.toList sg46 = r46 := by kernel_rfl
  rw [← e]
  exact sound_of_den (c := cx) (Known.cons (.ofF s47 (by kernel_rfl)) Try.func47 (by kernel_rfl) (by kernel_rfl) (Known.nil)) Try.func46 (by kernel_rfl) (Nat.le_of_ble_eq_true (by kernel_rfl)) rfl

/-! reredos/store.at -/
noncomputable def r26_L0 (a : (List ((Int × (Int × Int))) × Int)) (d13 : (Int × Int)) : Option ((Int × Int) ⊕ Int) :=
  bif decide (d13.1 < d13.2) then
    Option.bind (idxI a.1 (Go.IntKind.wrap .i64 (Int.fdiv (Go.IntKind.wrap .u64 (Go.IntKind.wrap .i64 (d13.1 + d13.2))) (2 ^ 1)))) fun (b14 : (Int × (Int × Int))) =>
      Option.bind (r47 (b14.1, a.2)) fun (y15 : Int) =>
        bif decide (y15 < (0 : Int)) then
          some (Sum.inl ((Go.IntKind.wrap .i64 ((Go.IntKind.wrap .i64 (Int.fdiv (Go.IntKind.wrap .u64 (Go.IntKind.wrap .i64 (d13.1 + d13.2))) (2 ^ 1))) + (1 : Int))), d13.2))
        else
          some (Sum.inl (d13.1, (Go.IntKind.wrap .i64 (Int.fdiv (Go.IntKind.wrap .u64 (Go.IntKind.wrap .i64 (d13.1 + d13.2))) (2 ^ 1)))))
  else
    some (Sum.inr d13.1)
def sg26 : Sig := ⟨[⟨false, .bo, (.sl (.pair (.int .i64) (.pair (.int .i64) (.int .i64))))⟩, ⟨false, .bo, (.int .i64)⟩], [⟨false, .own, (.int .i64)⟩, ⟨false, .own, .bool⟩]⟩
noncomputable def r26 (a : (List ((Int × (Int × Int))) × Int)) : Option (Int × Bool) :=
  Option.bind (
    Option.bind (loopR (r26_L0 a) ((0 : Int), (↑a.1.length : Int))) fun (q16 : Int) =>
      bif decide (q16 < (↑a.1.length : Int)) then
        Option.bind (idxI a.1 q16) fun (b17 : (Int × (Int × Int))) =>
          Option.bind (r47 (b17.1, a.2)) fun (y18 : Int) =>
            some (q16, decide (y18 = (0 : Int)))
      else
        some (q16, false)) fun (d19 : (Int × Bool)) =>
    some d19
def an26 : Ann := .two (.leaf) (.two (.inl 2 11 (.join [] [] [⟨.ret, [], [.tmp 17 (.int .i64), .tmp 18 (.bool)]⟩] (.two (.leaf) (.two (.leaf) (.two (.leaf) (.two (.one (.loop [11, 12, 13, 19] [] [] [.tmp 20 (.int .i64), .tmp 21 (.int .i64)] [⟨.exit 0, [], [.tmp 20 (.int .i64)]⟩] (.two (.two (.leaf) (.two (.leaf) (.leaf))) (.one (.two (.leaf) (.two (.inl 6 60 (.two (.leaf) (.two (.leaf) (.leaf))) (.leaf)) (.two (.leaf) (.leaf)))))))) (.two (.inl 11 69 (.two (.leaf) (.two (.leaf) (.leaf))) (.leaf)) (.leaf))))))) (.leaf)) (.leaf))
theorem s26 : SoundF cx.P cx.G 26 sg26 r26 := by
  have e : denF cx [(47, ⟨sg47, r47⟩)] an26 Try.f26.ntmps (Try.f26.body.getD .skip) Try.f26.results.toList sg26 = r26 := by kernel_rfl
  rw [← e]
  exact sound_of_den (c := cx) (Known.cons (.ofF s47 (by kernel_rfl)) Try.func47 (by kernel_rfl) (by kernel_rfl) (Known.nil)) Try.func26 (by kernel_rfl) (Nat.le_of_ble_eq_true (by kernel_rfl)) rfl

/-! reredos/store.item -/
def sg20 : Sig := ⟨[⟨true, .bo, (.pair (.sl (.pair (.int .i64) (.pair (.int .i64) (.int .i64)))) (.pair (.sl (.pair (.pair (.int .i64) (.int .i64)) (.pair (.int .i64) (.pair .bool (.pair (.int .i64) (.int .i64)))))) (.pair (.sl (.pair (.pair (.int .i64) (.int .i64)) (.int .i64))) (.sl (.pair (.int .i64) (.int .i64))))))⟩, ⟨false, .bo, (.int .i64)⟩], [⟨true, .own, (.pair (.int .i64) (.pair (.int .i64) (.int .i64)))⟩]⟩
noncomputable def r20 (a : ((List ((Int × (Int × Int))) × (List (((Int × Int) × (Int × (Bool × (Int × Int))))) × (List (((Int × Int) × Int)) × List ((Int × Int))))) × Int)) : Option (Int × (Int × Int)) :=
  Option.bind (r26 (a.1.1, a.2)) fun (y1 : (Int × Bool)) =>
    bif y1.2 then
      Option.bind (idxI a.1.1 y1.1) fun (b2 : (Int × (Int × Int))) =>
        some b2
    else
      some (a.2, ((0 : Int), (0 : Int)))
def an20 : Ann := .two (.leaf) (.two (.two (.leaf) (.two (.leaf) (.two (.two (.leaf) (.leaf)) (.leaf)))) (.two (.leaf) (.leaf)))
theorem s20 : SoundF cx.P cx.G 20 sg20 r20 := by
  have e : denF cx [(26, ⟨sg26, r26⟩)] an20 Try.f20.ntmps (Try.f20.body.getD .skip) Try.f20.results.toList sg20 = r20 := by kernel_rfl
  rw [← e]
  exact sound_of_den (c := cx) (Known.cons (.ofF s26 (by kernel_rfl)) Try.func26 (by kernel_rfl) (by kernel_rfl) (Known.nil)) Try.func20 (by kernel_rfl) (Nat.le_of_ble_eq_true (by kernel_rfl)) rfl

/-! reredos/store.lock -/
noncomputable def r21_L0 (a : ((List ((Int × (Int × Int))) × (List (((Int × Int) × (Int × (Bool × (Int × Int))))) × (List (((Int × Int) × Int)) × List ((Int × Int))))) × ((Int × Int) × Int))) (d13 : Int) : Option (Int ⊕ (Unit ⊕ Int)) :=
  bif decide (d13 < (↑a.1.2.1.length : Int)) then
    Option.bind (idxI a.1.2.1 d13) fun (b14 : ((Int × Int) × (Int × (Bool × (Int × Int))))) =>
      Option.bind (
        bif (decide (b14.1.1 = a.2.1.1) && (decide (b14.1.2 = a.2.1.2) && true)) then
          some (decide (b14.2.1 = a.2.2))
        else
          some false) fun (d15 : Bool) =>
        bif d15 then
          some (Sum.inr (Sum.inr d13))
        else
          some (Sum.inl (Go.IntKind.wrap .i64 (d13 + (1 : Int))))
  else
    some (Sum.inr (Sum.inl ()))
def sg21 : Sig := ⟨[⟨true, .bo, (.pair (.sl (.pair (.int .i64) (.pair (.int .i64) (.int .i64)))) (.pair (.sl (.pair (.pair (.int .i64) (.int .i64)) (.pair (.int .i64) (.pair .bool (.pair (.int .i64) (.int .i64)))))) (.pair (.sl (.pair (.pair (.int .i64) (.int .i64)) (.int .i64))) (.sl (.pair (.int .i64) (.int .i64))))))⟩, ⟨true, .bo, (.pair (.int .i64) (.int .i64))⟩, ⟨false, .bo, (.int .i64)⟩], [⟨false, .own, (.int .i64)⟩]⟩
noncomputable def r21 (a : ((List ((Int × (Int × Int))) × (List (((Int × Int) × (Int × (Bool × (Int × Int))))) × (List (((Int × Int) × Int)) × List ((Int × Int))))) × ((Int × Int) × Int))) : Option Int :=
  Option.bind (
    Option.bind (loopR (r21_L0 a) (0 : Int)) fun (q16 : (Unit ⊕ Int)) =>
      Sum.elim (fun (_ : Unit) =>
          some (-1 : Int))
        (fun (v18 : Int) =>
          some v18) q16) fun (d19 : Int) =>
    some d19
def an21 : Ann := .two (.leaf) (.two (.inl 3 11 (.join [] [] [⟨.ret, [], [.tmp 15 (.int .i64)]⟩] (.two (.leaf) (.two (.two (.leaf) (.one (.loop [11, 12, 18] [4, 5] [] [.tmp 19 (.int .i64)] [⟨.exit 0, [], []⟩, ⟨.ret, [], [.tmp 15 (.int .i64)]⟩] (.two (.leaf) (.two (.two (.leaf) (.leaf)) (.two (.one (.two (.leaf) (.two (.inl 5 30 (.join [11, 12, 16, 18, 19] [4, 5] [⟨.ret, [], [.tmp 34 (.bool)]⟩] (.two (.leaf) (.two (.leaf) (.leaf)))) (.leaf)) (.two (.two (.leaf) (.leaf)) (.leaf))))) (.leaf))))))) (.two (.leaf) (.leaf))))) (.leaf)) (.leaf))
theorem s21 : SoundF cx.P cx.G 21 sg21 r21 := by
  have e : denF cx [] an21 Try.f21.ntmps (Try.f21.body.getD .skip) Try.f21.results.toList sg21 = r21 := by kernel_rfl
  rw [← e]
  exact sound_of_den (c := cx) (Known.nil) Try.func21 (by kernel_rfl) (Nat.le_of_ble_eq_true (by kernel_rfl)) rfl

/-! slices.Clone[[]reredos/api.Item,reredos/api.Item] -/
def sg35 : Sig := ⟨[⟨false, .bo, (.sl (.pair (.int .i64) (.pair (.int .i64) (.int .i64))))⟩], [⟨false, .own, (.sl (.pair (.int .i64) (.pair (.int .i64) (.int .i64))))⟩]⟩
noncomputable def r35 (a : List ((Int × (Int × Int)))) : Option (List ((Int × (Int × Int)))) :=
  nilR a fun (n1 : Bool) =>
    bif n1 then
      some []
    else
      bif roomOk false 0 a.length 24 then
        some a
      else
        none
def an35 : Ann := .two (.leaf) (.two (.two (.leaf) (.two (.two (.leaf) (.leaf)) (.leaf))) (.two (.leaf) (.leaf)))
theorem s35 : SoundF cx.P cx.G 35 sg35 r35 := by
  have e : denF cx [] an35 Try.f35.ntmps (Try.f35.body.getD .skip) Try.f35.results.toList sg35 = r35 := by kernel_rfl
  rw [← e]
  exact sound_of_den (c := cx) (Known.nil) Try.func35 (by kernel_rfl) (Nat.le_of_ble_eq_true (by kernel_rfl)) rfl

/-! slices.Clone[[]reredos/api.Lock,reredos/api.Lock] -/
def sg36 : Sig := ⟨[⟨false, .bo, (.sl (.pair (.pair (.int .i64) (.int .i64)) (.pair (.int .i64) (.pair .bool (.pair (.int .i64) (.int .i64))))))⟩], [⟨false, .own, (.sl (.pair (.pair (.int .i64) (.int .i64)) (.pair (.int .i64) (.pair .bool (.pair (.int .i64) (.int .i64))))))⟩]⟩
noncomputable def r36 (a : List (((Int × Int) × (Int × (Bool × (Int × Int)))))) : Option (List (((Int × Int) × (Int × (Bool × (Int × Int)))))) :=
  nilR a fun (n1 : Bool) =>
    bif n1 then
      some []
    else
      bif roomOk false 0 a.length 48 then
        some a
      else
        none
def an36 : Ann := .two (.leaf) (.two (.two (.leaf) (.two (.two (.leaf) (.leaf)) (.leaf))) (.two (.leaf) (.leaf)))
theorem s36 : SoundF cx.P cx.G 36 sg36 r36 := by
  have e : denF cx [] an36 Try.f36.ntmps (Try.f36.body.getD .skip) Try.f36.results.toList sg36 = r36 := by kernel_rfl
  rw [← e]
  exact sound_of_den (c := cx) (Known.nil) Try.func36 (by kernel_rfl) (Nat.le_of_ble_eq_true (by kernel_rfl)) rfl

/-! slices.Clone[[]reredos/api.Doubt,reredos/api.Doubt] -/
def sg37 : Sig := ⟨[⟨false, .bo, (.sl (.pair (.pair (.int .i64) (.int .i64)) (.int .i64)))⟩], [⟨false, .own, (.sl (.pair (.pair (.int .i64) (.int .i64)) (.int .i64)))⟩]⟩
noncomputable def r37 (a : List (((Int × Int) × Int))) : Option (List (((Int × Int) × Int))) :=
  nilR a fun (n1 : Bool) =>
    bif n1 then
      some []
    else
      bif roomOk false 0 a.length 24 then
        some a
      else
        none
def an37 : Ann := .two (.leaf) (.two (.two (.leaf) (.two (.two (.leaf) (.leaf)) (.leaf))) (.two (.leaf) (.leaf)))
theorem s37 : SoundF cx.P cx.G 37 sg37 r37 := by
  have e : denF cx [] an37 Try.f37.ntmps (Try.f37.body.getD .skip) Try.f37.results.toList sg37 = r37 := by kernel_rfl
  rw [← e]
  exact sound_of_den (c := cx) (Known.nil) Try.func37 (by kernel_rfl) (Nat.le_of_ble_eq_true (by kernel_rfl)) rfl

/-! slices.Clone[[]reredos/api.Txn,reredos/api.Txn] -/
def sg38 : Sig := ⟨[⟨false, .bo, (.sl (.pair (.int .i64) (.int .i64)))⟩], [⟨false, .own, (.sl (.pair (.int .i64) (.int .i64)))⟩]⟩
noncomputable def r38 (a : List ((Int × Int))) : Option (List ((Int × Int))) :=
  nilR a fun (n1 : Bool) =>
    bif n1 then
      some []
    else
      bif roomOk false 0 a.length 16 then
        some a
      else
        none
def an38 : Ann := .two (.leaf) (.two (.two (.leaf) (.two (.two (.leaf) (.leaf)) (.leaf))) (.two (.leaf) (.leaf)))
theorem s38 : SoundF cx.P cx.G 38 sg38 r38 := by
  have e : denF cx [] an38 Try.f38.ntmps (Try.f38.body.getD .skip) Try.f38.results.toList sg38 = r38 := by kernel_rfl
  rw [← e]
  exact sound_of_den (c := cx) (Known.nil) Try.func38 (by kernel_rfl) (Nat.le_of_ble_eq_true (by kernel_rfl)) rfl

/-! reredos/store.own -/
def sg22 : Sig := ⟨[⟨true, .bo, (.pair (.sl (.pair (.int .i64) (.pair (.int .i64) (.int .i64)))) (.pair (.sl (.pair (.pair (.int .i64) (.int .i64)) (.pair (.int .i64) (.pair .bool (.pair (.int .i64) (.int .i64)))))) (.pair (.sl (.pair (.pair (.int .i64) (.int .i64)) (.int .i64))) (.sl (.pair (.int .i64) (.int .i64))))))⟩], [⟨true, .own, (.pair (.sl (.pair (.int .i64) (.pair (.int .i64) (.int .i64)))) (.pair (.sl (.pair (.pair (.int .i64) (.int .i64)) (.pair (.int .i64) (.pair .bool (.pair (.int .i64) (.int .i64)))))) (.pair (.sl (.pair (.pair (.int .i64) (.int .i64)) (.int .i64))) (.sl (.pair (.int .i64) (.int .i64))))))⟩]⟩
noncomputable def r22 (a : (List ((Int × (Int × Int))) × (List (((Int × Int) × (Int × (Bool × (Int × Int))))) × (List (((Int × Int) × Int)) × List ((Int × Int)))))) : Option (List ((Int × (Int × Int))) × (List (((Int × Int) × (Int × (Bool × (Int × Int))))) × (List (((Int × Int) × Int)) × List ((Int × Int))))) :=
  Option.bind (r35 a.1) fun (y5 : List ((Int × (Int × Int)))) =>
    Option.bind (r36 a.2.1) fun (y6 : List (((Int × Int) × (Int × (Bool × (Int × Int)))))) =>
      Option.bind (r37 a.2.2.1) fun (y7 : List (((Int × Int) × Int))) =>
        Option.bind (r38 a.2.2.2) fun (y8 : List ((Int × Int))) =>
          some (y5, (y6, (y7, y8)))
def an22 : Ann := .two (.leaf) (.two (.draw 11) (.leaf))
theorem s22 : SoundF cx.P cx.G 22 sg22 r22 := by
  have e : denF cx [(35, ⟨sg35, r35⟩), (36, ⟨sg36, r36⟩), (37, ⟨sg37, r37⟩), (38, ⟨sg38, r38⟩)] an22 Try.f22.ntmps (Try.f22.body.getD .skip) Try.f22.results.toList sg22 = r22 := by kernel_rfl
  rw [← e]
  exact sound_of_den (c := cx) (Known.cons (.ofF s35 (by kernel_rfl)) Try.func35 (by kernel_rfl) (by kernel_rfl) (Known.cons (.ofF s36 (by kernel_rfl)) Try.func36 (by kernel_rfl) (by kernel_rfl) (Known.cons (.ofF s37 (by kernel_rfl)) Try.func37 (by kernel_rfl) (by kernel_rfl) (Known.cons (.ofF s38 (by kernel_rfl)) Try.func38 (by kernel_rfl) (by kernel_rfl) (Known.nil))))) Try.func22 (by kernel_rfl) (Nat.le_of_ble_eq_true (by kernel_rfl)) rfl

/-! reredos/store.busy -/
noncomputable def r24_L0 (a : ((List ((Int × (Int × Int))) × (List (((Int × Int) × (Int × (Bool × (Int × Int))))) × (List (((Int × Int) × Int)) × List ((Int × Int))))) × ((Int × Int) × (Int × Bool)))) (d19 : Int) : Option (Int ⊕ (Unit ⊕ Int)) :=
  bif decide (d19 < (↑a.1.2.1.length : Int)) then
    Option.bind (idxI a.1.2.1 d19) fun (b20 : ((Int × Int) × (Int × (Bool × (Int × Int))))) =>
      Option.bind (
        Option.bind (
          bif decide (b20.2.1 = a.2.2.1) then
            some (!((decide (b20.1.1 = a.2.1.1) && (decide (b20.1.2 = a.2.1.2) && true))))
          else
            some false) fun (g23 : Bool) =>
          bif g23 then
            bif !(a.2.2.2) then
              some b20.2.2.1
            else
              some true
          else
            some false) fun (d24 : Bool) =>
        bif d24 then
          some (Sum.inr (Sum.inr d19))
        else
          some (Sum.inl (Go.IntKind.wrap .i64 (d19 + (1 : Int))))
  else
    some (Sum.inr (Sum.inl ()))
def sg24 : Sig := ⟨[⟨true, .bo, (.pair (.sl (.pair (.int .i64) (.pair (.int .i64) (.int .i64)))) (.pair (.sl (.pair (.pair (.int .i64) (.int .i64)) (.pair (.int .i64) (.pair .bool (.pair (.int .i64) (.int .i64)))))) (.pair (.sl (.pair (.pair (.int .i64) (.int .i64)) (.int .i64))) (.sl (.pair (.int .i64) (.int .i64))))))⟩, ⟨true, .bo, (.pair (.int .i64) (.int .i64))⟩, ⟨false, .bo, (.int .i64)⟩, ⟨false, .bo, .bool⟩], [⟨false, .own, .bool⟩]⟩
noncomputable def r24 (a : ((List ((Int × (Int × Int))) × (List (((Int × Int) × (Int × (Bool × (Int × Int))))) × (List (((Int × Int) × Int)) × List ((Int × Int))))) × ((Int × Int) × (Int × Bool)))) : Option Bool :=
  Option.bind (
    Option.bind (loopR (r24_L0 a) (0 : Int)) fun (q25 : (Unit ⊕ Int)) =>
      Sum.elim (fun (_ : Unit) =>
          some (-1 : Int))
        (fun (v27 : Int) =>
          some v27) q25) fun (d28 : Int) =>
    some (decide ((0 : Int) ≤ d28))
def an24 : Ann := .two (.leaf) (.two (.inl 3 13 (.two (.leaf) (.two (.inl 2 22 (.join [] [] [⟨.ret, [], [.tmp 26 (.int .i64)]⟩] (.two (.leaf) (.two (.two (.leaf) (.one (.loop [22, 23, 29] [5, 6, 7] [] [.tmp 30 (.int .i64)] [⟨.exit 0, [], []⟩, ⟨.ret, [], [.tmp 26 (.int .i64)]⟩] (.two (.leaf) (.two (.two (.leaf) (.leaf)) (.two (.one (.two (.leaf) (.two (.inl 5 41 (.join [22, 23, 27, 29, 30] [5, 6, 7] [⟨.ret, [], [.tmp 46 (.bool)]⟩] (.two (.leaf) (.two (.segs [(10, ([22, 23, 27, 29, 30, 44, 45], ([5, 6, 7, 45], [.tmp 56 (.bool)])))]) (.leaf)))) (.leaf)) (.two (.two (.leaf) (.leaf)) (.leaf))))) (.leaf))))))) (.two (.leaf) (.leaf))))) (.leaf)) (.leaf))) (.leaf)) (.leaf))
theorem s24 : SoundF cx.P cx.G 24 sg24 r24 := by
  have e : denF cx [] an24 Try.f24.ntmps (Try.f24.body.getD .skip) Try.f24.results.toList sg24 = r24 := by kernel_rfl
  rw [← e]
  exact sound_of_den (c := cx) (Known.nil) Try.func24 (by kernel_rfl) (Nat.le_of_ble_eq_true (by kernel_rfl)) rfl

/-! reredos/store.hand -/
def sg25 : Sig := ⟨[⟨false, .own, (.ptr (.pair (.sl (.pair (.int .i64) (.pair (.int .i64) (.int .i64)))) (.pair (.sl (.pair (.pair (.int .i64) (.int .i64)) (.pair (.int .i64) (.pair .bool (.pair (.int .i64) (.int .i64)))))) (.pair (.sl (.pair (.pair (.int .i64) (.int .i64)) (.int .i64))) (.sl (.pair (.int .i64) (.int .i64)))))))⟩, ⟨true, .bo, (.pair (.int .i64) (.int .i64))⟩], [⟨false, .own, (.ptr (.pair (.sl (.pair (.int .i64) (.pair (.int .i64) (.int .i64)))) (.pair (.sl (.pair (.pair (.int .i64) (.int .i64)) (.pair (.int .i64) (.pair .bool (.pair (.int .i64) (.int .i64)))))) (.pair (.sl (.pair (.pair (.int .i64) (.int .i64)) (.int .i64))) (.sl (.pair (.int .i64) (.int .i64)))))))⟩]⟩
noncomputable def r25 (a : ((List ((Int × (Int × Int))) × (List (((Int × Int) × (Int × (Bool × (Int × Int))))) × (List (((Int × Int) × Int)) × List ((Int × Int))))) × (Int × Int))) : Option (List ((Int × (Int × Int))) × (List (((Int × Int) × (Int × (Bool × (Int × Int))))) × (List (((Int × Int) × Int)) × List ((Int × Int))))) :=
  Option.bind (r44 (a.1, a.2)) fun (y2 : Bool) =>
    bif !(y2) then
      Option.bind (
        
          bif roomOk false a.1.2.2.1.length 1 24 then
            some ((), (a.1.1, (a.1.2.1, (app a.1.2.2.1 [(a.2, (0 : Int))], a.1.2.2.2))))
          else
            none) fun (d3 : (Unit × (List ((Int × (Int × Int))) × (List (((Int × Int) × (Int × (Bool × (Int × Int))))) × (List (((Int × Int) × Int)) × List ((Int × Int))))))) =>
        some d3.2
    else
      some a.1
noncomputable def r25q : ((List ((Int × (Int × Int))) × (List (((Int × Int) × (Int × (Bool × (Int × Int))))) × (List (((Int × Int) × Int)) × List ((Int × Int))))) × (Int × Int)) → Option (List ((Int × (Int × Int))) × (List (((Int × Int) × (Int × (Bool × (Int × Int))))) × (List (((Int × Int) × Int)) × List ((Int × Int))))) := fun a =>
  Option.bind (r44 (a.1, a.2)) fun (y2 : Bool) =>
    bif !(y2) then
      Option.bind (
        sameR (
          bif roomOk false a.1.2.2.1.length 1 24 then
            some ((), (a.1.1, (a.1.2.1, (app a.1.2.2.1 [(a.2, (0 : Int))], a.1.2.2.2))))
          else
            none)
 (
          sameR (
            bif roomOk false a.1.2.2.1.length 1 24 then
              some ((), (a.1.1, (a.1.2.1, (app a.1.2.2.1 [(a.2, (0 : Int))], a.1.2.2.2))))
            else
              none)
 (
            bif roomOk false a.1.2.2.1.length 1 24 then
              some ((), (a.1.1, (a.1.2.1, (app a.1.2.2.1 [(a.2, (0 : Int))], a.1.2.2.2))))
            else
              none))) fun (d3 : (Unit × (List ((Int × (Int × Int))) × (List (((Int × Int) × (Int × (Bool × (Int × Int))))) × (List (((Int × Int) × Int)) × List ((Int × Int))))))) =>
        some d3.2
    else
      some a.1
theorem r25e : r25q = r25 := by unfold r25q r25; simp only [sameR_self]
def an25 : Ann := .two (.leaf) (.two (.draw 4) (.two (.join [] [] [⟨.normal, [], [.tmp 0 (.pt 0 [(0, 0)] 0 0 0), .box 0 [.sl .own (.pair (.int .i64) (.pair (.int .i64) (.int .i64))), .sl .own (.pair (.pair (.int .i64) (.int .i64)) (.pair (.int .i64) (.pair .bool (.pair (.int .i64) (.int .i64))))), .sl .own (.pair (.pair (.int .i64) (.int .i64)) (.int .i64)), .sl .own (.pair (.int .i64) (.int .i64))]]⟩] (.drawT [0, 1, 2, 3, 4, 5, 6, 7] [0])) (.leaf)))
theorem s25 : SoundM cx.P cx.G 25 sg25 r25 := by
  have e : denM cx [(44, ⟨sg44, r44⟩)] an25 Try.f25.ntmps (Try.f25.body.getD .skip) Try.f25.results.toList sg25 = r25q := by kernel_rfl
  rw [← r25e, ← e]
  exact sound_of_denM (c := cx) (Known.cons (.ofF s44 (by kernel_rfl)) Try.func44 (by kernel_rfl) (by kernel_rfl) (Known.nil)) Try.func25 (by kernel_rfl) (Nat.le_of_ble_eq_true (by kernel_rfl)) rfl

/-! reredos/store.Read -/
def sg12 : Sig := ⟨[⟨true, .bo, (.pair (.sl (.pair (.int .i64) (.pair (.int .i64) (.int .i64)))) (.pair (.sl (.pair (.pair (.int .i64) (.int .i64)) (.pair (.int .i64) (.pair .bool (.pair (.int .i64) (.int .i64)))))) (.pair (.sl (.pair (.pair (.int .i64) (.int .i64)) (.int .i64))) (.sl (.pair (.int .i64) (.int .i64))))))⟩, ⟨true, .bo, (.pair (.int .i64) (.int .i64))⟩, ⟨false, .bo, (.int .i64)⟩], [⟨true, .own, (.pair (.sl (.pair (.int .i64) (.pair (.int .i64) (.int .i64)))) (.pair (.sl (.pair (.pair (.int .i64) (.int .i64)) (.pair (.int .i64) (.pair .bool (.pair (.int .i64) (.int .i64)))))) (.pair (.sl (.pair (.pair (.int .i64) (.int .i64)) (.int .i64))) (.sl (.pair (.int .i64) (.int .i64))))))⟩, ⟨false, .own, (.int .i64)⟩, ⟨false, .own, (.int .i64)⟩, ⟨false, .own, (.int .i64)⟩]⟩
noncomputable def r12 (a : ((List ((Int × (Int × Int))) × (List (((Int × Int) × (Int × (Bool × (Int × Int))))) × (List (((Int × Int) × Int)) × List ((Int × Int))))) × ((Int × Int) × Int))) : Option ((List ((Int × (Int × Int))) × (List (((Int × Int) × (Int × (Bool × (Int × Int))))) × (List (((Int × Int) × Int)) × List ((Int × Int))))) × (Int × (Int × Int))) :=
  Option.bind (r15 (a.1, a.2.1, a.2.2)) fun (y1 : Int) =>
    bif !(decide (y1 = (0 : Int))) then
      some (([], ([], ([], []))), ((0 : Int), ((0 : Int), y1)))
    else
      Option.bind (r20 (a.1, a.2.2)) fun (y2 : (Int × (Int × Int))) =>
        Option.bind (r21 (a.1, a.2.1, a.2.2)) fun (y3 : Int) =>
          bif decide ((0 : Int) ≤ y3) then
            Option.bind (idxI a.1.2.1 y3) fun (b4 : ((Int × Int) × (Int × (Bool × (Int × Int))))) =>
              bif b4.2.2.1 then
                Option.bind (
                  Option.bind (r22 a.1) fun (y31 : (List ((Int × (Int × Int))) × (List (((Int × Int) × (Int × (Bool × (Int × Int))))) × (List (((Int × Int) × Int)) × List ((Int × Int)))))) =>
                    Option.bind (idxI a.1.2.1 y3) fun (b32 : ((Int × Int) × (Int × (Bool × (Int × Int))))) =>
                      
                        some ((), (b32.2.2.2.1, (y2.2.2, ((0 : Int), y31))))) fun (d51 : (Unit × (Int × (Int × (Int × (List ((Int × (Int × Int))) × (List (((Int × Int) × (Int × (Bool × (Int × Int))))) × (List (((Int × Int) × Int)) × List ((Int × Int)))))))))) =>
                  some (d51.2.2.2.2, (d51.2.1, (d51.2.2.1, d51.2.2.2.1)))
              else
                Option.bind (
                  Option.bind (r22 a.1) fun (y56 : (List ((Int × (Int × Int))) × (List (((Int × Int) × (Int × (Bool × (Int × Int))))) × (List (((Int × Int) × Int)) × List ((Int × Int)))))) =>
                    
                      some ((), (y2.2.1, (y2.2.2, ((0 : Int), y56))))) fun (d57 : (Unit × (Int × (Int × (Int × (List ((Int × (Int × Int))) × (List (((Int × Int) × (Int × (Bool × (Int × Int))))) × (List (((Int × Int) × Int)) × List ((Int × Int)))))))))) =>
                  some (d57.2.2.2.2, (d57.2.1, (d57.2.2.1, d57.2.2.2.1)))
          else
            Option.bind (r23 (a.1.2.2.2, a.2.1)) fun (y58 : Bool) =>
              bif y58 then
                some (([], ([], ([], []))), ((0 : Int), ((0 : Int), (13 : Int))))
              else
                Option.bind (r24 (a.1, a.2.1, a.2.2, false)) fun (y59 : Bool) =>
                  bif y59 then
                    some (([], ([], ([], []))), ((0 : Int), ((0 : Int), (11 : Int))))
                  else
                    bif decide ((↑a.1.2.1.length : Int) = (24 : Int)) then
                      some (([], ([], ([], []))), ((0 : Int), ((0 : Int), (8 : Int))))
                    else
                      Option.bind (r22 a.1) fun (y60 : (List ((Int × (Int × Int))) × (List (((Int × Int) × (Int × (Bool × (Int × Int))))) × (List (((Int × Int) × Int)) × List ((Int × Int)))))) =>
                        bif roomOk false y60.2.1.length 1 48 then
                          Option.bind (r25 ((y60.1, (app y60.2.1 [(a.2.1, (a.2.2, (false, ((0 : Int), (0 : Int)))))], y60.2.2)), a.2.1)) fun (y61 : (List ((Int × (Int × Int))) × (List (((Int × Int) × (Int × (Bool × (Int × Int))))) × (List (((Int × Int) × Int)) × List ((Int × Int)))))) =>
                            Option.bind (
                              
                                some ((), (y2.2.1, (y2.2.2, ((0 : Int), y61))))) fun (d62 : (Unit × (Int × (Int × (Int × (List ((Int × (Int × Int))) × (List (((Int × Int) × (Int × (Bool × (Int × Int))))) × (List (((Int × Int) × Int)) × List ((Int × Int)))))))))) =>
                              some (d62.2.2.2.2, (d62.2.1, (d62.2.2.1, d62.2.2.2.1)))
                        else
                          none
noncomputable def r12q : ((List ((Int × (Int × Int))) × (List (((Int × Int) × (Int × (Bool × (Int × Int))))) × (List (((Int × Int) × Int)) × List ((Int × Int))))) × ((Int × Int) × Int)) → Option ((List ((Int × (Int × Int))) × (List (((Int × Int) × (Int × (Bool × (Int × Int))))) × (List (((Int × Int) × Int)) × List ((Int × Int))))) × (Int × (Int × Int))) := fun a =>
  Option.bind (r15 (a.1, a.2.1, a.2.2)) fun (y1 : Int) =>
    bif !(decide (y1 = (0 : Int))) then
      some (([], ([], ([], []))), ((0 : Int), ((0 : Int), y1)))
    else
      Option.bind (r20 (a.1, a.2.2)) fun (y2 : (Int × (Int × Int))) =>
        Option.bind (r21 (a.1, a.2.1, a.2.2)) fun (y3 : Int) =>
          bif decide ((0 : Int) ≤ y3) then
            Option.bind (idxI a.1.2.1 y3) fun (b4 : ((Int × Int) × (Int × (Bool × (Int × Int))))) =>
              bif b4.2.2.1 then
                Option.bind (
                  Option.bind (r22 a.1) fun (y31 : (List ((Int × (Int × Int))) × (List (((Int × Int) × (Int × (Bool × (Int × Int))))) × (List (((Int × Int) × Int)) × List ((Int × Int)))))) =>
                    Option.bind (idxI a.1.2.1 y3) fun (b32 : ((Int × Int) × (Int × (Bool × (Int × Int))))) =>
                      sameR (
                        some ((), (b32.2.2.2.1, (y2.2.2, ((0 : Int), y31)))))
 (
                        sameR (
                          sameR (
                            some ((), (b32.2.2.2.1, (y2.2.2, ((0 : Int), y31)))))
 (
                            some ((), (b32.2.2.2.1, (y2.2.2, ((0 : Int), y31))))))
 (
                          sameR (
                            sameR (
                              some ((), (b32.2.2.2.1, (y2.2.2, ((0 : Int), y31)))))
 (
                              sameR (
                                some ((), (b32.2.2.2.1, (y2.2.2, ((0 : Int), y31)))))
 (
                                some ((), (b32.2.2.2.1, (y2.2.2, ((0 : Int), y31)))))))
 (
                            sameR (
                              some ((), (b32.2.2.2.1, (y2.2.2, ((0 : Int), y31)))))
 (
                              sameR (
                                sameR (
                                  some ((), (b32.2.2.2.1, (y2.2.2, ((0 : Int), y31)))))
 (
                                  some ((), (b32.2.2.2.1, (y2.2.2, ((0 : Int), y31))))))
 (
                                sameR (
                                  sameR (
                                    some ((), (b32.2.2.2.1, (y2.2.2, ((0 : Int), y31)))))
 (
                                    sameR (
                                      some ((), (b32.2.2.2.1, (y2.2.2, ((0 : Int), y31)))))
 (
                                      some ((), (b32.2.2.2.1, (y2.2.2, ((0 : Int), y31)))))))
 (
                                  sameR (
                                    some ((), (b32.2.2.2.1, (y2.2.2, ((0 : Int), y31)))))
 (
                                    sameR (
                                      sameR (
                                        some ((), (b32.2.2.2.1, (y2.2.2, ((0 : Int), y31)))))
 (
                                        some ((), (b32.2.2.2.1, (y2.2.2, ((0 : Int), y31))))))
 (
                                      sameR (
                                        sameR (
                                          some ((), (b32.2.2.2.1, (y2.2.2, ((0 : Int), y31)))))
 (
                                          sameR (
                                            some ((), (b32.2.2.2.1, (y2.2.2, ((0 : Int), y31)))))
 (
                                            some ((), (b32.2.2.2.1, (y2.2.2, ((0 : Int), y31)))))))
 (
                                        sameR (
                                          Option.bind (idxI a.1.2.1 y3) fun (b33 : ((Int × Int) × (Int × (Bool × (Int × Int))))) =>
                                            some ((), (b33.2.2.2.1, (y2.2.2, ((0 : Int), y31)))))
 (
                                          sameR (
                                            Option.bind (idxI a.1.2.1 y3) fun (b34 : ((Int × Int) × (Int × (Bool × (Int × Int))))) =>
                                              sameR (
                                                some ((), (b34.2.2.2.1, (y2.2.2, ((0 : Int), y31)))))
 (
                                                some ((), (b34.2.2.2.1, (y2.2.2, ((0 : Int), y31))))))
 (
                                            sameR (
                                              Option.bind (idxI a.1.2.1 y3) fun (b35 : ((Int × Int) × (Int × (Bool × (Int × Int))))) =>
                                                sameR (
                                                  some ((), (b35.2.2.2.1, (y2.2.2, ((0 : Int), y31)))))
 (
                                                  sameR (
                                                    some ((), (b35.2.2.2.1, (y2.2.2, ((0 : Int), y31)))))
 (
                                                    some ((), (b35.2.2.2.1, (y2.2.2, ((0 : Int), y31)))))))
 (
                                              sameR (
                                                Option.bind (idxI a.1.2.1 y3) fun (b36 : ((Int × Int) × (Int × (Bool × (Int × Int))))) =>
                                                  some ((), (b36.2.2.2.1, (y2.2.2, ((0 : Int), y31)))))
 (
                                                sameR (
                                                  Option.bind (idxI a.1.2.1 y3) fun (b37 : ((Int × Int) × (Int × (Bool × (Int × Int))))) =>
                                                    sameR (
                                                      some ((), (b37.2.2.2.1, (y2.2.2, ((0 : Int), y31)))))
 (
                                                      some ((), (b37.2.2.2.1, (y2.2.2, ((0 : Int), y31))))))
 (
                                                  sameR (
                                                    Option.bind (idxI a.1.2.1 y3) fun (b38 : ((Int × Int) × (Int × (Bool × (Int × Int))))) =>
                                                      sameR (
                                                        some ((), (b38.2.2.2.1, (y2.2.2, ((0 : Int), y31)))))
 (
                                                        sameR (
                                                          some ((), (b38.2.2.2.1, (y2.2.2, ((0 : Int), y31)))))
 (
                                                          some ((), (b38.2.2.2.1, (y2.2.2, ((0 : Int), y31)))))))
 (
                                                    sameR (
                                                      Option.bind (idxI a.1.2.1 y3) fun (b39 : ((Int × Int) × (Int × (Bool × (Int × Int))))) =>
                                                        some ((), (b39.2.2.2.1, (y2.2.2, ((0 : Int), y31)))))
 (
                                                      sameR (
                                                        Option.bind (idxI a.1.2.1 y3) fun (b40 : ((Int × Int) × (Int × (Bool × (Int × Int))))) =>
                                                          sameR (
                                                            some ((), (b40.2.2.2.1, (y2.2.2, ((0 : Int), y31)))))
 (
                                                            some ((), (b40.2.2.2.1, (y2.2.2, ((0 : Int), y31))))))
 (
                                                        sameR (
                                                          Option.bind (idxI a.1.2.1 y3) fun (b41 : ((Int × Int) × (Int × (Bool × (Int × Int))))) =>
                                                            sameR (
                                                              some ((), (b41.2.2.2.1, (y2.2.2, ((0 : Int), y31)))))
 (
                                                              sameR (
                                                                some ((), (b41.2.2.2.1, (y2.2.2, ((0 : Int), y31)))))
 (
                                                                some ((), (b41.2.2.2.1, (y2.2.2, ((0 : Int), y31)))))))
 (
                                                          sameR (
                                                            Option.bind (idxI a.1.2.1 y3) fun (b42 : ((Int × Int) × (Int × (Bool × (Int × Int))))) =>
                                                              some ((), (b42.2.2.2.1, (y2.2.2, ((0 : Int), y31)))))
 (
                                                            sameR (
                                                              Option.bind (idxI a.1.2.1 y3) fun (b43 : ((Int × Int) × (Int × (Bool × (Int × Int))))) =>
                                                                sameR (
                                                                  some ((), (b43.2.2.2.1, (y2.2.2, ((0 : Int), y31)))))
 (
                                                                  some ((), (b43.2.2.2.1, (y2.2.2, ((0 : Int), y31))))))
 (
                                                              sameR (
                                                                Option.bind (idxI a.1.2.1 y3) fun (b44 : ((Int × Int) × (Int × (Bool × (Int × Int))))) =>
                                                                  sameR (
                                                                    some ((), (b44.2.2.2.1, (y2.2.2, ((0 : Int), y31)))))
 (
                                                                    sameR (
                                                                      some ((), (b44.2.2.2.1, (y2.2.2, ((0 : Int), y31)))))
 (
                                                                      some ((), (b44.2.2.2.1, (y2.2.2, ((0 : Int), y31)))))))
 (
                                                                sameR (
                                                                  Option.bind (idxI a.1.2.1 y3) fun (b45 : ((Int × Int) × (Int × (Bool × (Int × Int))))) =>
                                                                    some ((), (b45.2.2.2.1, (y2.2.2, ((0 : Int), y31)))))
 (
                                                                  sameR (
                                                                    Option.bind (idxI a.1.2.1 y3) fun (b46 : ((Int × Int) × (Int × (Bool × (Int × Int))))) =>
                                                                      sameR (
                                                                        some ((), (b46.2.2.2.1, (y2.2.2, ((0 : Int), y31)))))
 (
                                                                        some ((), (b46.2.2.2.1, (y2.2.2, ((0 : Int), y31))))))
 (
                                                                    sameR (
                                                                      Option.bind (idxI a.1.2.1 y3) fun (b47 : ((Int × Int) × (Int × (Bool × (Int × Int))))) =>
                                                                        sameR (
                                                                          some ((), (b47.2.2.2.1, (y2.2.2, ((0 : Int), y31)))))
 (
                                                                          sameR (
                                                                            some ((), (b47.2.2.2.1, (y2.2.2, ((0 : Int), y31)))))
 (
                                                                            some ((), (b47.2.2.2.1, (y2.2.2, ((0 : Int), y31)))))))
 (
                                                                      sameR (
                                                                        Option.bind (idxI a.1.2.1 y3) fun (b48 : ((Int × Int) × (Int × (Bool × (Int × Int))))) =>
                                                                          some ((), (b48.2.2.2.1, (y2.2.2, ((0 : Int), y31)))))
 (
                                                                        sameR (
                                                                          Option.bind (idxI a.1.2.1 y3) fun (b49 : ((Int × Int) × (Int × (Bool × (Int × Int))))) =>
                                                                            sameR (
                                                                              some ((), (b49.2.2.2.1, (y2.2.2, ((0 : Int), y31)))))
 (
                                                                              some ((), (b49.2.2.2.1, (y2.2.2, ((0 : Int), y31))))))
 (
                                                                          Option.bind (idxI a.1.2.1 y3) fun (b50 : ((Int × Int) × (Int × (Bool × (Int × Int))))) =>
                                                                            sameR (
                                                                              some ((), (b50.2.2.2.1, (y2.2.2, ((0 : Int), y31)))))
 (
                                                                              sameR (
                                                                                some ((), (b50.2.2.2.1, (y2.2.2, ((0 : Int), y31)))))
 (
                                                                                some ((), (b50.2.2.2.1, (y2.2.2, ((0 : Int), y31))))))))))))))))))))))))))))))))) fun (d51 : (Unit × (Int × (Int × (Int × (List ((Int × (Int × Int))) × (List (((Int × Int) × (Int × (Bool × (Int × Int))))) × (List (((Int × Int) × Int)) × List ((Int × Int)))))))))) =>
                  some (d51.2.2.2.2, (d51.2.1, (d51.2.2.1, d51.2.2.2.1)))
              else
                Option.bind (
                  Option.bind (r22 a.1) fun (y56 : (List ((Int × (Int × Int))) × (List (((Int × Int) × (Int × (Bool × (Int × Int))))) × (List (((Int × Int) × Int)) × List ((Int × Int)))))) =>
                    sameR (
                      some ((), (y2.2.1, (y2.2.2, ((0 : Int), y56)))))
 (
                      sameR (
                        sameR (
                          some ((), (y2.2.1, (y2.2.2, ((0 : Int), y56)))))
 (
                          some ((), (y2.2.1, (y2.2.2, ((0 : Int), y56))))))
 (
                        sameR (
                          sameR (
                            some ((), (y2.2.1, (y2.2.2, ((0 : Int), y56)))))
 (
                            sameR (
                              some ((), (y2.2.1, (y2.2.2, ((0 : Int), y56)))))
 (
                              some ((), (y2.2.1, (y2.2.2, ((0 : Int), y56)))))))
 (
                          sameR (
                            some ((), (y2.2.1, (y2.2.2, ((0 : Int), y56)))))
 (
                            sameR (
                              sameR (
                                some ((), (y2.2.1, (y2.2.2, ((0 : Int), y56)))))
 (
                                some ((), (y2.2.1, (y2.2.2, ((0 : Int), y56))))))
 (
                              sameR (
                                sameR (
                                  some ((), (y2.2.1, (y2.2.2, ((0 : Int), y56)))))
 (
                                  sameR (
                                    some ((), (y2.2.1, (y2.2.2, ((0 : Int), y56)))))
 (
                                    some ((), (y2.2.1, (y2.2.2, ((0 : Int), y56)))))))
 (
                                sameR (
                                  some ((), (y2.2.1, (y2.2.2, ((0 : Int), y56)))))
 (
                                  sameR (
                                    sameR (
                                      some ((), (y2.2.1, (y2.2.2, ((0 : Int), y56)))))
 (
                                      some ((), (y2.2.1, (y2.2.2, ((0 : Int), y56))))))
 (
                                    sameR (
                                      some ((), (y2.2.1, (y2.2.2, ((0 : Int), y56)))))
 (
                                      sameR (
                                        some ((), (y2.2.1, (y2.2.2, ((0 : Int), y56)))))
 (
                                        some ((), (y2.2.1, (y2.2.2, ((0 : Int), y56))))))))))))))) fun (d57 : (Unit × (Int × (Int × (Int × (List ((Int × (Int × Int))) × (List (((Int × Int) × (Int × (Bool × (Int × Int))))) × (List (((Int × Int) × Int)) × List ((Int × Int)))))))))) =>
                  some (d57.2.2.2.2, (d57.2.1, (d57.2.2.1, d57.2.2.2.1)))
          else
            Option.bind (r23 (a.1.2.2.2, a.2.1)) fun (y58 : Bool) =>
              bif y58 then
                some (([], ([], ([], []))), ((0 : Int), ((0 : Int), (13 : Int))))
              else
                Option.bind (r24 (a.1, a.2.1, a.2.2, false)) fun (y59 : Bool) =>
                  bif y59 then
                    some (([], ([], ([], []))), ((0 : Int), ((0 : Int), (11 : Int))))
                  else
                    bif decide ((↑a.1.2.1.length : Int) = (24 : Int)) then
                      some (([], ([], ([], []))), ((0 : Int), ((0 : Int), (8 : Int))))
                    else
                      Option.bind (r22 a.1) fun (y60 : (List ((Int × (Int × Int))) × (List (((Int × Int) × (Int × (Bool × (Int × Int))))) × (List (((Int × Int) × Int)) × List ((Int × Int)))))) =>
                        bif roomOk false y60.2.1.length 1 48 then
                          Option.bind (r25 ((y60.1, (app y60.2.1 [(a.2.1, (a.2.2, (false, ((0 : Int), (0 : Int)))))], y60.2.2)), a.2.1)) fun (y61 : (List ((Int × (Int × Int))) × (List (((Int × Int) × (Int × (Bool × (Int × Int))))) × (List (((Int × Int) × Int)) × List ((Int × Int)))))) =>
                            Option.bind (
                              sameR (
                                some ((), (y2.2.1, (y2.2.2, ((0 : Int), y61)))))
 (
                                sameR (
                                  sameR (
                                    some ((), (y2.2.1, (y2.2.2, ((0 : Int), y61)))))
 (
                                    some ((), (y2.2.1, (y2.2.2, ((0 : Int), y61))))))
 (
                                  sameR (
                                    sameR (
                                      some ((), (y2.2.1, (y2.2.2, ((0 : Int), y61)))))
 (
                                      sameR (
                                        some ((), (y2.2.1, (y2.2.2, ((0 : Int), y61)))))
 (
                                        some ((), (y2.2.1, (y2.2.2, ((0 : Int), y61)))))))
 (
                                    sameR (
                                      some ((), (y2.2.1, (y2.2.2, ((0 : Int), y61)))))
 (
                                      sameR (
                                        sameR (
                                          some ((), (y2.2.1, (y2.2.2, ((0 : Int), y61)))))
 (
                                          some ((), (y2.2.1, (y2.2.2, ((0 : Int), y61))))))
 (
                                        sameR (
                                          sameR (
                                            some ((), (y2.2.1, (y2.2.2, ((0 : Int), y61)))))
 (
                                            sameR (
                                              some ((), (y2.2.1, (y2.2.2, ((0 : Int), y61)))))
 (
                                              some ((), (y2.2.1, (y2.2.2, ((0 : Int), y61)))))))
 (
                                          sameR (
                                            some ((), (y2.2.1, (y2.2.2, ((0 : Int), y61)))))
 (
                                            sameR (
                                              sameR (
                                                some ((), (y2.2.1, (y2.2.2, ((0 : Int), y61)))))
 (
                                                some ((), (y2.2.1, (y2.2.2, ((0 : Int), y61))))))
 (
                                              sameR (
                                                some ((), (y2.2.1, (y2.2.2, ((0 : Int), y61)))))
 (
                                                sameR (
                                                  some ((), (y2.2.1, (y2.2.2, ((0 : Int), y61)))))
 (
                                                  some ((), (y2.2.1, (y2.2.2, ((0 : Int), y61))))))))))))))) fun (d62 : (Unit × (Int × (Int × (Int × (List ((Int × (Int × Int))) × (List (((Int × Int) × (Int × (Bool × (Int × Int))))) × (List (((Int × Int) × Int)) × List ((Int × Int)))))))))) =>
                              some (d62.2.2.2.2, (d62.2.1, (d62.2.2.1, d62.2.2.2.1)))
                        else
                          none
theorem r12e : r12q = r12 := by unfold r12q r12; simp only [sameR_self, sameR_dup, sameR_bind]
def an12 : Ann := .two (.leaf) (.two (.two (.leaf) (.two (.leaf) (.two (.two (.leaf) (.leaf)) (.leaf)))) (.two (.leaf) (.two (.two (.leaf) (.two (.leaf) (.two (.two (.two (.leaf) (.two (.two (.join [] [] [⟨.normal, [], [.tmp 6 (.pt 6 [(0, 0)] 0 0 4), .tmp 7 (.int .i64), .tmp 8 (.int .i64), .tmp 9 (.int .i64), .box 6 [.sl .own (.pair (.int .i64) (.pair (.int .i64) (.int .i64))), .sl .own (.pair (.pair (.int .i64) (.int .i64)) (.pair (.int .i64) (.pair .bool (.pair (.int .i64) (.int .i64))))), .sl .own (.pair (.pair (.int .i64) (.int .i64)) (.int .i64)), .sl .own (.pair (.int .i64) (.int .i64))]]⟩] (.stages [0, 1, 2, 3, 4, 5, 6, 7, 8, 9])) (.leaf)) (.leaf))) (.two (.join [] [] [⟨.normal, [], [.tmp 6 (.pt 6 [(0, 0)] 0 0 4), .tmp 7 (.int .i64), .tmp 8 (.int .i64), .tmp 9 (.int .i64), .box 6 [.sl .own (.pair (.int .i64) (.pair (.int .i64) (.int .i64))), .sl .own (.pair (.pair (.int .i64) (.int .i64)) (.pair (.int .i64) (.pair .bool (.pair (.int .i64) (.int .i64))))), .sl .own (.pair (.pair (.int .i64) (.int .i64)) (.int .i64)), .sl .own (.pair (.int .i64) (.int .i64))]]⟩] (.stages [0, 1, 2, 3, 4, 5])) (.leaf))) (.leaf)))) (.two (.one (.two (.leaf) (.two (.two (.leaf) (.leaf)) (.two (.leaf) (.two (.two (.leaf) (.leaf)) (.two (.leaf) (.two (.two (.leaf) (.leaf)) (.leaf)))))))) (.two (.leaf) (.two (.leaf) (.two (.leaf) (.two (.join [] [] [⟨.normal, [], [.tmp 6 (.pt 6 [(0, 0)] 0 0 4), .tmp 7 (.int .i64), .tmp 8 (.int .i64), .tmp 9 (.int .i64), .box 6 [.sl .own (.pair (.int .i64) (.pair (.int .i64) (.int .i64))), .sl .own (.pair (.pair (.int .i64) (.int .i64)) (.pair (.int .i64) (.pair .bool (.pair (.int .i64) (.int .i64))))), .sl .own (.pair (.pair (.int .i64) (.int .i64)) (.int .i64)), .sl .own (.pair (.int .i64) (.int .i64))]]⟩] (.stages [0, 1, 2, 3, 4])) (.leaf)))))))))
theorem s12 : SoundF cx.P cx.G 12 sg12 r12 := by
  have e : denF cx [(15, ⟨sg15, r15⟩), (20, ⟨sg20, r20⟩), (21, ⟨sg21, r21⟩), (22, ⟨sg22, r22⟩), (23, ⟨sg23, r23⟩), (24, ⟨sg24, r24⟩), (25, ⟨sg25, r25⟩)] an12 Try.f12.ntmps (Try.f12.body.getD .skip) Try.f12.results.toList sg12 = r12q := by kernel_rfl
  rw [← r12e, ← e]
  exact sound_of_den (c := cx) (Known.cons (.ofF s15 (by kernel_rfl)) Try.func15 (by kernel_rfl) (by kernel_rfl) (Known.cons (.ofF s20 (by kernel_rfl)) Try.func20 (by kernel_rfl) (by kernel_rfl) (Known.cons (.ofF s21 (by kernel_rfl)) Try.func21 (by kernel_rfl) (by kernel_rfl) (Known.cons (.ofF s22 (by kernel_rfl)) Try.func22 (by kernel_rfl) (by kernel_rfl) (Known.cons (.ofF s23 (by kernel_rfl)) Try.func23 (by kernel_rfl) (by kernel_rfl) (Known.cons (.ofF s24 (by kernel_rfl)) Try.func24 (by kernel_rfl) (by kernel_rfl) (Known.cons (.ofM s25 (by kernel_rfl)) Try.func25 (by kernel_rfl) (by kernel_rfl) (Known.nil)))))))) Try.func12 (by kernel_rfl) (Nat.le_of_ble_eq_true (by kernel_rfl)) rfl

/-! reredos/store.Write -/
def sg13 : Sig := ⟨[⟨true, .bo, (.pair (.sl (.pair (.int .i64) (.pair (.int .i64) (.int .i64)))) (.pair (.sl (.pair (.pair (.int .i64) (.int .i64)) (.pair (.int .i64) (.pair .bool (.pair (.int .i64) (.int .i64)))))) (.pair (.sl (.pair (.pair (.int .i64) (.int .i64)) (.int .i64))) (.sl (.pair (.int .i64) (.int .i64))))))⟩, ⟨true, .bo, (.pair (.int .i64) (.int .i64))⟩, ⟨false, .bo, (.int .i64)⟩, ⟨false, .bo, (.int .i64)⟩, ⟨false, .bo, (.int .i64)⟩], [⟨true, .own, (.pair (.sl (.pair (.int .i64) (.pair (.int .i64) (.int .i64)))) (.pair (.sl (.pair (.pair (.int .i64) (.int .i64)) (.pair (.int .i64) (.pair .bool (.pair (.int .i64) (.int .i64)))))) (.pair (.sl (.pair (.pair (.int .i64) (.int .i64)) (.int .i64))) (.sl (.pair (.int .i64) (.int .i64))))))⟩, ⟨false, .own, (.int .i64)⟩]⟩
noncomputable def r13 (a : ((List ((Int × (Int × Int))) × (List (((Int × Int) × (Int × (Bool × (Int × Int))))) × (List (((Int × Int) × Int)) × List ((Int × Int))))) × ((Int × Int) × (Int × (Int × Int))))) : Option ((List ((Int × (Int × Int))) × (List (((Int × Int) × (Int × (Bool × (Int × Int))))) × (List (((Int × Int) × Int)) × List ((Int × Int))))) × Int) :=
  Option.bind (r15 (a.1, a.2.1, a.2.2.1)) fun (y1 : Int) =>
    bif !(decide (y1 = (0 : Int))) then
      some (([], ([], ([], []))), y1)
    else
      Option.bind (
        Option.bind (
          bif !(decide (a.2.2.2.1 < (0 : Int))) then
            some (decide ((1073741824 : Int) < a.2.2.2.1))
          else
            some true) fun (g6 : Bool) =>
          Option.bind (
            bif !(g6) then
              some (decide (a.2.2.2.2 < (0 : Int)))
            else
              some true) fun (g7 : Bool) =>
            bif !(g7) then
              some (decide ((1048576 : Int) < a.2.2.2.2))
            else
              some true) fun (d8 : Bool) =>
        bif d8 then
          some (([], ([], ([], []))), (2 : Int))
        else
          Option.bind (r21 (a.1, a.2.1, a.2.2.1)) fun (y9 : Int) =>
            Option.bind (
              Option.bind (r23 (a.1.2.2.2, a.2.1)) fun (y14 : Bool) =>
                bif y14 then
                  some y14
                else
                  bif decide ((0 : Int) ≤ y9) then
                    Option.bind (idxI a.1.2.1 y9) fun (b15 : ((Int × Int) × (Int × (Bool × (Int × Int))))) =>
                      some (decide (a.2.2.2.2 < b15.2.2.2.2))
                  else
                    some false) fun (d16 : Bool) =>
              bif d16 then
                some (([], ([], ([], []))), (13 : Int))
              else
                Option.bind (r24 (a.1, a.2.1, a.2.2.1, true)) fun (y17 : Bool) =>
                  bif y17 then
                    some (([], ([], ([], []))), (11 : Int))
                  else
                    Option.bind (
                      Option.bind (
                        bif decide (y9 < (0 : Int)) then
                          some (decide ((↑a.1.2.1.length : Int) = (24 : Int)))
                        else
                          some false) fun (d22 : Bool) =>
                        bif d22 then
                          some d22
                        else
                          Option.bind (r20 (a.1, a.2.2.1)) fun (y23 : (Int × (Int × Int))) =>
                            some (decide (y23.2.2 = (1048576 : Int)))) fun (d24 : Bool) =>
                      bif d24 then
                        some (([], ([], ([], []))), (8 : Int))
                      else
                        Option.bind (r22 a.1) fun (y25 : (List ((Int × (Int × Int))) × (List (((Int × Int) × (Int × (Bool × (Int × Int))))) × (List (((Int × Int) × Int)) × List ((Int × Int)))))) =>
                          Option.bind (
                            bif decide (y9 < (0 : Int)) then
                              bif roomOk false y25.2.1.length 1 48 then
                                some ((), (y25.1, (app y25.2.1 [(a.2.1, (a.2.2.1, (true, a.2.2.2)))], y25.2.2)))
                              else
                                none
                            else
                              bif inB y9 y25.2.1.length then
                                Option.bind (idxN y25.2.1 (Int.toNat y9)) fun (_ : ((Int × Int) × (Int × (Bool × (Int × Int))))) =>
                                  some ((), (y25.1, (List.set y25.2.1 (Int.toNat y9) (a.2.1, (a.2.2.1, (true, a.2.2.2))), y25.2.2)))
                              else
                                none) fun (d29 : (Unit × (List ((Int × (Int × Int))) × (List (((Int × Int) × (Int × (Bool × (Int × Int))))) × (List (((Int × Int) × Int)) × List ((Int × Int))))))) =>
                            Option.bind (r25 (d29.2, a.2.1)) fun (y30 : (List ((Int × (Int × Int))) × (List (((Int × Int) × (Int × (Bool × (Int × Int))))) × (List (((Int × Int) × Int)) × List ((Int × Int)))))) =>
                              some (y30, (0 : Int))
def an13 : Ann := .two (.leaf) (.two (.two (.leaf) (.two (.leaf) (.two (.two (.leaf) (.leaf)) (.leaf)))) (.two (.two (.join [2, 3, 4, 5, 6, 10] [5, 6, 10] [⟨.normal, [], [.tmp 37 (.bool)]⟩] (.segs [(6, ([2, 3, 4, 5, 6, 10], ([5, 6, 10], [.tmp 29 (.bool)]))), (4, ([2, 3, 4, 5, 6, 10], ([5, 6, 10], [.tmp 33 (.bool)])))])) (.two (.two (.leaf) (.leaf)) (.leaf))) (.two (.leaf) (.two (.one (.two (.join [2, 3, 4, 5, 6, 10, 13] [5, 6, 10] [⟨.normal, [], [.tmp 43 (.bool)]⟩] (.two (.leaf) (.two (.leaf) (.leaf)))) (.two (.two (.leaf) (.leaf)) (.two (.leaf) (.two (.two (.leaf) (.leaf)) (.two (.join [2, 3, 4, 5, 6, 10, 13] [5, 6, 10] [⟨.normal, [], [.tmp 67 (.bool)]⟩] (.two (.join [2, 3, 4, 5, 6, 10, 13] [5, 6, 10] [⟨.normal, [], [.tmp 67 (.bool)]⟩] (.leaf)) (.two (.leaf) (.leaf)))) (.two (.two (.leaf) (.leaf)) (.leaf)))))))) (.two (.leaf) (.two (.leaf) (.two (.join [6, 10] [6, 10] [⟨.normal, [], [.tmp 14 (.pt 14 [(0, 0)] 0 0 4), .box 14 [.sl .own (.pair (.int .i64) (.pair (.int .i64) (.int .i64))), .sl .own (.pair (.pair (.int .i64) (.int .i64)) (.pair (.int .i64) (.pair .bool (.pair (.int .i64) (.int .i64))))), .sl .own (.pair (.pair (.int .i64) (.int .i64)) (.int .i64)), .sl .own (.pair (.int .i64) (.int .i64))]]⟩] (.two (.leaf) (.two (.leaf) (.leaf)))) (.two (.leaf) (.two (.leaf) (.leaf))))))))))
theorem s13 : SoundF cx.P cx.G 13 sg13 r13 := by
  have e : denF cx [(15, ⟨sg15, r15⟩), (20, ⟨sg20, r20⟩), (21, ⟨sg21, r21⟩), (22, ⟨sg22, r22⟩), (23, ⟨sg23, r23⟩), (24, ⟨sg24, r24⟩), (25, ⟨sg25, r25⟩)] an13 Try.f13.ntmps (Try.f13.body.getD .skip) Try.f13.results.toList sg13 = r13 := by kernel_rfl
  rw [← e]
  exact sound_of_den (c := cx) (Known.cons (.ofF s15 (by kernel_rfl)) Try.func15 (by kernel_rfl) (by kernel_rfl) (Known.cons (.ofF s20 (by kernel_rfl)) Try.func20 (by kernel_rfl) (by kernel_rfl) (Known.cons (.ofF s21 (by kernel_rfl)) Try.func21 (by kernel_rfl) (by kernel_rfl) (Known.cons (.ofF s22 (by kernel_rfl)) Try.func22 (by kernel_rfl) (by kernel_rfl) (Known.cons (.ofF s23 (by kernel_rfl)) Try.func23 (by kernel_rfl) (by kernel_rfl) (Known.cons (.ofF s24 (by kernel_rfl)) Try.func24 (by kernel_rfl) (by kernel_rfl) (Known.cons (.ofM s25 (by kernel_rfl)) Try.func25 (by kernel_rfl) (by kernel_rfl) (Known.nil)))))))) Try.func13 (by kernel_rfl) (Nat.le_of_ble_eq_true (by kernel_rfl)) rfl

/-! slices.Insert[[]reredos/api.Item,reredos/api.Item] -/
set_option maxRecDepth 20000 in
theorem ins27_none {w : World} {ad bd : Option Addr} {n cap j cv : Nat} {ei ti : TyInfo} {e : TypeId} (hi : TyOk1 Try.prog 29 ti) (hd : ti.d = .sl e) (hei : TyOk1 Try.prog e ei) (hjn : j ≤ n) (hnc : n ≤ cap) :
    Calls Try.prog 27 #[.slice ad n cap, iv j, .slice bd 0 cv] w fun e w' => e = .returned (.slice ad n cap) ∧ w' = w := by
  have s1 := fun w => raw_slice (P := Try.prog) hi hd hei (ad := ad) (n := n) (cap := cap) (l := j) (h := n) (lo := some (iv j)) (hh := none) (.inr rfl) (.inl ⟨rfl, rfl⟩) hjn hnc w
  simp only [iv] at s1 ⊢
  go_enter Try.func27, Try.f27
  go_wp
  go_ret
  exact ⟨rfl, rfl⟩

set_option maxRecDepth 20000 in
theorem ins27_end {w w1 : World} {ad bd : Option Addr} {n cap m cv : Nat} {v : Value} {ei ti : TyInfo} {e : TypeId} (hi : TyOk1 Try.prog 29 ti) (hd : ti.d = .sl e) (hei : TyOk1 Try.prog e ei) (hnc : n ≤ cap) (hm : 0 < m)
    (hap : (Builtin.append_ #[29, 29] 29 #[.slice ad n cap, .slice bd m cv]).run Try.prog w = .ok v w1) :
    Calls Try.prog 27 #[.slice ad n cap, iv n, .slice bd m cv] w fun e w' => e = .returned v ∧ w' = w1 := by
  obtain ⟨v12, s1⟩ : ∃ v12, ∀ w, (Instr.sliceAt 29 (.slice ad n cap) (some (iv n)) none none).run Try.prog w = .ok v12 w := ⟨_, fun w => raw_slice (P := Try.prog) hi hd hei (ad := ad) (n := n) (cap := cap) (l := n) (h := n) (lo := some (iv n)) (hh := none) (.inr rfl) (.inl ⟨rfl, rfl⟩) (Nat.le_refl _) hnc w⟩
  simp only [iv] at s1 ⊢
  have hm0 : ¬ (m : Int) = 0 := by omega
  go_enter Try.func27, Try.f27
  go_wp2_with (at_builtin; refine wpList_val rfl (v := v) (w' := w1) (by simp [execOp, resolve, invoke, builtin, Act.eval, hap]) ?_)
  go_ret
  exact ⟨rfl, rfl⟩

set_option maxRecDepth 20000 in
theorem ins27_shift {w w2 w3 : World} {a66 av : Option Addr} {a76 : Option Addr} {b off n cap j m cv l66 c66 l76 c76 : Nat} {ei ti : TyInfo} {e : TypeId} (hi : TyOk1 Try.prog 29 ti) (hd : ti.d = .sl e) (hei : TyOk1 Try.prog e ei) (hjn : j < n) (hnc : n ≤ cap) (hm : 0 < m) (hroom : n + m ≤ cap) (hbig : n + m ≤ 281474976710656)
    (h60 : (Instr.sliceAt 29 (.slice (some ⟨b, off, none⟩) n cap) none (some (iv (n + m))) none).run Try.prog w = .ok (.slice (some ⟨b, off, none⟩) (n + m) cap) w)
    (h66 : ∀ w, (Instr.sliceAt 29 (.slice (some ⟨b, off, none⟩) (n + m) cap) (some (iv (j + m))) none none).run Try.prog w = .ok (.slice a66 l66 c66) w)
    (h76 : ∀ w, (Instr.sliceAt 29 (.slice (some ⟨b, off, none⟩) (n + m) cap) (some (iv j)) none none).run Try.prog w = .ok (.slice a76 l76 c76) w)
    (hov : (callFunc 48 #[.slice av m cv, .slice a66 l66 c66]).run Try.prog w = .ok (.value (.bool false)) w)
    (hc1 : ∀ ty, (Builtin.copy_ #[29, 29] ty #[.slice a66 l66 c66, .slice a76 l76 c76]).run Try.prog { w with drawn := w.drawn + 1 } = .ok (goInt ((n - j : Nat) : Int)) w2)
    (hc2 : ∀ ty, (Builtin.copy_ #[29, 29] ty #[.slice a76 l76 c76, .slice av m cv]).run Try.prog w2 = .ok (goInt m) w3) :
    Calls Try.prog 27 #[.slice (some ⟨b, off, none⟩) n cap, iv j, .slice av m cv] w fun e w' => e = .returned (.slice (some ⟨b, off, none⟩) (n + m) cap) ∧ w' = w3 := by
  obtain ⟨v12, s1⟩ : ∃ v12, ∀ w, (Instr.sliceAt 29 (.slice (some ⟨b, off, none⟩) n cap) (some (iv j)) none none).run Try.prog w = .ok v12 w := ⟨_, fun w => raw_slice (P := Try.prog) hi hd hei (ad := some ⟨b, off, none⟩) (n := n) (cap := cap) (l := j) (h := n) (lo := some (iv j)) (hh := none) (.inr rfl) (.inl ⟨rfl, rfl⟩) (by omega) hnc w⟩
  have e1 : ((n + m : Nat) : Int) = (n : Int) + m := by omega
  have e2 : ((j + m : Nat) : Int) = (j : Int) + m := by omega
  simp only [iv, e1, e2] at s1 h60 h66 h76 ⊢
  have hm0 : ¬ (m : Int) = 0 := by omega
  have hjn0 : ¬ (j : Int) = n := by omega
  have hw1 : IntKind.i64.wrap ((n : Int) + m) = (n : Int) + m := by rw [← e1]; exact wrap_nat hbig
  have hw2 : IntKind.i64.wrap ((j : Int) + m) = (j : Int) + m := by rw [← e2]; exact wrap_nat (by omega)
  have hle : ¬ ((cap : Int) < (n : Int) + m) := by omega
  go_enter Try.func27, Try.f27
  go_wp2_with (simp only [hov])
  refine wp_drawn_pure (m := 8) (ks := [69, 70, 71, 72, 73, 74, 75, 76]) (vs := [.slice (some ⟨b, off, none⟩) (n + m) cap, .int .i64 j, .int .i64 m, .int .i64 ((j : Int) + m), .slice a66 l66 c66, .slice (some ⟨b, off, none⟩) (n + m) cap, .int .i64 j, .slice a76 l76 c76]) (by kernel_rfl) (by kernel_rfl) rfl rfl (by decide) (by simp) ?_ ?_
  · intro k ks v hk hv
    match k with
    | 0 => cases hk; cases hv; exact ⟨_, rfl, rfl, rfl, fun a' ho hd w' => by have e := ho 0 (by decide); simp at e; simp [execOp, Act.eval, e]⟩
    | 1 => cases hk; cases hv; exact ⟨_, rfl, rfl, rfl, fun a' ho hd w' => by have e := ho 1 (by decide); simp at e; simp [execOp, Act.eval, e]⟩
    | 2 => cases hk; cases hv; exact ⟨_, rfl, rfl, rfl, fun a' ho hd w' => by have e := ho 7 (by decide); simp at e; simp [execOp, Act.eval, e]⟩
    | 3 =>
      cases hk; cases hv
      exact ⟨_, rfl, rfl, rfl, fun a' ho hd w' => by
        have e0 := hd 1 70 _ ((mem_iff _ _).1 (by kernel_rfl)) rfl rfl
        have e1 := hd 2 71 _ ((mem_iff _ _).1 (by kernel_rfl)) rfl rfl
        simp [execOp, Act.eval, e0, e1, add_guard, add_run, hw2]⟩
    | 4 =>
      cases hk; cases hv
      exact ⟨_, rfl, rfl, rfl, fun a' ho hd w' => by
        have e0 := hd 0 69 _ ((mem_iff _ _).1 (by kernel_rfl)) rfl rfl
        have e1 := hd 3 72 _ ((mem_iff _ _).1 (by kernel_rfl)) rfl rfl
        simp [execOp, Act.eval, e0, e1, h66]⟩
    | 5 => cases hk; cases hv; exact ⟨_, rfl, rfl, rfl, fun a' ho hd w' => by have e := ho 0 (by decide); simp at e; simp [execOp, Act.eval, e]⟩
    | 6 => cases hk; cases hv; exact ⟨_, rfl, rfl, rfl, fun a' ho hd w' => by have e := ho 1 (by decide); simp at e; simp [execOp, Act.eval, e]⟩
    | 7 =>
      cases hk; cases hv
      exact ⟨_, rfl, rfl, rfl, fun a' ho hd w' => by
        have e0 := hd 5 74 _ ((mem_iff _ _).1 (by kernel_rfl)) rfl rfl
        have e1 := hd 6 75 _ ((mem_iff _ _).1 (by kernel_rfl)) rfl rfl
        simp [execOp, Act.eval, e0, e1, h76]⟩
    | k + 8 => simp at hk
  · simp only [Act.putAll, Act.put, List.drop_succ_cons, List.drop_zero]
    have hc1' := fun ty => (show (Builtin.copy_ #[29, 29] ty #[.slice a66 l66 c66, .slice a76 l76 c76]).run Try.prog w.drew = .ok (goInt ((n - j : Nat) : Int)) w2 from hc1 ty)
    refine wpList_val rfl (v := goInt ((n - j : Nat) : Int)) (w' := w2) (by simp [execOp, resolve, invoke, builtin, Act.eval, hc1']) ?_
    go_wp
    go_ret
    exact ⟨rfl, rfl⟩

set_option maxRecDepth 20000 in
theorem ins27_grow {w w1 w2 w3 : World} {av a34 a43 a50 a53 : Option Addr} {b off n cap j m cv l43 c43 l50 c50 l53 c53 l34 c34 newCap W : Nat} {ei ti : TyInfo} {e : TypeId} (_hi : TyOk1 Try.prog 29 ti) (_hd : ti.d = .sl e) (_hei : TyOk1 Try.prog e ei) (hjn : j < n) (_hnc : n ≤ cap) (hm : 0 < m) (hroom : cap < n + m) (hbig : n + m ≤ 281474976710656)
    (h34 : ∀ w, (Instr.sliceAt 29 (.slice (some ⟨b, off, none⟩) n cap) none (some (iv j)) none).run Try.prog w = .ok (.slice a34 l34 c34) w)
    (hap : (Builtin.append_ #[29, 3] 29 #[.slice a34 l34 c34, iv (n + m - j)]).run Try.prog w = .ok (.slice (some ⟨W, 0, none⟩) (n + m) newCap) w1)
    (h43 : ∀ w1, (Instr.sliceAt 29 (.slice (some ⟨W, 0, none⟩) (n + m) newCap) (some (iv j)) none none).run Try.prog w1 = .ok (.slice a43 l43 c43) w1)
    (h50 : ∀ w1, (Instr.sliceAt 29 (.slice (some ⟨W, 0, none⟩) (n + m) newCap) (some (iv (j + m))) none none).run Try.prog w1 = .ok (.slice a50 l50 c50) w1)
    (h53 : ∀ w1, (Instr.sliceAt 29 (.slice (some ⟨b, off, none⟩) n cap) (some (iv j)) none none).run Try.prog w1 = .ok (.slice a53 l53 c53) w1)
    (hc1 : ∀ ty, (Builtin.copy_ #[29, 29] ty #[.slice a43 l43 c43, .slice av m cv]).run Try.prog w1 = .ok (goInt m) w2)
    (hc2 : ∀ ty, (Builtin.copy_ #[29, 29] ty #[.slice a50 l50 c50, .slice a53 l53 c53]).run Try.prog { w2 with drawn := w2.drawn + 1 } = .ok (goInt ((n - j : Nat) : Int)) w3) :
    Calls Try.prog 27 #[.slice (some ⟨b, off, none⟩) n cap, iv j, .slice av m cv] w fun e w' => e = .returned (.slice (some ⟨W, 0, none⟩) (n + m) newCap) ∧ w' = w3 := by
  have e1 : ((n + m : Nat) : Int) = (n : Int) + m := by omega
  have e2 : ((j + m : Nat) : Int) = (j : Int) + m := by omega
  have e3 : ((n + m - j : Nat) : Int) = (n : Int) + m - j := by omega
  simp only [iv, e2, e3] at h34 hap h43 h50 h53 ⊢
  have hm0 : ¬ (m : Int) = 0 := by omega
  have hjn0 : ¬ (j : Int) = n := by omega
  have hw1 : IntKind.i64.wrap ((n : Int) + m) = (n : Int) + m := by rw [← e1]; exact wrap_nat hbig
  have hw2 : IntKind.i64.wrap ((j : Int) + m) = (j : Int) + m := by rw [← e2]; exact wrap_nat (by omega)
  have hw3 : IntKind.i64.wrap ((n : Int) + m - j) = (n : Int) + m - j := by rw [← e3]; exact wrap_nat (by omega)
  have hlt : ((cap : Int) < (n : Int) + m) := by omega
  go_enter Try.func27, Try.f27
  go_wp2_with (at_builtin; refine wpList_val rfl (v := .slice (some ⟨W, 0, none⟩) (n + m) newCap) (w' := w1) (by simp [execOp, resolve, invoke, builtin, Act.eval, hap]) ?_)
  refine wp_drawn_pure (m := 8) (ks := [46, 47, 48, 49, 50, 51, 52, 53]) (vs := [.slice (some ⟨W, 0, none⟩) (n + m) newCap, .int .i64 j, .int .i64 m, .int .i64 ((j : Int) + m), .slice a50 l50 c50, .slice (some ⟨b, off, none⟩) n cap, .int .i64 j, .slice a53 l53 c53]) (by kernel_rfl) (by kernel_rfl) rfl rfl (by decide) (by simp) ?_ ?_
  · intro k ks v hk hv
    match k with
    | 0 => cases hk; cases hv; exact ⟨_, rfl, rfl, rfl, fun a' ho hd w' => by have e := ho 9 (by decide); simp at e; simp [execOp, Act.eval, e]⟩
    | 1 => cases hk; cases hv; exact ⟨_, rfl, rfl, rfl, fun a' ho hd w' => by have e := ho 1 (by decide); simp at e; simp [execOp, Act.eval, e]⟩
    | 2 => cases hk; cases hv; exact ⟨_, rfl, rfl, rfl, fun a' ho hd w' => by have e := ho 7 (by decide); simp at e; simp [execOp, Act.eval, e]⟩
    | 3 =>
      cases hk; cases hv
      exact ⟨_, rfl, rfl, rfl, fun a' ho hd w' => by
        have e0 := hd 1 47 _ ((mem_iff _ _).1 (by kernel_rfl)) rfl rfl
        have e1 := hd 2 48 _ ((mem_iff _ _).1 (by kernel_rfl)) rfl rfl
        simp [execOp, Act.eval, e0, e1, add_guard, add_run, hw2]⟩
    | 4 =>
      cases hk; cases hv
      exact ⟨_, rfl, rfl, rfl, fun a' ho hd w' => by
        have e0 := hd 0 46 _ ((mem_iff _ _).1 (by kernel_rfl)) rfl rfl
        have e1 := hd 3 49 _ ((mem_iff _ _).1 (by kernel_rfl)) rfl rfl
        simp [execOp, Act.eval, e0, e1, h50]⟩
    | 5 => cases hk; cases hv; exact ⟨_, rfl, rfl, rfl, fun a' ho hd w' => by have e := ho 0 (by decide); simp at e; simp [execOp, Act.eval, e]⟩
    | 6 => cases hk; cases hv; exact ⟨_, rfl, rfl, rfl, fun a' ho hd w' => by have e := ho 1 (by decide); simp at e; simp [execOp, Act.eval, e]⟩
    | 7 =>
      cases hk; cases hv
      exact ⟨_, rfl, rfl, rfl, fun a' ho hd w' => by
        have e0 := hd 5 51 _ ((mem_iff _ _).1 (by kernel_rfl)) rfl rfl
        have e1 := hd 6 52 _ ((mem_iff _ _).1 (by kernel_rfl)) rfl rfl
        simp [execOp, Act.eval, e0, e1, h53]⟩
    | k + 8 => simp at hk
  · simp only [Act.putAll, Act.put, List.drop_succ_cons, List.drop_zero]
    have hc2' := fun ty => (show (Builtin.copy_ #[29, 29] ty #[.slice a50 l50 c50, .slice a53 l53 c53]).run Try.prog w2.drew = .ok (goInt ((n - j : Nat) : Int)) w3 from hc2 ty)
    refine wpList_val rfl (v := goInt ((n - j : Nat) : Int)) (w' := w3) (by simp [execOp, resolve, invoke, builtin, Act.eval, hc2']) ?_
    go_wp
    go_ret
    exact ⟨rfl, rfl⟩

set_option maxRecDepth 20000 in
theorem ins27 : InsOk Try.prog 27 29 3 48 4 where
  none := fun w ad bd n cap j cv h1 h2 => ins27_none (tysOk 29 ⟨.sl 82, 1, 24, [.slice none 0 0], false, [some (.pair (.int .i64) (.pair (.int .i64) (.int .i64)))], [none], (.sl (.pair (.int .i64) (.pair (.int .i64) (.int .i64))))⟩ (by kernel_rfl)) rfl (tysOk 82 ⟨.st [(0, 3), (1, 3), (2, 3)], 3, 24, [.int .i64 0, .int .i64 0, .int .i64 0], true, [none, none, none], [none, none, none], (.pair (.int .i64) (.pair (.int .i64) (.int .i64)))⟩ (by kernel_rfl)) h1 h2
  stop := fun w w1 ad bd n cap m cv v h1 h2 h3 => ins27_end (tysOk 29 ⟨.sl 82, 1, 24, [.slice none 0 0], false, [some (.pair (.int .i64) (.pair (.int .i64) (.int .i64)))], [none], (.sl (.pair (.int .i64) (.pair (.int .i64) (.int .i64))))⟩ (by kernel_rfl)) rfl (tysOk 82 ⟨.st [(0, 3), (1, 3), (2, 3)], 3, 24, [.int .i64 0, .int .i64 0, .int .i64 0], true, [none, none, none], [none, none, none], (.pair (.int .i64) (.pair (.int .i64) (.int .i64)))⟩ (by kernel_rfl)) h1 h2 h3
  shift := fun w w2 w3 a66 av a76 b off n cap j m cv l66 c66 l76 c76 h1 h2 h3 h4 h5 h6 h7 h8 h9 h10 h11 => ins27_shift (tysOk 29 ⟨.sl 82, 1, 24, [.slice none 0 0], false, [some (.pair (.int .i64) (.pair (.int .i64) (.int .i64)))], [none], (.sl (.pair (.int .i64) (.pair (.int .i64) (.int .i64))))⟩ (by kernel_rfl)) rfl (tysOk 82 ⟨.st [(0, 3), (1, 3), (2, 3)], 3, 24, [.int .i64 0, .int .i64 0, .int .i64 0], true, [none, none, none], [none, none, none], (.pair (.int .i64) (.pair (.int .i64) (.int .i64)))⟩ (by kernel_rfl)) h1 h2 h3 h4 h5 h6 h7 h8 h9 h10 h11
  grow := fun w w1 w2 w3 av a34 a43 a50 a53 b off n cap j m cv l43 c43 l50 c50 l53 c53 l34 c34 newCap W h1 h2 h3 h4 h5 h6 h7 h8 h9 h10 h11 h12 => ins27_grow (tysOk 29 ⟨.sl 82, 1, 24, [.slice none 0 0], false, [some (.pair (.int .i64) (.pair (.int .i64) (.int .i64)))], [none], (.sl (.pair (.int .i64) (.pair (.int .i64) (.int .i64))))⟩ (by kernel_rfl)) rfl (tysOk 82 ⟨.st [(0, 3), (1, 3), (2, 3)], 3, 24, [.int .i64 0, .int .i64 0, .int .i64 0], true, [none, none, none], [none, none, none], (.pair (.int .i64) (.pair (.int .i64) (.int .i64)))⟩ (by kernel_rfl)) h1 h2 h3 h4 h5 h6 h7 h8 h9 h10 h11 h12
  over := fun args w => run_callFunc_extern Try.func48 (by kernel_rfl) (by kernel_rfl) (by kernel_rfl) (e := Extern.SlicesOverlaps.overlaps #[29, 29] #[4]) (by kernel_rfl) args w
def sg27 : Sig := insS (.pair (.int .i64) (.pair (.int .i64) (.int .i64)))
noncomputable def r27 (a : List (Int × (Int × Int)) × (Int × List (Int × (Int × Int)))) : Option (List (Int × (Int × Int))) := insR 24 a
set_option maxRecDepth 20000 in
theorem s27 : SoundD cx.P 27 sg27 r27 := by
  have h : SoundD cx.P 27 (insS (.pair (.int .i64) (.pair (.int .i64) (.int .i64)))) (insR 24) := ins_sound (c := cx) (e := (.pair (.int .i64) (.pair (.int .i64) (.int .i64)))) (ei := ⟨.st [(0, 3), (1, 3), (2, 3)], 3, 24, [.int .i64 0, .int .i64 0, .int .i64 0], true, [none, none, none], [none, none, none], (.pair (.int .i64) (.pair (.int .i64) (.int .i64)))⟩) ins27 (tysOk 29 ⟨.sl 82, 1, 24, [.slice none 0 0], false, [some (.pair (.int .i64) (.pair (.int .i64) (.int .i64)))], [none], (.sl (.pair (.int .i64) (.pair (.int .i64) (.int .i64))))⟩ (by kernel_rfl)) (by kernel_rfl) (tysOk 82 ⟨.st [(0, 3), (1, 3), (2, 3)], 3, 24, [.int .i64 0, .int .i64 0, .int .i64 0], true, [none, none, none], [none, none, none], (.pair (.int .i64) (.pair (.int .i64) (.int .i64)))⟩ (by kernel_rfl)) (xt := 3) (kk := .i64) (by kernel_rfl) (by kernel_rfl) (by kernel_rfl) (by decide) (by decide) (by kernel_rfl)
  exact h

/-! reredos/store.End -/
noncomputable def r14_L0 (a : ((List ((Int × (Int × Int))) × (List (((Int × Int) × (Int × (Bool × (Int × Int))))) × (List (((Int × Int) × Int)) × List ((Int × Int))))) × ((Int × Int) × Bool))) (d44 : (Unit × (Int × (List ((Int × (Int × Int))) × (List (((Int × Int) × (Int × (Bool × (Int × Int))))) × (List (((Int × Int) × Int)) × List ((Int × Int)))))))) : Option ((Unit × (Int × (List ((Int × (Int × Int))) × (List (((Int × Int) × (Int × (Bool × (Int × Int))))) × (List (((Int × Int) × Int)) × List ((Int × Int))))))) ⊕ (Unit × (List ((Int × (Int × Int))) × (List (((Int × Int) × (Int × (Bool × (Int × Int))))) × (List (((Int × Int) × Int)) × List ((Int × Int))))))) :=
  bif decide (d44.2.1 < (↑a.1.2.1.length : Int)) then
    Option.bind (
      Option.bind (idxI a.1.2.1 d44.2.1) fun (b71 : ((Int × Int) × (Int × (Bool × (Int × Int))))) =>
        Option.bind (
          Option.bind (
            bif !(!((decide (b71.1.1 = a.2.1.1) && (decide (b71.1.2 = a.2.1.2) && true)))) then
              some !(b71.2.2.1)
            else
              some true) fun (g74 : Bool) =>
            bif !(g74) then
              some !(a.2.2)
            else
              some true) fun (d75 : Bool) =>
          bif d75 then
            some ((), d44.2.2)
          else
            Option.bind (r26 (d44.2.2.1, b71.2.1)) fun (y76 : (Int × Bool)) =>
              Option.bind (
                bif !(y76.2) then
                  Option.bind (r27 (d44.2.2.1, y76.1, [(b71.2.1, ((0 : Int), (0 : Int)))])) fun (y79 : List ((Int × (Int × Int)))) =>
                    some ((), (y79, d44.2.2.2))
                else
                  some ((), d44.2.2)) fun (d80 : (Unit × (List ((Int × (Int × Int))) × (List (((Int × Int) × (Int × (Bool × (Int × Int))))) × (List (((Int × Int) × Int)) × List ((Int × Int))))))) =>
                bif inB y76.1 d80.2.1.length then
                  Option.bind (idxN d80.2.1 (Int.toNat y76.1)) fun (x81 : (Int × (Int × Int))) =>
                    bif inB y76.1 ((List.set d80.2.1 (Int.toNat y76.1) (x81.1, (b71.2.2.2.1, x81.2.2))).length) then
                      Option.bind (idxN (List.set d80.2.1 (Int.toNat y76.1) (x81.1, (b71.2.2.2.1, x81.2.2))) (Int.toNat y76.1)) fun (x82 : (Int × (Int × Int))) =>
                        bif inB y76.1 ((List.set d80.2.1 (Int.toNat y76.1) (x81.1, (b71.2.2.2.1, x81.2.2))).length) then
                          Option.bind (idxN (List.set d80.2.1 (Int.toNat y76.1) (x81.1, (b71.2.2.2.1, x81.2.2))) (Int.toNat y76.1)) fun (x83 : (Int × (Int × Int))) =>
                            some ((), (List.set (List.set d80.2.1 (Int.toNat y76.1) (x81.1, (b71.2.2.2.1, x81.2.2))) (Int.toNat y76.1) (x83.1, (x83.2.1, (Go.IntKind.wrap .i64 (x82.2.2 + (1 : Int))))), d80.2.2))
                        else
                          none
                    else
                      none
                else
                  none) fun (d84 : (Unit × (List ((Int × (Int × Int))) × (List (((Int × Int) × (Int × (Bool × (Int × Int))))) × (List (((Int × Int) × Int)) × List ((Int × Int))))))) =>
      some (Sum.inl ((), ((Go.IntKind.wrap .i64 (d44.2.1 + (1 : Int))), d84.2)))
  else
    some (Sum.inr ((), d44.2.2))
noncomputable def r14_L1 (q85 : (Unit × (List ((Int × (Int × Int))) × (List (((Int × Int) × (Int × (Bool × (Int × Int))))) × (List (((Int × Int) × Int)) × List ((Int × Int))))))) (a : ((List ((Int × (Int × Int))) × (List (((Int × Int) × (Int × (Bool × (Int × Int))))) × (List (((Int × Int) × Int)) × List ((Int × Int))))) × ((Int × Int) × Bool))) (d162 : Int) : Option (Int ⊕ (Unit ⊕ Int)) :=
  bif decide (d162 < (↑q85.2.2.1.length : Int)) then
    bif inB d162 q85.2.2.1.length then
      Option.bind (idxN q85.2.2.1 (Int.toNat d162)) fun (x163 : ((Int × Int) × (Int × (Bool × (Int × Int))))) =>
        bif (decide (x163.1.1 = a.2.1.1) && (decide (x163.1.2 = a.2.1.2) && true)) then
          some (Sum.inr (Sum.inr d162))
        else
          some (Sum.inl (Go.IntKind.wrap .i64 (d162 + (1 : Int))))
    else
      none
  else
    some (Sum.inr (Sum.inl ()))
noncomputable def r14_L2 (a : ((List ((Int × (Int × Int))) × (List (((Int × Int) × (Int × (Bool × (Int × Int))))) × (List (((Int × Int) × Int)) × List ((Int × Int))))) × ((Int × Int) × Bool))) (d176 : (Unit × (Unit × (Int × (Int × (List ((Int × (Int × Int))) × (List (((Int × Int) × (Int × (Bool × (Int × Int))))) × (List (((Int × Int) × Int)) × List ((Int × Int)))))))))) : Option ((Unit × (Unit × (Int × (Int × (List ((Int × (Int × Int))) × (List (((Int × Int) × (Int × (Bool × (Int × Int))))) × (List (((Int × Int) × Int)) × List ((Int × Int))))))))) ⊕ (Unit × (Unit × (Int × (List ((Int × (Int × Int))) × (List (((Int × Int) × (Int × (Bool × (Int × Int))))) × (List (((Int × Int) × Int)) × List ((Int × Int))))))))) :=
  bif decide (d176.2.2.2.1 < (↑d176.2.2.2.2.2.1.length : Int)) then
    Option.bind (
      bif inB d176.2.2.2.1 d176.2.2.2.2.2.1.length then
        Option.bind (idxN d176.2.2.2.2.2.1 (Int.toNat d176.2.2.2.1)) fun (x181 : ((Int × Int) × (Int × (Bool × (Int × Int))))) =>
          bif !((decide (x181.1.1 = a.2.1.1) && (decide (x181.1.2 = a.2.1.2) && true))) then
            bif inB d176.2.2.1 d176.2.2.2.2.2.1.length then
              Option.bind (idxN d176.2.2.2.2.2.1 (Int.toNat d176.2.2.1)) fun (_ : ((Int × Int) × (Int × (Bool × (Int × Int))))) =>
                some ((), ((), ((Go.IntKind.wrap .i64 (d176.2.2.1 + (1 : Int))), (d176.2.2.2.2.1, (List.set d176.2.2.2.2.2.1 (Int.toNat d176.2.2.1) x181, d176.2.2.2.2.2.2)))))
            else
              none
          else
            some ((), ((), (d176.2.2.1, d176.2.2.2.2)))
      else
        none) fun (d183 : (Unit × (Unit × (Int × (List ((Int × (Int × Int))) × (List (((Int × Int) × (Int × (Bool × (Int × Int))))) × (List (((Int × Int) × Int)) × List ((Int × Int))))))))) =>
      some (Sum.inl ((), ((), (d183.2.2.1, ((Go.IntKind.wrap .i64 (d176.2.2.2.1 + (1 : Int))), d183.2.2.2)))))
  else
    some (Sum.inr ((), ((), (d176.2.2.1, d176.2.2.2.2))))
noncomputable def r14_L3 (d185 : (Unit × (Unit × ((List ((Int × (Int × Int))) × (Unit × (List (((Int × Int) × Int)) × List ((Int × Int))))) × List (((Int × Int) × (Int × (Bool × (Int × Int))))))))) (a : ((List ((Int × (Int × Int))) × (List (((Int × Int) × (Int × (Bool × (Int × Int))))) × (List (((Int × Int) × Int)) × List ((Int × Int))))) × ((Int × Int) × Bool))) (d262 : Int) : Option (Int ⊕ (Unit ⊕ Int)) :=
  bif decide (d262 < (↑d185.2.2.1.2.2.1.length : Int)) then
    bif inB d262 d185.2.2.1.2.2.1.length then
      Option.bind (idxN d185.2.2.1.2.2.1 (Int.toNat d262)) fun (x263 : ((Int × Int) × Int)) =>
        bif (decide (x263.1.1 = a.2.1.1) && (decide (x263.1.2 = a.2.1.2) && true)) then
          some (Sum.inr (Sum.inr d262))
        else
          some (Sum.inl (Go.IntKind.wrap .i64 (d262 + (1 : Int))))
    else
      none
  else
    some (Sum.inr (Sum.inl ()))
noncomputable def r14_L4 (a : ((List ((Int × (Int × Int))) × (List (((Int × Int) × (Int × (Bool × (Int × Int))))) × (List (((Int × Int) × Int)) × List ((Int × Int))))) × ((Int × Int) × Bool))) (d276 : (Unit × (Unit × (Int × (Int × (List ((Int × (Int × Int))) × (List (((Int × Int) × (Int × (Bool × (Int × Int))))) × (List (((Int × Int) × Int)) × List ((Int × Int)))))))))) : Option ((Unit × (Unit × (Int × (Int × (List ((Int × (Int × Int))) × (List (((Int × Int) × (Int × (Bool × (Int × Int))))) × (List (((Int × Int) × Int)) × List ((Int × Int))))))))) ⊕ (Unit × (Unit × (Int × (List ((Int × (Int × Int))) × (List (((Int × Int) × (Int × (Bool × (Int × Int))))) × (List (((Int × Int) × Int)) × List ((Int × Int))))))))) :=
  bif decide (d276.2.2.2.1 < (↑d276.2.2.2.2.2.2.1.length : Int)) then
    Option.bind (
      bif inB d276.2.2.2.1 d276.2.2.2.2.2.2.1.length then
        Option.bind (idxN d276.2.2.2.2.2.2.1 (Int.toNat d276.2.2.2.1)) fun (x281 : ((Int × Int) × Int)) =>
          bif !((decide (x281.1.1 = a.2.1.1) && (decide (x281.1.2 = a.2.1.2) && true))) then
            bif inB d276.2.2.1 d276.2.2.2.2.2.2.1.length then
              Option.bind (idxN d276.2.2.2.2.2.2.1 (Int.toNat d276.2.2.1)) fun (_ : ((Int × Int) × Int)) =>
                some ((), ((), ((Go.IntKind.wrap .i64 (d276.2.2.1 + (1 : Int))), (d276.2.2.2.2.1, (d276.2.2.2.2.2.1, (List.set d276.2.2.2.2.2.2.1 (Int.toNat d276.2.2.1) x281, d276.2.2.2.2.2.2.2))))))
            else
              none
          else
            some ((), ((), (d276.2.2.1, d276.2.2.2.2)))
      else
        none) fun (d283 : (Unit × (Unit × (Int × (List ((Int × (Int × Int))) × (List (((Int × Int) × (Int × (Bool × (Int × Int))))) × (List (((Int × Int) × Int)) × List ((Int × Int))))))))) =>
      some (Sum.inl ((), ((), (d283.2.2.1, ((Go.IntKind.wrap .i64 (d276.2.2.2.1 + (1 : Int))), d283.2.2.2)))))
  else
    some (Sum.inr ((), ((), (d276.2.2.1, d276.2.2.2.2))))
def sg14 : Sig := ⟨[⟨true, .bo, (.pair (.sl (.pair (.int .i64) (.pair (.int .i64) (.int .i64)))) (.pair (.sl (.pair (.pair (.int .i64) (.int .i64)) (.pair (.int .i64) (.pair .bool (.pair (.int .i64) (.int .i64)))))) (.pair (.sl (.pair (.pair (.int .i64) (.int .i64)) (.int .i64))) (.sl (.pair (.int .i64) (.int .i64))))))⟩, ⟨true, .bo, (.pair (.int .i64) (.int .i64))⟩, ⟨false, .bo, .bool⟩], [⟨true, .own, (.pair (.sl (.pair (.int .i64) (.pair (.int .i64) (.int .i64)))) (.pair (.sl (.pair (.pair (.int .i64) (.int .i64)) (.pair (.int .i64) (.pair .bool (.pair (.int .i64) (.int .i64)))))) (.pair (.sl (.pair (.pair (.int .i64) (.int .i64)) (.int .i64))) (.sl (.pair (.int .i64) (.int .i64))))))⟩, ⟨false, .own, (.int .i64)⟩]⟩
noncomputable def r14 (a : ((List ((Int × (Int × Int))) × (List (((Int × Int) × (Int × (Bool × (Int × Int))))) × (List (((Int × Int) × Int)) × List ((Int × Int))))) × ((Int × Int) × Bool))) : Option ((List ((Int × (Int × Int))) × (List (((Int × Int) × (Int × (Bool × (Int × Int))))) × (List (((Int × Int) × Int)) × List ((Int × Int))))) × Int) :=
  Option.bind (r15 (a.1, a.2.1, (0 : Int))) fun (y1 : Int) =>
    bif !(decide (y1 = (0 : Int))) then
      some (([], ([], ([], []))), y1)
    else
      Option.bind (r22 a.1) fun (y2 : (List ((Int × (Int × Int))) × (List (((Int × Int) × (Int × (Bool × (Int × Int))))) × (List (((Int × Int) × Int)) × List ((Int × Int)))))) =>
        Option.bind (loopR (r14_L0 a) ((), ((0 : Int), y2))) fun (q85 : (Unit × (List ((Int × (Int × Int))) × (List (((Int × Int) × (Int × (Bool × (Int × Int))))) × (List (((Int × Int) × Int)) × List ((Int × Int))))))) =>
          Option.bind (
            Option.bind (
              Option.bind (loopR (r14_L1 q85 a) (0 : Int)) fun (q164 : (Unit ⊕ Int)) =>
                Sum.elim (fun (_ : Unit) =>
                    some (-1 : Int))
                  (fun (v166 : Int) =>
                    some v166) q164) fun (d167 : Int) =>
              bif decide (d167 = (-1 : Int)) then
                some ((), ((), ((q85.2.1, ((), q85.2.2.2)), q85.2.2.1)))
              else
                Option.bind (loopR (r14_L2 a) ((), ((), (d167, ((Go.IntKind.wrap .i64 (d167 + (1 : Int))), q85.2))))) fun (q184 : (Unit × (Unit × (Int × (List ((Int × (Int × Int))) × (List (((Int × Int) × (Int × (Bool × (Int × Int))))) × (List (((Int × Int) × Int)) × List ((Int × Int))))))))) =>
                  bif okB (some q184.2.2.1) none none q184.2.2.2.2.1.length then
                    bif okB none (some q184.2.2.1) none ((app (List.take (Int.toNat q184.2.2.1) q184.2.2.2.2.1) (app (List.replicate (q184.2.2.2.2.1.length - (Int.toNat q184.2.2.1)) (((0 : Int), (0 : Int)), ((0 : Int), (false, ((0 : Int), (0 : Int)))))) (List.drop ((Int.toNat q184.2.2.1) + (q184.2.2.2.2.1.length - (Int.toNat q184.2.2.1))) q184.2.2.2.2.1))).length) then
                      some ((), ((), ((q184.2.2.2.1, ((), q184.2.2.2.2.2)), midL (app (List.take (Int.toNat q184.2.2.1) q184.2.2.2.2.1) (app (List.replicate (q184.2.2.2.2.1.length - (Int.toNat q184.2.2.1)) (((0 : Int), (0 : Int)), ((0 : Int), (false, ((0 : Int), (0 : Int)))))) (List.drop ((Int.toNat q184.2.2.1) + (q184.2.2.2.2.1.length - (Int.toNat q184.2.2.1))) q184.2.2.2.2.1))) 0 (Int.toNat q184.2.2.1))))
                    else
                      none
                  else
                    none) fun (d185 : (Unit × (Unit × ((List ((Int × (Int × Int))) × (Unit × (List (((Int × Int) × Int)) × List ((Int × Int))))) × List (((Int × Int) × (Int × (Bool × (Int × Int))))))))) =>
            Option.bind (
              Option.bind (
                Option.bind (loopR (r14_L3 d185 a) (0 : Int)) fun (q264 : (Unit ⊕ Int)) =>
                  Sum.elim (fun (_ : Unit) =>
                      some (-1 : Int))
                    (fun (v266 : Int) =>
                      some v266) q264) fun (d267 : Int) =>
                bif decide (d267 = (-1 : Int)) then
                  some ((), ((), ((d185.2.2.1.1, (d185.2.2.2, ((), d185.2.2.1.2.2.2))), d185.2.2.1.2.2.1)))
                else
                  Option.bind (loopR (r14_L4 a) ((), ((), (d267, ((Go.IntKind.wrap .i64 (d267 + (1 : Int))), (d185.2.2.1.1, (d185.2.2.2, d185.2.2.1.2.2))))))) fun (q284 : (Unit × (Unit × (Int × (List ((Int × (Int × Int))) × (List (((Int × Int) × (Int × (Bool × (Int × Int))))) × (List (((Int × Int) × Int)) × List ((Int × Int))))))))) =>
                    bif okB (some q284.2.2.1) none none q284.2.2.2.2.2.1.length then
                      bif okB none (some q284.2.2.1) none ((app (List.take (Int.toNat q284.2.2.1) q284.2.2.2.2.2.1) (app (List.replicate (q284.2.2.2.2.2.1.length - (Int.toNat q284.2.2.1)) (((0 : Int), (0 : Int)), (0 : Int))) (List.drop ((Int.toNat q284.2.2.1) + (q284.2.2.2.2.2.1.length - (Int.toNat q284.2.2.1))) q284.2.2.2.2.2.1))).length) then
                        some ((), ((), ((q284.2.2.2.1, (q284.2.2.2.2.1, ((), q284.2.2.2.2.2.2))), midL (app (List.take (Int.toNat q284.2.2.1) q284.2.2.2.2.2.1) (app (List.replicate (q284.2.2.2.2.2.1.length - (Int.toNat q284.2.2.1)) (((0 : Int), (0 : Int)), (0 : Int))) (List.drop ((Int.toNat q284.2.2.1) + (q284.2.2.2.2.2.1.length - (Int.toNat q284.2.2.1))) q284.2.2.2.2.2.1))) 0 (Int.toNat q284.2.2.1))))
                      else
                        none
                    else
                      none) fun (d285 : (Unit × (Unit × ((List ((Int × (Int × Int))) × (List (((Int × Int) × (Int × (Bool × (Int × Int))))) × (Unit × List ((Int × Int))))) × List (((Int × Int) × Int)))))) =>
              Option.bind (
                Option.bind (r23 (d285.2.2.1.2.2.2, a.2.1)) fun (y288 : Bool) =>
                  bif !(y288) then
                    bif roomOk false d285.2.2.1.2.2.2.length 1 16 then
                      some ((), (d285.2.2.1.1, (d285.2.2.1.2.1, (d285.2.2.2, app d285.2.2.1.2.2.2 [a.2.1]))))
                    else
                      none
                  else
                    some ((), (d285.2.2.1.1, (d285.2.2.1.2.1, (d285.2.2.2, d285.2.2.1.2.2.2))))) fun (d289 : (Unit × (List ((Int × (Int × Int))) × (List (((Int × Int) × (Int × (Bool × (Int × Int))))) × (List (((Int × Int) × Int)) × List ((Int × Int))))))) =>
                some (d289.2, (0 : Int))
def an14 : Ann := .two (.leaf) (.two (.two (.leaf) (.two (.leaf) (.two (.two (.leaf) (.leaf)) (.leaf)))) (.two (.leaf) (.two (.two (.leaf) (.one (.loop [2, 4, 6, 24, 25] [4, 6] [] [.tmp 9 (.pt 9 [(0, 0)] 0 0 4), .tmp 26 (.int .i64), .box 9 [.sl .own (.pair (.int .i64) (.pair (.int .i64) (.int .i64))), .sl .own (.pair (.pair (.int .i64) (.int .i64)) (.pair (.int .i64) (.pair .bool (.pair (.int .i64) (.int .i64))))), .sl .own (.pair (.pair (.int .i64) (.int .i64)) (.int .i64)), .sl .own (.pair (.int .i64) (.int .i64))]] [⟨.exit 0, [], [.tmp 9 (.pt 9 [(0, 0)] 0 0 4), .box 9 [.sl .own (.pair (.int .i64) (.pair (.int .i64) (.int .i64))), .sl .own (.pair (.pair (.int .i64) (.int .i64)) (.pair (.int .i64) (.pair .bool (.pair (.int .i64) (.int .i64))))), .sl .own (.pair (.pair (.int .i64) (.int .i64)) (.int .i64)), .sl .own (.pair (.int .i64) (.int .i64))]]⟩] (.two (.leaf) (.two (.two (.leaf) (.leaf)) (.two (.join [2, 4, 6, 24, 25, 26] [4, 6] [⟨.normal, [], [.tmp 9 (.pt 9 [(0, 0)] 0 0 4), .box 9 [.sl .own (.pair (.int .i64) (.pair (.int .i64) (.int .i64))), .sl .own (.pair (.pair (.int .i64) (.int .i64)) (.pair (.int .i64) (.pair .bool (.pair (.int .i64) (.int .i64))))), .sl .own (.pair (.pair (.int .i64) (.int .i64)) (.int .i64)), .sl .own (.pair (.int .i64) (.int .i64))]]⟩] (.one (.two (.leaf) (.two (.two (.join [2, 4, 6, 9, 11, 24, 25, 26] [4, 6, 9, 11] [⟨.normal, [], [.tmp 42 (.bool)]⟩] (.segs [(9, ([2, 4, 6, 9, 11, 24, 25, 26], ([4, 6, 9, 11], [.tmp 38 (.bool)])))])) (.two (.leaf) (.leaf))) (.two (.leaf) (.two (.join [2, 4, 6, 11, 12, 24, 25, 26] [4, 6, 11] [⟨.normal, [], [.tmp 9 (.pt 9 [(0, 0)] 0 0 4), .box 9 [.sl .own (.pair (.int .i64) (.pair (.int .i64) (.int .i64))), .sl .own (.pair (.pair (.int .i64) (.int .i64)) (.pair (.int .i64) (.pair .bool (.pair (.int .i64) (.int .i64))))), .sl .own (.pair (.pair (.int .i64) (.int .i64)) (.int .i64)), .sl .own (.pair (.int .i64) (.int .i64))]]⟩] (.two (.leaf) (.two (.leaf) (.leaf)))) (.two (.leaf) (.leaf)))))))) (.leaf))))))) (.two (.inl 3 101 (.join [4, 6] [4, 6] [⟨.ret, [(105, (.pair (.pair (.int .i64) (.int .i64)) (.pair (.int .i64) (.pair .bool (.pair (.int .i64) (.int .i64))))))], [.tmp 9 (.pt 9 [(0, 0)] 0 0 4), .tmp 105 (.own 105 [(0, 0)] (.pair (.pair (.int .i64) (.int .i64)) (.pair (.int .i64) (.pair .bool (.pair (.int .i64) (.int .i64)))))), .box 9 [.sl .own (.pair (.int .i64) (.pair (.int .i64) (.int .i64))), .dead, .sl .own (.pair (.pair (.int .i64) (.int .i64)) (.int .i64)), .sl .own (.pair (.int .i64) (.int .i64))], .row 105 [.sl .own (.pair (.pair (.int .i64) (.int .i64)) (.pair (.int .i64) (.pair .bool (.pair (.int .i64) (.int .i64)))))]]⟩] (.two (.leaf) (.two (.inl 2 143 (.join [4, 6, 9, 101, 102] [4, 6, 9] [⟨.ret, [], [.tmp 147 (.int .i64)]⟩] (.two (.leaf) (.two (.two (.leaf) (.one (.loop [4, 6, 9, 101, 102, 143, 144, 150] [4, 6, 9] [] [.tmp 151 (.int .i64)] [⟨.exit 0, [], []⟩, ⟨.ret, [], [.tmp 147 (.int .i64)]⟩] (.two (.leaf) (.two (.two (.leaf) (.leaf)) (.two (.one (.two (.leaf) (.two (.inl 5 162 (.two (.leaf) (.two (.leaf) (.leaf))) (.leaf)) (.two (.two (.leaf) (.leaf)) (.leaf))))) (.leaf))))))) (.two (.leaf) (.leaf))))) (.leaf)) (.two (.two (.leaf) (.two (.two (.leaf) (.leaf)) (.leaf))) (.two (.two (.leaf) (.one (.loop [4, 6, 102] [4, 6] [] [.tmp 9 (.pt 9 [(0, 0)] 0 0 4), .tmp 101 (.own 9 [(0, 0), (0, 1)] (.pair (.pair (.int .i64) (.int .i64)) (.pair (.int .i64) (.pair .bool (.pair (.int .i64) (.int .i64)))))), .tmp 106 (.int .i64), .tmp 107 (.int .i64), .box 9 [.sl .own (.pair (.int .i64) (.pair (.int .i64) (.int .i64))), .sl .own (.pair (.pair (.int .i64) (.int .i64)) (.pair (.int .i64) (.pair .bool (.pair (.int .i64) (.int .i64))))), .sl .own (.pair (.pair (.int .i64) (.int .i64)) (.int .i64)), .sl .own (.pair (.int .i64) (.int .i64))]] [⟨.exit 0, [], [.tmp 9 (.pt 9 [(0, 0)] 0 0 4), .tmp 101 (.own 9 [(0, 0), (0, 1)] (.pair (.pair (.int .i64) (.int .i64)) (.pair (.int .i64) (.pair .bool (.pair (.int .i64) (.int .i64)))))), .tmp 106 (.int .i64), .box 9 [.sl .own (.pair (.int .i64) (.pair (.int .i64) (.int .i64))), .sl .own (.pair (.pair (.int .i64) (.int .i64)) (.pair (.int .i64) (.pair .bool (.pair (.int .i64) (.int .i64))))), .sl .own (.pair (.pair (.int .i64) (.int .i64)) (.int .i64)), .sl .own (.pair (.int .i64) (.int .i64))]]⟩] (.two (.two (.leaf) (.two (.leaf) (.leaf))) (.two (.join [4, 6, 102, 107] [4, 6] [⟨.normal, [], [.tmp 9 (.pt 9 [(0, 0)] 0 0 4), .tmp 101 (.own 9 [(0, 0), (0, 1)] (.pair (.pair (.int .i64) (.int .i64)) (.pair (.int .i64) (.pair .bool (.pair (.int .i64) (.int .i64)))))), .tmp 106 (.int .i64), .box 9 [.sl .own (.pair (.int .i64) (.pair (.int .i64) (.int .i64))), .sl .own (.pair (.pair (.int .i64) (.int .i64)) (.pair (.int .i64) (.pair .bool (.pair (.int .i64) (.int .i64))))), .sl .own (.pair (.pair (.int .i64) (.int .i64)) (.int .i64)), .sl .own (.pair (.int .i64) (.int .i64))]]⟩] (.one (.two (.leaf) (.two (.inl 2 170 (.two (.leaf) (.two (.leaf) (.leaf))) (.leaf)) (.two (.two (.leaf) (.leaf)) (.leaf)))))) (.leaf)))))) (.two (.leaf) (.two (.leaf) (.leaf)))))))) (.leaf)) (.two (.inl 3 178 (.join [4, 6] [4, 6] [⟨.ret, [(182, (.pair (.pair (.int .i64) (.int .i64)) (.int .i64)))], [.tmp 9 (.pt 9 [(0, 0)] 0 0 4), .tmp 182 (.own 182 [(0, 0)] (.pair (.pair (.int .i64) (.int .i64)) (.int .i64))), .box 9 [.sl .own (.pair (.int .i64) (.pair (.int .i64) (.int .i64))), .sl .own (.pair (.pair (.int .i64) (.int .i64)) (.pair (.int .i64) (.pair .bool (.pair (.int .i64) (.int .i64))))), .dead, .sl .own (.pair (.int .i64) (.int .i64))], .row 182 [.sl .own (.pair (.pair (.int .i64) (.int .i64)) (.int .i64))]]⟩] (.two (.leaf) (.two (.inl 2 220 (.join [4, 6, 9, 178, 179] [4, 6, 9] [⟨.ret, [], [.tmp 224 (.int .i64)]⟩] (.two (.leaf) (.two (.two (.leaf) (.one (.loop [4, 6, 9, 178, 179, 220, 221, 227] [4, 6, 9] [] [.tmp 228 (.int .i64)] [⟨.exit 0, [], []⟩, ⟨.ret, [], [.tmp 224 (.int .i64)]⟩] (.two (.leaf) (.two (.two (.leaf) (.leaf)) (.two (.one (.two (.leaf) (.two (.inl 5 239 (.two (.leaf) (.two (.leaf) (.leaf))) (.leaf)) (.two (.two (.leaf) (.leaf)) (.leaf))))) (.leaf))))))) (.two (.leaf) (.leaf))))) (.leaf)) (.two (.two (.leaf) (.two (.two (.leaf) (.leaf)) (.leaf))) (.two (.two (.leaf) (.one (.loop [4, 6, 179] [4, 6] [] [.tmp 9 (.pt 9 [(0, 0)] 0 0 4), .tmp 178 (.own 9 [(0, 0), (0, 2)] (.pair (.pair (.int .i64) (.int .i64)) (.int .i64))), .tmp 183 (.int .i64), .tmp 184 (.int .i64), .box 9 [.sl .own (.pair (.int .i64) (.pair (.int .i64) (.int .i64))), .sl .own (.pair (.pair (.int .i64) (.int .i64)) (.pair (.int .i64) (.pair .bool (.pair (.int .i64) (.int .i64))))), .sl .own (.pair (.pair (.int .i64) (.int .i64)) (.int .i64)), .sl .own (.pair (.int .i64) (.int .i64))]] [⟨.exit 0, [], [.tmp 9 (.pt 9 [(0, 0)] 0 0 4), .tmp 178 (.own 9 [(0, 0), (0, 2)] (.pair (.pair (.int .i64) (.int .i64)) (.int .i64))), .tmp 183 (.int .i64), .box 9 [.sl .own (.pair (.int .i64) (.pair (.int .i64) (.int .i64))), .sl .own (.pair (.pair (.int .i64) (.int .i64)) (.pair (.int .i64) (.pair .bool (.pair (.int .i64) (.int .i64))))), .sl .own (.pair (.pair (.int .i64) (.int .i64)) (.int .i64)), .sl .own (.pair (.int .i64) (.int .i64))]]⟩] (.two (.two (.leaf) (.two (.leaf) (.leaf))) (.two (.join [4, 6, 179, 184] [4, 6] [⟨.normal, [], [.tmp 9 (.pt 9 [(0, 0)] 0 0 4), .tmp 178 (.own 9 [(0, 0), (0, 2)] (.pair (.pair (.int .i64) (.int .i64)) (.int .i64))), .tmp 183 (.int .i64), .box 9 [.sl .own (.pair (.int .i64) (.pair (.int .i64) (.int .i64))), .sl .own (.pair (.pair (.int .i64) (.int .i64)) (.pair (.int .i64) (.pair .bool (.pair (.int .i64) (.int .i64))))), .sl .own (.pair (.pair (.int .i64) (.int .i64)) (.int .i64)), .sl .own (.pair (.int .i64) (.int .i64))]]⟩] (.one (.two (.leaf) (.two (.inl 2 247 (.two (.leaf) (.two (.leaf) (.leaf))) (.leaf)) (.two (.two (.leaf) (.leaf)) (.leaf)))))) (.leaf)))))) (.two (.leaf) (.two (.leaf) (.leaf)))))))) (.leaf)) (.two (.join [6] [6] [⟨.normal, [], [.tmp 9 (.pt 9 [(0, 0)] 0 0 4), .box 9 [.sl .own (.pair (.int .i64) (.pair (.int .i64) (.int .i64))), .sl .own (.pair (.pair (.int .i64) (.int .i64)) (.pair (.int .i64) (.pair .bool (.pair (.int .i64) (.int .i64))))), .sl .own (.pair (.pair (.int .i64) (.int .i64)) (.int .i64)), .sl .own (.pair (.int .i64) (.int .i64))]]⟩] (.two (.leaf) (.two (.leaf) (.leaf)))) (.two (.leaf) (.leaf))))))))
theorem s14 : SoundF cx.P cx.G 14 sg14 r14 := by
  have e : denF cx [(15, ⟨sg15, r15⟩), (22, ⟨sg22, r22⟩), (23, ⟨sg23, r23⟩), (26, ⟨sg26, r26⟩), (27, ⟨sg27, r27⟩)] an14 Try.f14.ntmps (Try.f14.body.getD .skip) Try.f14.results.toList sg14 = r14 := by kernel_rfl
  rw [← e]
  exact sound_of_den (c := cx) (Known.cons (.ofF s15 (by kernel_rfl)) Try.func15 (by kernel_rfl) (by kernel_rfl) (Known.cons (.ofF s22 (by kernel_rfl)) Try.func22 (by kernel_rfl) (by kernel_rfl) (Known.cons (.ofF s23 (by kernel_rfl)) Try.func23 (by kernel_rfl) (by kernel_rfl) (Known.cons (.ofF s26 (by kernel_rfl)) Try.func26 (by kernel_rfl) (by kernel_rfl) (Known.cons (.ofD s27 (by kernel_rfl)) Try.func27 (by kernel_rfl) (by kernel_rfl) (Known.nil)))))) Try.func14 (by kernel_rfl) (Nat.le_of_ble_eq_true (by kernel_rfl)) rfl

/-! reredos/reredoskeep.Store -/
noncomputable def r6_L0 (a : (List ((Int × (Int × (Int × (Int × (Int × Int)))))) × Int)) (d127 : (Unit × (Int × (List ((Int × (Int × Int))) × (List (((Int × Int) × (Int × (Bool × (Int × Int))))) × (List (((Int × Int) × Int)) × List ((Int × Int)))))))) : Option ((Unit × (Int × (List ((Int × (Int × Int))) × (List (((Int × Int) × (Int × (Bool × (Int × Int))))) × (List (((Int × Int) × Int)) × List ((Int × Int))))))) ⊕ (Unit × (List ((Int × (Int × Int))) × (List (((Int × Int) × (Int × (Bool × (Int × Int))))) × (List (((Int × Int) × Int)) × List ((Int × Int))))))) :=
  Option.bind (
    bif decide (d127.2.1 < (↑a.1.length : Int)) then
      some (decide (d127.2.1 < a.2))
    else
      some false) fun (d128 : Bool) =>
    bif d128 then
      Option.bind (
        Option.bind (idxI a.1 d127.2.1) fun (b215 : (Int × (Int × (Int × (Int × (Int × Int)))))) =>
          Option.bind (r7 (b215.2.1, (2 : Int))) fun (y216 : Int) =>
            Option.bind (idxI a.1 d127.2.1) fun (b217 : (Int × (Int × (Int × (Int × (Int × Int)))))) =>
              Option.bind (r7 (b217.2.2.1, (2 : Int))) fun (y218 : Int) =>
                Option.bind (idxI a.1 d127.2.1) fun (b219 : (Int × (Int × (Int × (Int × (Int × Int)))))) =>
                  Option.bind (r7 (b219.2.2.2.1, (5 : Int))) fun (y220 : Int) =>
                    Option.bind (idxI a.1 d127.2.1) fun (b221 : (Int × (Int × (Int × (Int × (Int × Int)))))) =>
                      Option.bind (r7 (b221.1, (5 : Int))) fun (y222 : Int) =>
                        Option.bind (
                          bif decide (y222 = (0 : Int)) then
                            some (decide (y222 = (0 : Int)))
                          else
                            some (decide (y222 = (1 : Int)))) fun (d223 : Bool) =>
                          bif d223 then
                            Option.bind (r12 (d127.2.2, (y216, (Go.IntKind.wrap .i64 ((1 : Int) + y218))), y220)) fun (y224 : ((List ((Int × (Int × Int))) × (List (((Int × Int) × (Int × (Bool × (Int × Int))))) × (List (((Int × Int) × Int)) × List ((Int × Int))))) × (Int × (Int × Int)))) =>
                              bif decide (y224.2.2.2 = (0 : Int)) then
                                some ((), y224.1)
                              else
                                some ((), d127.2.2)
                          else
                            Option.bind (
                              bif decide (y222 = (2 : Int)) then
                                some (decide (y222 = (2 : Int)))
                              else
                                some (decide (y222 = (3 : Int)))) fun (d225 : Bool) =>
                              bif d225 then
                                Option.bind (
                                  Option.bind (idxI a.1 d127.2.1) fun (b236 : (Int × (Int × (Int × (Int × (Int × Int)))))) =>
                                    Option.bind (r7 (b236.2.2.2.2.1, (100 : Int))) fun (y237 : Int) =>
                                      Option.bind (idxI a.1 d127.2.1) fun (b238 : (Int × (Int × (Int × (Int × (Int × Int)))))) =>
                                        Option.bind (r7 (b238.2.2.2.2.2, (5 : Int))) fun (y239 : Int) =>
                                          Option.bind (r13 (d127.2.2, (y216, (Go.IntKind.wrap .i64 ((1 : Int) + y218))), y220, y237, y239)) fun (y240 : ((List ((Int × (Int × Int))) × (List (((Int × Int) × (Int × (Bool × (Int × Int))))) × (List (((Int × Int) × Int)) × List ((Int × Int))))) × Int)) =>
                                            
                                              some ((), (y240.2, y240.1))) fun (d241 : (Unit × (Int × (List ((Int × (Int × Int))) × (List (((Int × Int) × (Int × (Bool × (Int × Int))))) × (List (((Int × Int) × Int)) × List ((Int × Int)))))))) =>
                                  bif decide (d241.2.1 = (0 : Int)) then
                                    some ((), d241.2.2)
                                  else
                                    some ((), d127.2.2)
                              else
                                Option.bind (
                                  Option.bind (idxI a.1 d127.2.1) fun (b248 : (Int × (Int × (Int × (Int × (Int × Int)))))) =>
                                    Option.bind (r7 (b248.2.2.2.2.1, (2 : Int))) fun (y249 : Int) =>
                                      Option.bind (r14 (d127.2.2, (y216, (Go.IntKind.wrap .i64 ((1 : Int) + y218))), decide (y249 = (1 : Int)))) fun (y250 : ((List ((Int × (Int × Int))) × (List (((Int × Int) × (Int × (Bool × (Int × Int))))) × (List (((Int × Int) × Int)) × List ((Int × Int))))) × Int)) =>
                                        
                                          some ((), (y250.2, y250.1))) fun (d251 : (Unit × (Int × (List ((Int × (Int × Int))) × (List (((Int × Int) × (Int × (Bool × (Int × Int))))) × (List (((Int × Int) × Int)) × List ((Int × Int)))))))) =>
                                  bif decide (d251.2.1 = (0 : Int)) then
                                    some ((), d251.2.2)
                                  else
                                    some ((), d127.2.2)) fun (d252 : (Unit × (List ((Int × (Int × Int))) × (List (((Int × Int) × (Int × (Bool × (Int × Int))))) × (List (((Int × Int) × Int)) × List ((Int × Int))))))) =>
        some (Sum.inl ((), ((Go.IntKind.wrap .i64 (d127.2.1 + (1 : Int))), d252.2)))
    else
      some (Sum.inr ((), d127.2.2))
noncomputable def r6_L0q (a : (List ((Int × (Int × (Int × (Int × (Int × Int)))))) × Int)) : (Unit × (Int × (List ((Int × (Int × Int))) × (List (((Int × Int) × (Int × (Bool × (Int × Int))))) × (List (((Int × Int) × Int)) × List ((Int × Int))))))) → Option ((Unit × (Int × (List ((Int × (Int × Int))) × (List (((Int × Int) × (Int × (Bool × (Int × Int))))) × (List (((Int × Int) × Int)) × List ((Int × Int))))))) ⊕ (Unit × (List ((Int × (Int × Int))) × (List (((Int × Int) × (Int × (Bool × (Int × Int))))) × (List (((Int × Int) × Int)) × List ((Int × Int))))))) := fun d127 =>
  Option.bind (
    bif decide (d127.2.1 < (↑a.1.length : Int)) then
      some (decide (d127.2.1 < a.2))
    else
      some false) fun (d128 : Bool) =>
    bif d128 then
      Option.bind (
        Option.bind (idxI a.1 d127.2.1) fun (b215 : (Int × (Int × (Int × (Int × (Int × Int)))))) =>
          Option.bind (r7 (b215.2.1, (2 : Int))) fun (y216 : Int) =>
            Option.bind (idxI a.1 d127.2.1) fun (b217 : (Int × (Int × (Int × (Int × (Int × Int)))))) =>
              Option.bind (r7 (b217.2.2.1, (2 : Int))) fun (y218 : Int) =>
                Option.bind (idxI a.1 d127.2.1) fun (b219 : (Int × (Int × (Int × (Int × (Int × Int)))))) =>
                  Option.bind (r7 (b219.2.2.2.1, (5 : Int))) fun (y220 : Int) =>
                    Option.bind (idxI a.1 d127.2.1) fun (b221 : (Int × (Int × (Int × (Int × (Int × Int)))))) =>
                      Option.bind (r7 (b221.1, (5 : Int))) fun (y222 : Int) =>
                        Option.bind (
                          bif decide (y222 = (0 : Int)) then
                            some (decide (y222 = (0 : Int)))
                          else
                            some (decide (y222 = (1 : Int)))) fun (d223 : Bool) =>
                          bif d223 then
                            Option.bind (r12 (d127.2.2, (y216, (Go.IntKind.wrap .i64 ((1 : Int) + y218))), y220)) fun (y224 : ((List ((Int × (Int × Int))) × (List (((Int × Int) × (Int × (Bool × (Int × Int))))) × (List (((Int × Int) × Int)) × List ((Int × Int))))) × (Int × (Int × Int)))) =>
                              bif decide (y224.2.2.2 = (0 : Int)) then
                                some ((), y224.1)
                              else
                                some ((), d127.2.2)
                          else
                            Option.bind (
                              bif decide (y222 = (2 : Int)) then
                                some (decide (y222 = (2 : Int)))
                              else
                                some (decide (y222 = (3 : Int)))) fun (d225 : Bool) =>
                              bif d225 then
                                Option.bind (
                                  Option.bind (idxI a.1 d127.2.1) fun (b236 : (Int × (Int × (Int × (Int × (Int × Int)))))) =>
                                    Option.bind (r7 (b236.2.2.2.2.1, (100 : Int))) fun (y237 : Int) =>
                                      Option.bind (idxI a.1 d127.2.1) fun (b238 : (Int × (Int × (Int × (Int × (Int × Int)))))) =>
                                        Option.bind (r7 (b238.2.2.2.2.2, (5 : Int))) fun (y239 : Int) =>
                                          Option.bind (r13 (d127.2.2, (y216, (Go.IntKind.wrap .i64 ((1 : Int) + y218))), y220, y237, y239)) fun (y240 : ((List ((Int × (Int × Int))) × (List (((Int × Int) × (Int × (Bool × (Int × Int))))) × (List (((Int × Int) × Int)) × List ((Int × Int))))) × Int)) =>
                                            sameR (
                                              some ((), (y240.2, y240.1)))
 (
                                              sameR (
                                                some ((), (y240.2, y240.1)))
 (
                                                some ((), (y240.2, y240.1))))) fun (d241 : (Unit × (Int × (List ((Int × (Int × Int))) × (List (((Int × Int) × (Int × (Bool × (Int × Int))))) × (List (((Int × Int) × Int)) × List ((Int × Int)))))))) =>
                                  bif decide (d241.2.1 = (0 : Int)) then
                                    some ((), d241.2.2)
                                  else
                                    some ((), d127.2.2)
                              else
                                Option.bind (
                                  Option.bind (idxI a.1 d127.2.1) fun (b248 : (Int × (Int × (Int × (Int × (Int × Int)))))) =>
                                    Option.bind (r7 (b248.2.2.2.2.1, (2 : Int))) fun (y249 : Int) =>
                                      Option.bind (r14 (d127.2.2, (y216, (Go.IntKind.wrap .i64 ((1 : Int) + y218))), decide (y249 = (1 : Int)))) fun (y250 : ((List ((Int × (Int × Int))) × (List (((Int × Int) × (Int × (Bool × (Int × Int))))) × (List (((Int × Int) × Int)) × List ((Int × Int))))) × Int)) =>
                                        sameR (
                                          some ((), (y250.2, y250.1)))
 (
                                          sameR (
                                            some ((), (y250.2, y250.1)))
 (
                                            some ((), (y250.2, y250.1))))) fun (d251 : (Unit × (Int × (List ((Int × (Int × Int))) × (List (((Int × Int) × (Int × (Bool × (Int × Int))))) × (List (((Int × Int) × Int)) × List ((Int × Int)))))))) =>
                                  bif decide (d251.2.1 = (0 : Int)) then
                                    some ((), d251.2.2)
                                  else
                                    some ((), d127.2.2)) fun (d252 : (Unit × (List ((Int × (Int × Int))) × (List (((Int × Int) × (Int × (Bool × (Int × Int))))) × (List (((Int × Int) × Int)) × List ((Int × Int))))))) =>
        some (Sum.inl ((), ((Go.IntKind.wrap .i64 (d127.2.1 + (1 : Int))), d252.2)))
    else
      some (Sum.inr ((), d127.2.2))
theorem r6_L0e (a : (List ((Int × (Int × (Int × (Int × (Int × Int)))))) × Int)) : r6_L0q a = r6_L0 a := by unfold r6_L0q r6_L0; simp only [sameR_self]
def sg6 : Sig := ⟨[⟨false, .bo, (.sl (.pair (.int .i64) (.pair (.int .i64) (.pair (.int .i64) (.pair (.int .i64) (.pair (.int .i64) (.int .i64)))))))⟩, ⟨false, .bo, (.int .i64)⟩], [⟨true, .own, (.pair (.sl (.pair (.int .i64) (.pair (.int .i64) (.int .i64)))) (.pair (.sl (.pair (.pair (.int .i64) (.int .i64)) (.pair (.int .i64) (.pair .bool (.pair (.int .i64) (.int .i64)))))) (.pair (.sl (.pair (.pair (.int .i64) (.int .i64)) (.int .i64))) (.sl (.pair (.int .i64) (.int .i64))))))⟩]⟩
noncomputable def r6 (a : (List ((Int × (Int × (Int × (Int × (Int × Int)))))) × Int)) : Option (List ((Int × (Int × Int))) × (List (((Int × Int) × (Int × (Bool × (Int × Int))))) × (List (((Int × Int) × Int)) × List ((Int × Int))))) :=
  Option.bind (loopR (r6_L0 a) ((), ((0 : Int), ([], ([], ([], [])))))) fun (q253 : (Unit × (List ((Int × (Int × Int))) × (List (((Int × Int) × (Int × (Bool × (Int × Int))))) × (List (((Int × Int) × Int)) × List ((Int × Int))))))) =>
    some q253.2
noncomputable def r6q : (List ((Int × (Int × (Int × (Int × (Int × Int)))))) × Int) → Option (List ((Int × (Int × Int))) × (List (((Int × Int) × (Int × (Bool × (Int × Int))))) × (List (((Int × Int) × Int)) × List ((Int × Int))))) := fun a =>
  Option.bind (loopR (r6_L0q a) ((), ((0 : Int), ([], ([], ([], [])))))) fun (q253 : (Unit × (List ((Int × (Int × Int))) × (List (((Int × Int) × (Int × (Bool × (Int × Int))))) × (List (((Int × Int) × Int)) × List ((Int × Int))))))) =>
    some q253.2
theorem r6e : r6q = r6 := by unfold r6q r6; simp only [r6_L0e]
def an6 : Ann := .two (.leaf) (.two (.leaf) (.two (.two (.leaf) (.one (.loop [0, 1, 4] [4] [] [.tmp 5 (.pt 5 [(0, 0)] 0 0 4), .tmp 6 (.int .i64), .box 5 [.sl .own (.pair (.int .i64) (.pair (.int .i64) (.int .i64))), .sl .own (.pair (.pair (.int .i64) (.int .i64)) (.pair (.int .i64) (.pair .bool (.pair (.int .i64) (.int .i64))))), .sl .own (.pair (.pair (.int .i64) (.int .i64)) (.int .i64)), .sl .own (.pair (.int .i64) (.int .i64))]] [⟨.exit 0, [], [.tmp 5 (.pt 5 [(0, 0)] 0 0 4), .box 5 [.sl .own (.pair (.int .i64) (.pair (.int .i64) (.int .i64))), .sl .own (.pair (.pair (.int .i64) (.int .i64)) (.pair (.int .i64) (.pair .bool (.pair (.int .i64) (.int .i64))))), .sl .own (.pair (.pair (.int .i64) (.int .i64)) (.int .i64)), .sl .own (.pair (.int .i64) (.int .i64))]]⟩] (.two (.two (.join [0, 1, 4, 5, 6] [4, 5] [⟨.normal, [], [.tmp 25 (.bool)]⟩] (.leaf)) (.two (.leaf) (.leaf))) (.two (.join [0, 1, 4, 6] [4] [⟨.normal, [], [.tmp 5 (.pt 5 [(0, 0)] 0 0 4), .box 5 [.sl .own (.pair (.int .i64) (.pair (.int .i64) (.int .i64))), .sl .own (.pair (.pair (.int .i64) (.int .i64)) (.pair (.int .i64) (.pair .bool (.pair (.int .i64) (.int .i64))))), .sl .own (.pair (.pair (.int .i64) (.int .i64)) (.int .i64)), .sl .own (.pair (.int .i64) (.int .i64))]]⟩] (.one (.two (.draw 15) (.two (.leaf) (.two (.leaf) (.one (.two (.join [0, 1, 4, 5, 6, 7, 8, 53] [4, 5, 7] [⟨.normal, [], [.tmp 70 (.bool)]⟩] (.two (.leaf) (.two (.leaf) (.leaf)))) (.two (.two (.leaf) (.two (.leaf) (.two (.leaf) (.leaf)))) (.two (.join [0, 1, 4, 5, 6, 7, 8] [4, 5, 7] [⟨.normal, [], [.tmp 85 (.bool)]⟩] (.two (.leaf) (.two (.leaf) (.leaf)))) (.two (.two (.join [0, 1, 4, 5, 6] [4, 5] [⟨.normal, [], [.tmp 13 (.pt 13 [(0, 0)] 0 0 4), .tmp 14 (.int .i64), .box 13 [.sl .own (.pair (.int .i64) (.pair (.int .i64) (.int .i64))), .sl .own (.pair (.pair (.int .i64) (.int .i64)) (.pair (.int .i64) (.pair .bool (.pair (.int .i64) (.int .i64))))), .sl .own (.pair (.pair (.int .i64) (.int .i64)) (.int .i64)), .sl .own (.pair (.int .i64) (.int .i64))]]⟩] (.drawT [0, 1, 2, 3, 4, 5, 6, 7, 8, 9, 10, 11, 12, 13, 14, 15, 16, 17, 18, 19] [18])) (.two (.leaf) (.two (.leaf) (.leaf)))) (.two (.join [0, 1, 4, 5, 6] [4, 5] [⟨.normal, [], [.tmp 15 (.pt 15 [(0, 0)] 0 0 4), .tmp 16 (.int .i64), .box 15 [.sl .own (.pair (.int .i64) (.pair (.int .i64) (.int .i64))), .sl .own (.pair (.pair (.int .i64) (.int .i64)) (.pair (.int .i64) (.pair .bool (.pair (.int .i64) (.int .i64))))), .sl .own (.pair (.pair (.int .i64) (.int .i64)) (.int .i64)), .sl .own (.pair (.int .i64) (.int .i64))]]⟩] (.drawT [0, 1, 2, 3, 4, 5, 6, 7, 8, 9, 10, 11, 12, 13] [12])) (.two (.leaf) (.two (.leaf) (.leaf)))))))))))))) (.leaf)))))) (.two (.leaf) (.leaf))))
theorem s6 : SoundF cx.P cx.G 6 sg6 r6 := by
  have e : denF cx [(7, ⟨sg7, r7⟩), (12, ⟨sg12, r12⟩), (13, ⟨sg13, r13⟩), (14, ⟨sg14, r14⟩)] an6 Try.f6.ntmps (Try.f6.body.getD .skip) Try.f6.results.toList sg6 = r6q := by kernel_rfl
  rw [← r6e, ← e]
  exact sound_of_den (c := cx) (Known.cons (.ofF s7 (by kernel_rfl)) Try.func7 (by kernel_rfl) (by kernel_rfl) (Known.cons (.ofF s12 (by kernel_rfl)) Try.func12 (by kernel_rfl) (by kernel_rfl) (Known.cons (.ofF s13 (by kernel_rfl)) Try.func13 (by kernel_rfl) (by kernel_rfl) (Known.cons (.ofF s14 (by kernel_rfl)) Try.func14 (by kernel_rfl) (by kernel_rfl) (Known.nil))))) Try.func6 (by kernel_rfl) (Nat.le_of_ble_eq_true (by kernel_rfl)) rfl

/-! reredos/store.Writes -/
noncomputable def r8_L0 (a : ((List ((Int × (Int × Int))) × (List (((Int × Int) × (Int × (Bool × (Int × Int))))) × (List (((Int × Int) × Int)) × List ((Int × Int))))) × (Int × Int))) (d2 : (Int × Int)) : Option ((Int × Int) ⊕ Int) :=
  bif decide (d2.2 < (↑a.1.2.1.length : Int)) then
    Option.bind (
      Option.bind (idxI a.1.2.1 d2.2) fun (b7 : ((Int × Int) × (Int × (Bool × (Int × Int))))) =>
        Option.bind (
          bif (decide (b7.1.1 = a.2.1) && (decide (b7.1.2 = a.2.2) && true)) then
            some b7.2.2.1
          else
            some false) fun (d8 : Bool) =>
          bif d8 then
            some (Go.IntKind.wrap .i64 (d2.1 + (1 : Int)))
          else
            some d2.1) fun (d9 : Int) =>
      some (Sum.inl (d9, (Go.IntKind.wrap .i64 (d2.2 + (1 : Int)))))
  else
    some (Sum.inr d2.1)
def sg8 : Sig := ⟨[⟨true, .bo, (.pair (.sl (.pair (.int .i64) (.pair (.int .i64) (.int .i64)))) (.pair (.sl (.pair (.pair (.int .i64) (.int .i64)) (.pair (.int .i64) (.pair .bool (.pair (.int .i64) (.int .i64)))))) (.pair (.sl (.pair (.pair (.int .i64) (.int .i64)) (.int .i64))) (.sl (.pair (.int .i64) (.int .i64))))))⟩, ⟨true, .bo, (.pair (.int .i64) (.int .i64))⟩], [⟨false, .own, (.int .i64)⟩, ⟨false, .own, (.int .i64)⟩]⟩
noncomputable def r8 (a : ((List ((Int × (Int × Int))) × (List (((Int × Int) × (Int × (Bool × (Int × Int))))) × (List (((Int × Int) × Int)) × List ((Int × Int))))) × (Int × Int))) : Option (Int × Int) :=
  Option.bind (r15 (a.1, a.2, (0 : Int))) fun (y1 : Int) =>
    bif !(decide (y1 = (0 : Int))) then
      some ((0 : Int), y1)
    else
      Option.bind (loopR (r8_L0 a) ((0 : Int), (0 : Int))) fun (q10 : Int) =>
        some (q10, (0 : Int))
def an8 : Ann := .two (.leaf) (.two (.two (.leaf) (.two (.leaf) (.two (.two (.leaf) (.leaf)) (.leaf)))) (.two (.leaf) (.two (.two (.leaf) (.one (.loop [3, 17, 18] [3] [] [.tmp 7 (.int .i64), .tmp 19 (.int .i64)] [⟨.exit 0, [], [.tmp 7 (.int .i64)]⟩] (.two (.leaf) (.two (.two (.leaf) (.leaf)) (.two (.join [3, 17, 18, 19] [3] [⟨.normal, [], [.tmp 7 (.int .i64)]⟩] (.one (.two (.leaf) (.two (.join [3, 7, 17, 18, 19] [3] [⟨.normal, [], [.tmp 30 (.bool)]⟩] (.leaf)) (.two (.leaf) (.leaf)))))) (.leaf))))))) (.two (.leaf) (.leaf)))))
theorem s8 : SoundF cx.P cx.G 8 sg8 r8 := by
  have e : denF cx [(15, ⟨sg15, r15⟩)] an8 Try.f8.ntmps (Try.f8.body.getD .skip) Try.f8.results.toList sg8 = r8 := by kernel_rfl
  rw [← e]
  exact sound_of_den (c := cx) (Known.cons (.ofF s15 (by kernel_rfl)) Try.func15 (by kernel_rfl) (by kernel_rfl) (Known.nil)) Try.func8 (by kernel_rfl) (Nat.le_of_ble_eq_true (by kernel_rfl)) rfl

/-! reredos/label.one -/
def sg54 : Sig := ⟨[⟨true, .bo, (.pair (.int .i64) (.int .i64))⟩], [⟨false, .own, .bool⟩]⟩
noncomputable def r54 (a : (Int × Int)) : Option Bool :=
  Option.bind (
    bif decide ((0 : Int) ≤ a.1) then
      some (decide (a.1 ≤ (9 : Int)))
    else
      some false) fun (g1 : Bool) =>
    Option.bind (
      bif g1 then
        some (decide ((0 : Int) ≤ a.2))
      else
        some false) fun (g2 : Bool) =>
      bif g2 then
        some (decide (a.2 ≤ (15 : Int)))
      else
        some false
def an54 : Ann := .two (.leaf) (.two (.segs [(8, ([1], ([1], [.tmp 10 (.bool)]))), (5, ([1], ([1], [.tmp 15 (.bool)])))]) (.leaf))
theorem s54 : SoundF cx.P cx.G 54 sg54 r54 := by
  have e : denF cx [] an54 Try.f54.ntmps (Try.f54.body.getD .skip) Try.f54.results.toList sg54 = r54 := by kernel_rfl
  rw [← e]
  exact sound_of_den (c := cx) (Known.nil) Try.func54 (by kernel_rfl) (Nat.le_of_ble_eq_true (by kernel_rfl)) rfl

/-! reredos/label.Check -/
noncomputable def r34_L0 (d3 : Int) (a : (Int × (List ((Int × Int)) × Int))) (b4 : (Int × Int)) (d6 : Int) : Option (Int ⊕ (Unit ⊕ Int)) :=
  bif decide (d6 < (↑((List.take (Int.toNat d3) a.2.1).length) : Int)) then
    Option.bind (idxI (List.take (Int.toNat d3) a.2.1) d6) fun (b7 : (Int × Int)) =>
      bif (decide (b7.1 = b4.1) && (decide (b7.2 = b4.2) && true)) then
        some (Sum.inr (Sum.inr (7 : Int)))
      else
        some (Sum.inl (Go.IntKind.wrap .i64 (d6 + (1 : Int))))
  else
    some (Sum.inr (Sum.inl ()))
noncomputable def r34_L1 (a : (Int × (List ((Int × Int)) × Int))) (d3 : Int) : Option (Int ⊕ (Unit ⊕ Int)) :=
  bif decide (d3 < (↑a.2.1.length : Int)) then
    Option.bind (idxI a.2.1 d3) fun (b4 : (Int × Int)) =>
      Option.bind (r54 b4) fun (y5 : Bool) =>
        bif !(y5) then
          some (Sum.inr (Sum.inr (2 : Int)))
        else
          bif okB none (some d3) none a.2.1.length then
            Option.bind (loopR (r34_L0 d3 a b4) (0 : Int)) fun (q8 : (Unit ⊕ Int)) =>
              Sum.elim (fun (_ : Unit) =>
                  some (Sum.inl (Go.IntKind.wrap .i64 (d3 + (1 : Int)))))
                (fun (v10 : Int) =>
                  some (Sum.inr (Sum.inr v10))) q8
          else
            none
  else
    some (Sum.inr (Sum.inl ()))
def sg34 : Sig := ⟨[⟨true, .bo, (.pair (.int .i64) (.pair (.sl (.pair (.int .i64) (.int .i64))) (.int .i64)))⟩], [⟨false, .own, (.int .i64)⟩]⟩
noncomputable def r34 (a : (Int × (List ((Int × Int)) × Int))) : Option Int :=
  Option.bind (
    bif !(decide (a.1 < (1 : Int))) then
      some (decide ((4 : Int) < a.1))
    else
      some true) fun (d1 : Bool) =>
    bif d1 then
      some (2 : Int)
    else
      Option.bind (
        bif !(decide ((↑a.2.1.length : Int) < (1 : Int))) then
          some (decide ((6 : Int) < (↑a.2.1.length : Int)))
        else
          some true) fun (d2 : Bool) =>
        bif d2 then
          some (1 : Int)
        else
          Option.bind (loopR (r34_L1 a) (0 : Int)) fun (q11 : (Unit ⊕ Int)) =>
            Sum.elim (fun (_ : Unit) =>
                Option.bind (
                  bif !(decide (a.2.2 < (1 : Int))) then
                    some (decide ((1048576 : Int) < a.2.2))
                  else
                    some true) fun (d14 : Bool) =>
                  bif d14 then
                    some (2 : Int)
                  else
                    some (0 : Int))
              (fun (v13 : Int) =>
                some v13) q11
def an34 : Ann := .two (.leaf) (.two (.two (.join [1] [1] [⟨.normal, [], [.tmp 14 (.bool)]⟩] (.leaf)) (.two (.two (.leaf) (.leaf)) (.leaf))) (.two (.two (.join [1] [1] [⟨.normal, [], [.tmp 24 (.bool)]⟩] (.leaf)) (.two (.two (.leaf) (.leaf)) (.leaf))) (.two (.two (.leaf) (.one (.loop [1, 26, 27] [1] [] [.tmp 28 (.int .i64)] [⟨.exit 0, [], []⟩, ⟨.ret, [], [.tmp 2 (.int .i64)]⟩] (.two (.leaf) (.two (.two (.leaf) (.leaf)) (.two (.one (.two (.leaf) (.two (.two (.leaf) (.two (.two (.leaf) (.leaf)) (.leaf))) (.two (.leaf) (.one (.loop [1, 4, 26, 27, 28, 39, 40] [1, 4] [] [.tmp 41 (.int .i64)] [⟨.exit 2, [], []⟩, ⟨.ret, [], [.tmp 2 (.int .i64)]⟩] (.two (.leaf) (.two (.two (.leaf) (.leaf)) (.two (.one (.two (.leaf) (.two (.leaf) (.two (.two (.leaf) (.leaf)) (.leaf))))) (.leaf)))))))))) (.leaf))))))) (.two (.two (.join [] [] [⟨.normal, [], [.tmp 57 (.bool)]⟩] (.leaf)) (.two (.two (.leaf) (.leaf)) (.leaf))) (.two (.leaf) (.leaf))))))
theorem s34 : SoundF cx.P cx.G 34 sg34 r34 := by
  have e : denF cx [(54, ⟨sg54, r54⟩)] an34 Try.f34.ntmps (Try.f34.body.getD .skip) Try.f34.results.toList sg34 = r34 := by kernel_rfl
  rw [← e]
  exact sound_of_den (c := cx) (Known.cons (.ofF s54 (by kernel_rfl)) Try.func54 (by kernel_rfl) (by kernel_rfl) (Known.nil)) Try.func34 (by kernel_rfl) (Nat.le_of_ble_eq_true (by kernel_rfl)) rfl

/-! slices.Clone[[]reredos/api.Note,reredos/api.Note] -/
def sg18 : Sig := ⟨[⟨false, .bo, (.sl (.pair (.pair (.int .i64) (.int .i64)) (.pair .bool .bool)))⟩], [⟨false, .own, (.sl (.pair (.pair (.int .i64) (.int .i64)) (.pair .bool .bool)))⟩]⟩
noncomputable def r18 (a : List (((Int × Int) × (Bool × Bool)))) : Option (List (((Int × Int) × (Bool × Bool)))) :=
  nilR a fun (n1 : Bool) =>
    bif n1 then
      some []
    else
      bif roomOk false 0 a.length 24 then
        some a
      else
        none
def an18 : Ann := .two (.leaf) (.two (.two (.leaf) (.two (.two (.leaf) (.leaf)) (.leaf))) (.two (.leaf) (.leaf)))
theorem s18 : SoundF cx.P cx.G 18 sg18 r18 := by
  have e : denF cx [] an18 Try.f18.ntmps (Try.f18.body.getD .skip) Try.f18.results.toList sg18 = r18 := by kernel_rfl
  rw [← e]
  exact sound_of_den (c := cx) (Known.nil) Try.func18 (by kernel_rfl) (Nat.le_of_ble_eq_true (by kernel_rfl)) rfl

/-! reredos/part.Force -/
noncomputable def r9_L0 (a : ((Int × (List ((Int × Int)) × Int)) × (Int × (Int × (List ((List ((Int × (Int × Int))) × (List (((Int × Int) × (Int × (Bool × (Int × Int))))) × (List (((Int × Int) × Int)) × List ((Int × Int)))))) × (List (((Int × Int) × (Bool × Bool))) × ((Int × Int) × Bool))))))) (d22 : Int) : Option (Int ⊕ (Unit ⊕ Int)) :=
  bif decide (d22 < (↑a.2.2.2.1.length : Int)) then
    Option.bind (idxI a.2.2.2.1 d22) fun (b23 : (List ((Int × (Int × Int))) × (List (((Int × Int) × (Int × (Bool × (Int × Int))))) × (List (((Int × Int) × Int)) × List ((Int × Int)))))) =>
      Option.bind (r32 b23) fun (y24 : Int) =>
        bif !(decide (y24 = (0 : Int))) then
          some (Sum.inr (Sum.inr y24))
        else
          some (Sum.inl (Go.IntKind.wrap .i64 (d22 + (1 : Int))))
  else
    some (Sum.inr (Sum.inl ()))
noncomputable def r9_L0q (a : ((Int × (List ((Int × Int)) × Int)) × (Int × (Int × (List ((List ((Int × (Int × Int))) × (List (((Int × Int) × (Int × (Bool × (Int × Int))))) × (List (((Int × Int) × Int)) × List ((Int × Int)))))) × (List (((Int × Int) × (Bool × Bool))) × ((Int × Int) × Bool))))))) : Int → Option (Int ⊕ (Unit ⊕ Int)) := fun d22 =>
  bif decide (d22 < (↑a.2.2.2.1.length : Int)) then
    Option.bind (idxI a.2.2.2.1 d22) fun (b23 : (List ((Int × (Int × Int))) × (List (((Int × Int) × (Int × (Bool × (Int × Int))))) × (List (((Int × Int) × Int)) × List ((Int × Int)))))) =>
      Option.bind (r32 b23) fun (y24 : Int) =>
        bif !(decide (y24 = (0 : Int))) then
          some (Sum.inr (Sum.inr y24))
        else
          some (Sum.inl (Go.IntKind.wrap .i64 (d22 + (1 : Int))))
  else
    some (Sum.inr (Sum.inl ()))
theorem r9_L0e (a : ((Int × (List ((Int × Int)) × Int)) × (Int × (Int × (List ((List ((Int × (Int × Int))) × (List (((Int × Int) × (Int × (Bool × (Int × Int))))) × (List (((Int × Int) × Int)) × List ((Int × Int)))))) × (List (((Int × Int) × (Bool × Bool))) × ((Int × Int) × Bool))))))) : r9_L0q a = r9_L0 a := by unfold r9_L0q r9_L0; rfl
def sg9 : Sig := ⟨[⟨true, .bo, (.pair (.int .i64) (.pair (.sl (.pair (.int .i64) (.int .i64))) (.int .i64)))⟩, ⟨false, .bo, (.int .i64)⟩, ⟨false, .bo, (.int .i64)⟩, ⟨false, .bo, (.sl (.pair (.rsl (.pair (.int .i64) (.pair (.int .i64) (.int .i64)))) (.pair (.rsl (.pair (.pair (.int .i64) (.int .i64)) (.pair (.int .i64) (.pair .bool (.pair (.int .i64) (.int .i64)))))) (.pair (.rsl (.pair (.pair (.int .i64) (.int .i64)) (.int .i64))) (.rsl (.pair (.int .i64) (.int .i64)))))))⟩, ⟨false, .bo, (.sl (.pair (.pair (.int .i64) (.int .i64)) (.pair .bool .bool)))⟩, ⟨true, .bo, (.pair (.int .i64) (.int .i64))⟩, ⟨false, .bo, .bool⟩], [⟨true, .ro, (.pair (.pair (.sl (.pair (.int .i64) (.pair (.int .i64) (.int .i64)))) (.pair (.sl (.pair (.pair (.int .i64) (.int .i64)) (.pair (.int .i64) (.pair .bool (.pair (.int .i64) (.int .i64)))))) (.pair (.sl (.pair (.pair (.int .i64) (.int .i64)) (.int .i64))) (.sl (.pair (.int .i64) (.int .i64)))))) (.pair (.sl (.pair (.int .i64) (.pair (.int .i64) (.pair (.int .i64) (.pair (.pair (.int .i64) (.int .i64)) (.pair (.int .i64) (.pair (.int .i64) (.pair (.int .i64) (.pair (.int .i64) (.pair (.int .i64) (.pair .bool (.int .i64)))))))))))) (.pair (.sl (.pair (.int .i64) (.pair (.pair (.int .i64) (.int .i64)) (.pair (.int .i64) (.pair (.int .i64) (.pair (.int .i64) (.pair .bool (.rsl (.int .i64))))))))) (.sl (.pair (.pair (.int .i64) (.int .i64)) (.pair .bool .bool))))))⟩, ⟨false, .own, (.int .i64)⟩]⟩
noncomputable def r9 (a : ((Int × (List ((Int × Int)) × Int)) × (Int × (Int × (List ((List ((Int × (Int × Int))) × (List (((Int × Int) × (Int × (Bool × (Int × Int))))) × (List (((Int × Int) × Int)) × List ((Int × Int)))))) × (List (((Int × Int) × (Bool × Bool))) × ((Int × Int) × Bool))))))) : Option (((List ((Int × (Int × Int))) × (List (((Int × Int) × (Int × (Bool × (Int × Int))))) × (List (((Int × Int) × Int)) × List ((Int × Int))))) × (List ((Int × (Int × (Int × ((Int × Int) × (Int × (Int × (Int × (Int × (Int × (Bool × Int))))))))))) × (List ((Int × ((Int × Int) × (Int × (Int × (Int × (Bool × List Int))))))) × List (((Int × Int) × (Bool × Bool)))))) × Int) :=
  Option.bind (
    Option.bind (r34 a.1) fun (y19 : Int) =>
      bif !(decide (y19 = (0 : Int))) then
        some y19
      else
        Option.bind (
          bif !(decide (a.2.1 < (0 : Int))) then
            some (decide ((↑a.1.2.1.length : Int) ≤ a.2.1))
          else
            some true) fun (d20 : Bool) =>
          bif d20 then
            some (6 : Int)
          else
            Option.bind (
              bif !(decide (a.2.2.1 < (0 : Int))) then
                some (decide (a.1.1 ≤ a.2.2.1))
              else
                some true) fun (d21 : Bool) =>
              bif d21 then
                some (2 : Int)
              else
                bif !(decide ((↑a.2.2.2.1.length : Int) = (↑a.1.2.1.length : Int))) then
                  some (9 : Int)
                else
                  Option.bind (loopR (r9_L0 a) (0 : Int)) fun (q25 : (Unit ⊕ Int)) =>
                    Sum.elim (fun (_ : Unit) =>
                        some (0 : Int))
                      (fun (v27 : Int) =>
                        some v27) q25) fun (d28 : Int) =>
    bif !(decide (d28 = (0 : Int))) then
      some ((([], ([], ([], []))), ([], ([], []))), d28)
    else
      Option.bind (idxI a.2.2.2.1 a.2.1) fun (b31 : (List ((Int × (Int × Int))) × (List (((Int × Int) × (Int × (Bool × (Int × Int))))) × (List (((Int × Int) × Int)) × List ((Int × Int)))))) =>
        Option.bind (r8 (b31, a.2.2.2.2.2.1)) fun (y32 : (Int × Int)) =>
          bif !(decide (y32.2 = (0 : Int))) then
            some ((([], ([], ([], []))), ([], ([], []))), y32.2)
          else
            bif decide (y32.1 = (0 : Int)) then
              some ((([], ([], ([], []))), ([], ([], []))), (6 : Int))
            else
              bif decide ((60 : Int) ≤ (↑a.2.2.2.2.1.length : Int)) then
                some ((([], ([], ([], []))), ([], ([], []))), (8 : Int))
              else
                Option.bind (
                  Option.bind (idxI a.2.2.2.1 a.2.1) fun (b37 : (List ((Int × (Int × Int))) × (List (((Int × Int) × (Int × (Bool × (Int × Int))))) × (List (((Int × Int) × Int)) × List ((Int × Int)))))) =>
                    Option.bind (r14 (b37, a.2.2.2.2.2.1, a.2.2.2.2.2.2)) fun (y38 : ((List ((Int × (Int × Int))) × (List (((Int × Int) × (Int × (Bool × (Int × Int))))) × (List (((Int × Int) × Int)) × List ((Int × Int))))) × Int)) =>
                      
                        some ((), y38.1)) fun (d39 : (Unit × (List ((Int × (Int × Int))) × (List (((Int × Int) × (Int × (Bool × (Int × Int))))) × (List (((Int × Int) × Int)) × List ((Int × Int))))))) =>
                  Option.bind (
                    Option.bind (r18 a.2.2.2.2.1) fun (y59 : List (((Int × Int) × (Bool × Bool)))) =>
                      
                        bif roomOk false y59.length 1 24 then
                          Option.bind (r35 d39.2.1) fun (y64 : List ((Int × (Int × Int)))) =>
                            Option.bind (r36 d39.2.2.1) fun (y65 : List (((Int × Int) × (Int × (Bool × (Int × Int)))))) =>
                              Option.bind (r37 d39.2.2.2.1) fun (y66 : List (((Int × Int) × Int))) =>
                                Option.bind (r38 d39.2.2.2.2) fun (y67 : List ((Int × Int))) =>
                                  some ((), ((0 : Int), (y64, (y65, (y66, (y67, ([], ([((6 : Int), (a.2.2.2.2.2.1, ((0 : Int), ((0 : Int), ((0 : Int), (a.2.2.2.2.2.2, []))))))], app y59 [(a.2.2.2.2.2.1, (a.2.2.2.2.2.2, false))]))))))))
                        else
                          none) fun (d76 : (Unit × (Int × (List ((Int × (Int × Int))) × (List (((Int × Int) × (Int × (Bool × (Int × Int))))) × (List (((Int × Int) × Int)) × (List ((Int × Int)) × (List ((Int × (Int × (Int × ((Int × Int) × (Int × (Int × (Int × (Int × (Int × (Bool × Int))))))))))) × (List ((Int × ((Int × Int) × (Int × (Int × (Int × (Bool × List Int))))))) × List (((Int × Int) × (Bool × Bool)))))))))))) =>
                    some (((d76.2.2.1, (d76.2.2.2.1, (d76.2.2.2.2.1, d76.2.2.2.2.2.1))), d76.2.2.2.2.2.2), d76.2.1)
noncomputable def r9q : ((Int × (List ((Int × Int)) × Int)) × (Int × (Int × (List ((List ((Int × (Int × Int))) × (List (((Int × Int) × (Int × (Bool × (Int × Int))))) × (List (((Int × Int) × Int)) × List ((Int × Int)))))) × (List (((Int × Int) × (Bool × Bool))) × ((Int × Int) × Bool)))))) → Option (((List ((Int × (Int × Int))) × (List (((Int × Int) × (Int × (Bool × (Int × Int))))) × (List (((Int × Int) × Int)) × List ((Int × Int))))) × (List ((Int × (Int × (Int × ((Int × Int) × (Int × (Int × (Int × (Int × (Int × (Bool × Int))))))))))) × (List ((Int × ((Int × Int) × (Int × (Int × (Int × (Bool × List Int))))))) × List (((Int × Int) × (Bool × Bool)))))) × Int) := fun a =>
  Option.bind (
    Option.bind (r34 a.1) fun (y19 : Int) =>
      bif !(decide (y19 = (0 : Int))) then
        some y19
      else
        Option.bind (
          bif !(decide (a.2.1 < (0 : Int))) then
            some (decide ((↑a.1.2.1.length : Int) ≤ a.2.1))
          else
            some true) fun (d20 : Bool) =>
          bif d20 then
            some (6 : Int)
          else
            Option.bind (
              bif !(decide (a.2.2.1 < (0 : Int))) then
                some (decide (a.1.1 ≤ a.2.2.1))
              else
                some true) fun (d21 : Bool) =>
              bif d21 then
                some (2 : Int)
              else
                bif !(decide ((↑a.2.2.2.1.length : Int) = (↑a.1.2.1.length : Int))) then
                  some (9 : Int)
                else
                  Option.bind (loopR (r9_L0q a) (0 : Int)) fun (q25 : (Unit ⊕ Int)) =>
                    Sum.elim (fun (_ : Unit) =>
                        some (0 : Int))
                      (fun (v27 : Int) =>
                        some v27) q25) fun (d28 : Int) =>
    bif !(decide (d28 = (0 : Int))) then
      some ((([], ([], ([], []))), ([], ([], []))), d28)
    else
      Option.bind (idxI a.2.2.2.1 a.2.1) fun (b31 : (List ((Int × (Int × Int))) × (List (((Int × Int) × (Int × (Bool × (Int × Int))))) × (List (((Int × Int) × Int)) × List ((Int × Int)))))) =>
        Option.bind (r8 (b31, a.2.2.2.2.2.1)) fun (y32 : (Int × Int)) =>
          bif !(decide (y32.2 = (0 : Int))) then
            some ((([], ([], ([], []))), ([], ([], []))), y32.2)
          else
            bif decide (y32.1 = (0 : Int)) then
              some ((([], ([], ([], []))), ([], ([], []))), (6 : Int))
            else
              bif decide ((60 : Int) ≤ (↑a.2.2.2.2.1.length : Int)) then
                some ((([], ([], ([], []))), ([], ([], []))), (8 : Int))
              else
                Option.bind (
                  Option.bind (idxI a.2.2.2.1 a.2.1) fun (b37 : (List ((Int × (Int × Int))) × (List (((Int × Int) × (Int × (Bool × (Int × Int))))) × (List (((Int × Int) × Int)) × List ((Int × Int)))))) =>
                    Option.bind (r14 (b37, a.2.2.2.2.2.1, a.2.2.2.2.2.2)) fun (y38 : ((List ((Int × (Int × Int))) × (List (((Int × Int) × (Int × (Bool × (Int × Int))))) × (List (((Int × Int) × Int)) × List ((Int × Int))))) × Int)) =>
                      sameR (
                        some ((), y38.1))
 (
                        sameR (
                          some ((), y38.1))
 (
                          some ((), y38.1)))) fun (d39 : (Unit × (List ((Int × (Int × Int))) × (List (((Int × Int) × (Int × (Bool × (Int × Int))))) × (List (((Int × Int) × Int)) × List ((Int × Int))))))) =>
                  Option.bind (
                    Option.bind (r18 a.2.2.2.2.1) fun (y59 : List (((Int × Int) × (Bool × Bool)))) =>
                      sameR (
                        bif roomOk false y59.length 1 24 then
                          Option.bind (r35 d39.2.1) fun (y64 : List ((Int × (Int × Int)))) =>
                            Option.bind (r36 d39.2.2.1) fun (y65 : List (((Int × Int) × (Int × (Bool × (Int × Int)))))) =>
                              Option.bind (r37 d39.2.2.2.1) fun (y66 : List (((Int × Int) × Int))) =>
                                Option.bind (r38 d39.2.2.2.2) fun (y67 : List ((Int × Int))) =>
                                  some ((), ((0 : Int), (y64, (y65, (y66, (y67, ([], ([((6 : Int), (a.2.2.2.2.2.1, ((0 : Int), ((0 : Int), ((0 : Int), (a.2.2.2.2.2.2, []))))))], app y59 [(a.2.2.2.2.2.1, (a.2.2.2.2.2.2, false))]))))))))
                        else
                          none)
 (
                        bif roomOk false y59.length 1 24 then
                          Option.bind (r35 d39.2.1) fun (y72 : List ((Int × (Int × Int)))) =>
                            Option.bind (r36 d39.2.2.1) fun (y73 : List (((Int × Int) × (Int × (Bool × (Int × Int)))))) =>
                              Option.bind (r37 d39.2.2.2.1) fun (y74 : List (((Int × Int) × Int))) =>
                                Option.bind (r38 d39.2.2.2.2) fun (y75 : List ((Int × Int))) =>
                                  some ((), ((0 : Int), (y72, (y73, (y74, (y75, ([], ([((6 : Int), (a.2.2.2.2.2.1, ((0 : Int), ((0 : Int), ((0 : Int), (a.2.2.2.2.2.2, []))))))], app y59 [(a.2.2.2.2.2.1, (a.2.2.2.2.2.2, false))]))))))))
                        else
                          none)) fun (d76 : (Unit × (Int × (List ((Int × (Int × Int))) × (List (((Int × Int) × (Int × (Bool × (Int × Int))))) × (List (((Int × Int) × Int)) × (List ((Int × Int)) × (List ((Int × (Int × (Int × ((Int × Int) × (Int × (Int × (Int × (Int × (Int × (Bool × Int))))))))))) × (List ((Int × ((Int × Int) × (Int × (Int × (Int × (Bool × List Int))))))) × List (((Int × Int) × (Bool × Bool)))))))))))) =>
                    some (((d76.2.2.1, (d76.2.2.2.1, (d76.2.2.2.2.1, d76.2.2.2.2.2.1))), d76.2.2.2.2.2.2), d76.2.1)
theorem r9e : r9q = r9 := by unfold r9q r9; simp only [sameR_self, r9_L0e]
def an9 : Ann := .two (.leaf) (.two (.leaf) (.two (.two (.inl 1 80 (.join [1, 3, 4, 6, 12, 14] [12, 14] [⟨.ret, [], [.tmp 82 (.int .i64)]⟩] (.two (.leaf) (.two (.two (.leaf) (.two (.leaf) (.two (.two (.leaf) (.leaf)) (.leaf)))) (.two (.two (.join [1, 3, 4, 6, 12, 14, 80] [12, 14, 28] [⟨.normal, [], [.tmp 112 (.bool)]⟩] (.draw 16)) (.two (.two (.leaf) (.leaf)) (.leaf))) (.two (.two (.join [1, 3, 4, 6, 12, 14, 80] [12, 14, 28] [⟨.normal, [], [.tmp 129 (.bool)]⟩] (.draw 15)) (.two (.two (.leaf) (.leaf)) (.leaf))) (.two (.two (.draw 11) (.two (.two (.leaf) (.leaf)) (.leaf))) (.two (.two (.leaf) (.one (.loop [1, 3, 4, 6, 12, 14, 145, 146] [12, 14] [] [.tmp 147 (.int .i64)] [⟨.exit 0, [], []⟩, ⟨.ret, [], [.tmp 82 (.int .i64)]⟩] (.two (.leaf) (.two (.two (.leaf) (.leaf)) (.two (.one (.two (.leaf) (.two (.leaf) (.two (.leaf) (.two (.two (.leaf) (.leaf)) (.leaf)))))) (.leaf))))))) (.two (.leaf) (.leaf))))))))) (.leaf)) (.two (.leaf) (.two (.two (.leaf) (.leaf)) (.leaf)))) (.two (.draw 10) (.two (.two (.leaf) (.two (.two (.leaf) (.leaf)) (.leaf))) (.two (.two (.leaf) (.two (.two (.leaf) (.leaf)) (.leaf))) (.two (.two (.leaf) (.two (.two (.leaf) (.leaf)) (.leaf))) (.two (.join [4, 6, 12, 14] [12, 14] [⟨.normal, [], [.tmp 20 (.pt 20 [(0, 0)] 0 0 4), .box 20 [.sl .own (.pair (.int .i64) (.pair (.int .i64) (.int .i64))), .sl .own (.pair (.pair (.int .i64) (.int .i64)) (.pair (.int .i64) (.pair .bool (.pair (.int .i64) (.int .i64))))), .sl .own (.pair (.pair (.int .i64) (.int .i64)) (.int .i64)), .sl .own (.pair (.int .i64) (.int .i64))]]⟩] (.drawT [0, 1, 2, 3, 4, 5, 6, 7, 8, 9, 10] [9])) (.two (.leaf) (.two (.join [] [] [⟨.normal, [], [.tmp 14 (.pt 14 [(0, 0)] 0 0 7), .tmp 15 (.int .i64), .box 14 [.sl .own (.pair (.int .i64) (.pair (.int .i64) (.int .i64))), .sl .own (.pair (.pair (.int .i64) (.int .i64)) (.pair (.int .i64) (.pair .bool (.pair (.int .i64) (.int .i64))))), .sl .own (.pair (.pair (.int .i64) (.int .i64)) (.int .i64)), .sl .own (.pair (.int .i64) (.int .i64)), .sl .own (.pair (.int .i64) (.pair (.int .i64) (.pair (.int .i64) (.pair (.pair (.int .i64) (.int .i64)) (.pair (.int .i64) (.pair (.int .i64) (.pair (.int .i64) (.pair (.int .i64) (.pair (.int .i64) (.pair .bool (.int .i64))))))))))), .sl .own (.pair (.int .i64) (.pair (.pair (.int .i64) (.int .i64)) (.pair (.int .i64) (.pair (.int .i64) (.pair (.int .i64) (.pair .bool (.rsl (.int .i64)))))))), .sl .own (.pair (.pair (.int .i64) (.int .i64)) (.pair .bool .bool))]]⟩] (.stagesI [0, 1, 2, 3, 4, 5, 6] 8 157 (.two (.leaf) (.two (.leaf) (.two (.draw 11) (.two (.leaf) (.two (.leaf) (.leaf)))))))) (.leaf))))))))))
theorem s9 : SoundF cx.P cx.G 9 sg9 r9 := by
  have e : denF cx [(8, ⟨sg8, r8⟩), (14, ⟨sg14, r14⟩), (18, ⟨sg18, r18⟩), (32, ⟨sg32, r32⟩), (34, ⟨sg34, r34⟩), (35, ⟨sg35, r35⟩), (36, ⟨sg36, r36⟩), (37, ⟨sg37, r37⟩), (38, ⟨sg38, r38⟩)] an9 Try.f9.ntmps (Try.f9.body.getD .skip) Try.f9.results.toList sg9 = r9q := by kernel_rfl
  rw [← r9e, ← e]
  exact sound_of_den (c := cx) (Known.cons (.ofF s8 (by kernel_rfl)) Try.func8 (by kernel_rfl) (by kernel_rfl) (Known.cons (.ofF s14 (by kernel_rfl)) Try.func14 (by kernel_rfl) (by kernel_rfl) (Known.cons (.ofF s18 (by kernel_rfl)) Try.func18 (by kernel_rfl) (by kernel_rfl) (Known.cons (.ofF s32 (by kernel_rfl)) Try.func32 (by kernel_rfl) (by kernel_rfl) (Known.cons (.ofF s34 (by kernel_rfl)) Try.func34 (by kernel_rfl) (by kernel_rfl) (Known.cons (.ofF s35 (by kernel_rfl)) Try.func35 (by kernel_rfl) (by kernel_rfl) (Known.cons (.ofF s36 (by kernel_rfl)) Try.func36 (by kernel_rfl) (by kernel_rfl) (Known.cons (.ofF s37 (by kernel_rfl)) Try.func37 (by kernel_rfl) (by kernel_rfl) (Known.cons (.ofF s38 (by kernel_rfl)) Try.func38 (by kernel_rfl) (by kernel_rfl) (Known.nil)))))))))) Try.func9 (by kernel_rfl) (Nat.le_of_ble_eq_true (by kernel_rfl)) rfl

/-! reredos/reredoskeep.ForceOnce -/
def sg3 : Sig := ⟨[⟨false, .bo, (.sl (.pair (.int .i64) (.pair (.int .i64) (.pair (.int .i64) (.pair (.int .i64) (.pair (.int .i64) (.int .i64)))))))⟩, ⟨true, .bo, (.pair (.int .i64) (.pair (.int .i64) (.pair (.int .i64) (.pair (.int .i64) (.pair (.int .i64) (.int .i64))))))⟩, ⟨false, .bo, .bool⟩], [⟨false, .own, .bool⟩]⟩
noncomputable def r3 (a : (List ((Int × (Int × (Int × (Int × (Int × Int)))))) × ((Int × (Int × (Int × (Int × (Int × Int))))) × Bool))) : Option Bool :=
  Option.bind (r5 (0 : Int)) fun (y1 : (Int × (List ((Int × Int)) × Int))) =>
    Option.bind (r6 (a.1, (25 : Int))) fun (y2 : (List ((Int × (Int × Int))) × (List (((Int × Int) × (Int × (Bool × (Int × Int))))) × (List (((Int × Int) × Int)) × List ((Int × Int)))))) =>
      Option.bind (r7 (a.2.1.2.1, (4 : Int))) fun (y3 : Int) =>
        Option.bind (r8 (y2, ((0 : Int), (Go.IntKind.wrap .i64 ((1 : Int) + y3))))) fun (y4 : (Int × Int)) =>
          Option.bind (r9 (y1, (0 : Int), (0 : Int), [y2, ([], ([], ([], [])))], [], ((0 : Int), (Go.IntKind.wrap .i64 ((1 : Int) + y3))), a.2.2)) fun (y5 : (((List ((Int × (Int × Int))) × (List (((Int × Int) × (Int × (Bool × (Int × Int))))) × (List (((Int × Int) × Int)) × List ((Int × Int))))) × (List ((Int × (Int × (Int × ((Int × Int) × (Int × (Int × (Int × (Int × (Int × (Bool × Int))))))))))) × (List ((Int × ((Int × Int) × (Int × (Int × (Int × (Bool × List Int))))))) × List (((Int × Int) × (Bool × Bool)))))) × Int)) =>
            bif !(decide (y4.2 = (0 : Int))) then
              some false
            else
              bif decide (y4.1 = (0 : Int)) then
                bif decide (y5.2 = (6 : Int)) then
                  some (decide ((↑y5.1.2.2.2.length : Int) = (0 : Int)))
                else
                  some false
              else
                Option.bind (r9 (y1, (0 : Int), (0 : Int), [y5.1.1, ([], ([], ([], [])))], y5.1.2.2.2, ((0 : Int), (Go.IntKind.wrap .i64 ((1 : Int) + y3))), a.2.2)) fun (y6 : (((List ((Int × (Int × Int))) × (List (((Int × Int) × (Int × (Bool × (Int × Int))))) × (List (((Int × Int) × Int)) × List ((Int × Int))))) × (List ((Int × (Int × (Int × ((Int × Int) × (Int × (Int × (Int × (Int × (Int × (Bool × Int))))))))))) × (List ((Int × ((Int × Int) × (Int × (Int × (Int × (Bool × List Int))))))) × List (((Int × Int) × (Bool × Bool)))))) × Int)) =>
                  bif decide (y5.2 = (0 : Int)) then
                    bif decide (y6.2 = (6 : Int)) then
                      bif decide ((↑y5.1.2.2.2.length : Int) = (1 : Int)) then
                        Option.bind (idxI y5.1.2.2.2 (0 : Int)) fun (b9 : ((Int × Int) × (Bool × Bool))) =>
                          bif ((decide (b9.1.1 = (0 : Int)) && (decide (b9.1.2 = (Go.IntKind.wrap .i64 ((1 : Int) + y3))) && true)) && (decide (b9.2.1 = a.2.2) && (decide (b9.2.2 = false) && true))) then
                            bif decide ((↑y5.1.2.2.1.length : Int) = (1 : Int)) then
                              Option.bind (idxI y5.1.2.2.1 (0 : Int)) fun (b10 : (Int × ((Int × Int) × (Int × (Int × (Int × (Bool × List Int))))))) =>
                                some (decide (b10.1 = (6 : Int)))
                            else
                              some false
                          else
                            some false
                      else
                        some false
                    else
                      some false
                  else
                    some false
def an3 : Ann := .two (.leaf) (.two (.leaf) (.two (.leaf) (.two (.leaf) (.two (.leaf) (.two (.leaf) (.two (.two (.leaf) (.two (.two (.leaf) (.leaf)) (.leaf))) (.two (.two (.leaf) (.two (.two (.leaf) (.leaf)) (.leaf))) (.two (.leaf) (.two (.draw 20) (.leaf))))))))))
theorem s3 : SoundF cx.P cx.G 3 sg3 r3 := by
  have e : denF cx [(5, ⟨sg5, r5⟩), (6, ⟨sg6, r6⟩), (7, ⟨sg7, r7⟩), (8, ⟨sg8, r8⟩), (9, ⟨sg9, r9⟩)] an3 Try.f3.ntmps (Try.f3.body.getD .skip) Try.f3.results.toList sg3 = r3 := by kernel_rfl
  rw [← e]
  exact sound_of_den (c := cx) (Known.cons (.ofF s5 (by kernel_rfl)) Try.func5 (by kernel_rfl) (by kernel_rfl) (Known.cons (.ofF s6 (by kernel_rfl)) Try.func6 (by kernel_rfl) (by kernel_rfl) (Known.cons (.ofF s7 (by kernel_rfl)) Try.func7 (by kernel_rfl) (by kernel_rfl) (Known.cons (.ofF s8 (by kernel_rfl)) Try.func8 (by kernel_rfl) (by kernel_rfl) (Known.cons (.ofF s9 (by kernel_rfl)) Try.func9 (by kernel_rfl) (by kernel_rfl) (Known.nil)))))) Try.func3 (by kernel_rfl) (Nat.le_of_ble_eq_true (by kernel_rfl)) rfl

/-! reredos/store.Age -/
noncomputable def r19_L0 (y3 : (List ((Int × (Int × Int))) × (List (((Int × Int) × (Int × (Bool × (Int × Int))))) × (List (((Int × Int) × Int)) × List ((Int × Int)))))) (a : ((List ((Int × (Int × Int))) × (List (((Int × Int) × (Int × (Bool × (Int × Int))))) × (List (((Int × Int) × Int)) × List ((Int × Int))))) × Int)) (d38 : (Unit × (Unit × (Int × ((List ((Int × (Int × Int))) × (List (((Int × Int) × (Int × (Bool × (Int × Int))))) × (List (((Int × Int) × Int)) × List ((Int × Int))))) × List ((Int × Int))))))) : Option ((Unit × (Unit × (Int × ((List ((Int × (Int × Int))) × (List (((Int × Int) × (Int × (Bool × (Int × Int))))) × (List (((Int × Int) × Int)) × List ((Int × Int))))) × List ((Int × Int)))))) ⊕ (Unit × (Unit × ((List ((Int × (Int × Int))) × (List (((Int × Int) × (Int × (Bool × (Int × Int))))) × (List (((Int × Int) × Int)) × List ((Int × Int))))) × List ((Int × Int)))))) :=
  bif decide (d38.2.2.1 < (↑y3.2.2.1.length : Int)) then
    Option.bind (
      bif inB d38.2.2.1 d38.2.2.2.1.2.2.1.length then
        Option.bind (idxN d38.2.2.2.1.2.2.1 (Int.toNat d38.2.2.1)) fun (x49 : ((Int × Int) × Int)) =>
          Option.bind (idxN d38.2.2.2.1.2.2.1 (Int.toNat d38.2.2.1)) fun (x50 : ((Int × Int) × Int)) =>
            Option.bind (idxN (List.set d38.2.2.2.1.2.2.1 (Int.toNat d38.2.2.1) (x50.1, (Go.IntKind.wrap .i64 (x49.2 + (1 : Int))))) (Int.toNat d38.2.2.1)) fun (x51 : ((Int × Int) × Int)) =>
              bif decide (a.2 ≤ x51.2) then
                Option.bind (idxN (List.set d38.2.2.2.1.2.2.1 (Int.toNat d38.2.2.1) (x50.1, (Go.IntKind.wrap .i64 (x49.2 + (1 : Int))))) (Int.toNat d38.2.2.1)) fun (x52 : ((Int × Int) × Int)) =>
                  bif roomOk false d38.2.2.2.2.length 1 16 then
                    Option.bind (idxN (List.set d38.2.2.2.1.2.2.1 (Int.toNat d38.2.2.1) (x50.1, (Go.IntKind.wrap .i64 (x49.2 + (1 : Int))))) (Int.toNat d38.2.2.1)) fun (x53 : ((Int × Int) × Int)) =>
                      some ((), ((), ((d38.2.2.2.1.1, (d38.2.2.2.1.2.1, (List.set (List.set d38.2.2.2.1.2.2.1 (Int.toNat d38.2.2.1) (x50.1, (Go.IntKind.wrap .i64 (x49.2 + (1 : Int))))) (Int.toNat d38.2.2.1) (x53.1, (0 : Int)), d38.2.2.2.1.2.2.2))), app d38.2.2.2.2 [x52.1])))
                  else
                    none
              else
                some ((), ((), ((d38.2.2.2.1.1, (d38.2.2.2.1.2.1, (List.set d38.2.2.2.1.2.2.1 (Int.toNat d38.2.2.1) (x50.1, (Go.IntKind.wrap .i64 (x49.2 + (1 : Int)))), d38.2.2.2.1.2.2.2))), d38.2.2.2.2)))
      else
        none) fun (d54 : (Unit × (Unit × ((List ((Int × (Int × Int))) × (List (((Int × Int) × (Int × (Bool × (Int × Int))))) × (List (((Int × Int) × Int)) × List ((Int × Int))))) × List ((Int × Int)))))) =>
      some (Sum.inl ((), ((), ((Go.IntKind.wrap .i64 (d38.2.2.1 + (1 : Int))), d54.2.2))))
  else
    some (Sum.inr ((), ((), d38.2.2.2)))
def sg19 : Sig := ⟨[⟨true, .bo, (.pair (.sl (.pair (.int .i64) (.pair (.int .i64) (.int .i64)))) (.pair (.sl (.pair (.pair (.int .i64) (.int .i64)) (.pair (.int .i64) (.pair .bool (.pair (.int .i64) (.int .i64)))))) (.pair (.sl (.pair (.pair (.int .i64) (.int .i64)) (.int .i64))) (.sl (.pair (.int .i64) (.int .i64))))))⟩, ⟨false, .bo, (.int .i64)⟩], [⟨true, .own, (.pair (.sl (.pair (.int .i64) (.pair (.int .i64) (.int .i64)))) (.pair (.sl (.pair (.pair (.int .i64) (.int .i64)) (.pair (.int .i64) (.pair .bool (.pair (.int .i64) (.int .i64)))))) (.pair (.sl (.pair (.pair (.int .i64) (.int .i64)) (.int .i64))) (.sl (.pair (.int .i64) (.int .i64))))))⟩, ⟨false, .own, (.sl (.pair (.int .i64) (.int .i64)))⟩, ⟨false, .own, (.int .i64)⟩]⟩
noncomputable def r19 (a : ((List ((Int × (Int × Int))) × (List (((Int × Int) × (Int × (Bool × (Int × Int))))) × (List (((Int × Int) × Int)) × List ((Int × Int))))) × Int)) : Option ((List ((Int × (Int × Int))) × (List (((Int × Int) × (Int × (Bool × (Int × Int))))) × (List (((Int × Int) × Int)) × List ((Int × Int))))) × (List ((Int × Int)) × Int)) :=
  Option.bind (r32 a.1) fun (y1 : Int) =>
    bif !(decide (y1 = (0 : Int))) then
      some (([], ([], ([], []))), ([], y1))
    else
      Option.bind (
        bif !(decide (a.2 < (1 : Int))) then
          some (decide ((1048576 : Int) < a.2))
        else
          some true) fun (d2 : Bool) =>
        bif d2 then
          some (([], ([], ([], []))), ([], (2 : Int)))
        else
          Option.bind (r22 a.1) fun (y3 : (List ((Int × (Int × Int))) × (List (((Int × Int) × (Int × (Bool × (Int × Int))))) × (List (((Int × Int) × Int)) × List ((Int × Int)))))) =>
            Option.bind (loopR (r19_L0 y3 a) ((), ((), ((0 : Int), (y3, []))))) fun (q55 : (Unit × (Unit × ((List ((Int × (Int × Int))) × (List (((Int × Int) × (Int × (Bool × (Int × Int))))) × (List (((Int × Int) × Int)) × List ((Int × Int))))) × List ((Int × Int)))))) =>
              some (q55.2.2.1, (q55.2.2.2, (0 : Int)))
def an19 : Ann := .two (.leaf) (.two (.two (.leaf) (.two (.leaf) (.two (.two (.leaf) (.leaf)) (.leaf)))) (.two (.two (.join [1, 2, 4] [2, 4] [⟨.normal, [], [.tmp 23 (.bool)]⟩] (.leaf)) (.two (.two (.leaf) (.leaf)) (.leaf))) (.two (.leaf) (.two (.leaf) (.two (.two (.leaf) (.one (.loop [1, 4, 29] [4] [(9, (.pair (.int .i64) (.int .i64)))] [.tmp 8 (.pt 8 [(0, 0)] 0 0 4), .tmp 9 (.own 9 [(0, 0)] (.pair (.int .i64) (.int .i64))), .tmp 30 (.int .i64), .box 8 [.sl .own (.pair (.int .i64) (.pair (.int .i64) (.int .i64))), .sl .own (.pair (.pair (.int .i64) (.int .i64)) (.pair (.int .i64) (.pair .bool (.pair (.int .i64) (.int .i64))))), .sl .own (.pair (.pair (.int .i64) (.int .i64)) (.int .i64)), .sl .own (.pair (.int .i64) (.int .i64))], .row 9 [.sl .own (.pair (.int .i64) (.int .i64))]] [⟨.exit 0, [], [.tmp 8 (.pt 8 [(0, 0)] 0 0 4), .tmp 9 (.own 9 [(0, 0)] (.pair (.int .i64) (.int .i64))), .box 8 [.sl .own (.pair (.int .i64) (.pair (.int .i64) (.int .i64))), .sl .own (.pair (.pair (.int .i64) (.int .i64)) (.pair (.int .i64) (.pair .bool (.pair (.int .i64) (.int .i64))))), .sl .own (.pair (.pair (.int .i64) (.int .i64)) (.int .i64)), .sl .own (.pair (.int .i64) (.int .i64))], .row 9 [.sl .own (.pair (.int .i64) (.int .i64))]]⟩] (.two (.leaf) (.two (.two (.leaf) (.leaf)) (.two (.join [1, 4, 29, 30] [4] [⟨.normal, [(9, (.pair (.int .i64) (.int .i64)))], [.tmp 8 (.pt 8 [(0, 0)] 0 0 4), .tmp 9 (.own 9 [(0, 0)] (.pair (.int .i64) (.int .i64))), .box 8 [.sl .own (.pair (.int .i64) (.pair (.int .i64) (.int .i64))), .sl .own (.pair (.pair (.int .i64) (.int .i64)) (.pair (.int .i64) (.pair .bool (.pair (.int .i64) (.int .i64))))), .sl .own (.pair (.pair (.int .i64) (.int .i64)) (.int .i64)), .sl .own (.pair (.int .i64) (.int .i64))], .row 9 [.sl .own (.pair (.int .i64) (.int .i64))]]⟩] (.one (.two (.leaf) (.two (.leaf) (.two (.leaf) (.two (.leaf) (.two (.two (.leaf) (.leaf)) (.leaf)))))))) (.leaf))))))) (.two (.leaf) (.leaf)))))))
theorem s19 : SoundF cx.P cx.G 19 sg19 r19 := by
  have e : denF cx [(22, ⟨sg22, r22⟩), (32, ⟨sg32, r32⟩)] an19 Try.f19.ntmps (Try.f19.body.getD .skip) Try.f19.results.toList sg19 = r19 := by kernel_rfl
  rw [← e]
  exact sound_of_den (c := cx) (Known.cons (.ofF s22 (by kernel_rfl)) Try.func22 (by kernel_rfl) (by kernel_rfl) (Known.cons (.ofF s32 (by kernel_rfl)) Try.func32 (by kernel_rfl) (by kernel_rfl) (Known.nil))) Try.func19 (by kernel_rfl) (Nat.le_of_ble_eq_true (by kernel_rfl)) rfl

/-! reredos/part.Tick -/
noncomputable def r10_L0 (a : ((Int × (List ((Int × Int)) × Int)) × (Int × (Int × List ((List ((Int × (Int × Int))) × (List (((Int × Int) × (Int × (Bool × (Int × Int))))) × (List (((Int × Int) × Int)) × List ((Int × Int)))))))))) (d22 : Int) : Option (Int ⊕ (Unit ⊕ Int)) :=
  bif decide (d22 < (↑a.2.2.2.length : Int)) then
    Option.bind (idxI a.2.2.2 d22) fun (b23 : (List ((Int × (Int × Int))) × (List (((Int × Int) × (Int × (Bool × (Int × Int))))) × (List (((Int × Int) × Int)) × List ((Int × Int)))))) =>
      Option.bind (r32 b23) fun (y24 : Int) =>
        bif !(decide (y24 = (0 : Int))) then
          some (Sum.inr (Sum.inr y24))
        else
          some (Sum.inl (Go.IntKind.wrap .i64 (d22 + (1 : Int))))
  else
    some (Sum.inr (Sum.inl ()))
noncomputable def r10_L1 (d35 : (Unit × (Unit × ((List ((Int × (Int × Int))) × (List (((Int × Int) × (Int × (Bool × (Int × Int))))) × (List (((Int × Int) × Int)) × List ((Int × Int))))) × (Unit × (Unit × (Unit × (Unit × (List ((Int × Int)) × Int))))))))) (a : ((Int × (List ((Int × Int)) × Int)) × (Int × (Int × List ((List ((Int × (Int × Int))) × (List (((Int × Int) × (Int × (Bool × (Int × Int))))) × (List (((Int × Int) × Int)) × List ((Int × Int)))))))))) (d41 : (Unit × (Int × (List ((Int × (Int × Int))) × (List (((Int × Int) × (Int × (Bool × (Int × Int))))) × (List (((Int × Int) × Int)) × (List ((Int × Int)) × (List ((Int × (Int × (Int × ((Int × Int) × (Int × (Int × (Int × (Int × (Int × (Bool × Int))))))))))) × (List ((Int × ((Int × Int) × (Int × (Int × (Int × (Bool × List Int))))))) × List (((Int × Int) × (Bool × Bool)))))))))))) : Option ((Unit × (Int × (List ((Int × (Int × Int))) × (List (((Int × Int) × (Int × (Bool × (Int × Int))))) × (List (((Int × Int) × Int)) × (List ((Int × Int)) × (List ((Int × (Int × (Int × ((Int × Int) × (Int × (Int × (Int × (Int × (Int × (Bool × Int))))))))))) × (List ((Int × ((Int × Int) × (Int × (Int × (Int × (Bool × List Int))))))) × List (((Int × Int) × (Bool × Bool))))))))))) ⊕ (Unit × (List ((Int × (Int × Int))) × (List (((Int × Int) × (Int × (Bool × (Int × Int))))) × (List (((Int × Int) × Int)) × (List ((Int × Int)) × (List ((Int × (Int × (Int × ((Int × Int) × (Int × (Int × (Int × (Int × (Int × (Bool × Int))))))))))) × (List ((Int × ((Int × Int) × (Int × (Int × (Int × (Bool × List Int))))))) × List (((Int × Int) × (Bool × Bool))))))))))) :=
  bif decide (d41.2.1 < (↑d35.2.2.2.2.2.2.2.1.length : Int)) then
    Option.bind (
      bif inB d41.2.1 d35.2.2.2.2.2.2.2.1.length then
        Option.bind (idxN d35.2.2.2.2.2.2.2.1 (Int.toNat d41.2.1)) fun (x44 : (Int × Int)) =>
          bif decide (x44.1 < a.1.1) then
            bif roomOk false d41.2.2.2.2.2.2.1.length 1 96 then
              some ((), (d41.2.2.1, (d41.2.2.2.1, (d41.2.2.2.2.1, (d41.2.2.2.2.2.1, (app d41.2.2.2.2.2.2.1 [((9 : Int), (a.2.2.1, (x44.1, (x44, ((0 : Int), ((0 : Int), ((0 : Int), ((0 : Int), ((0 : Int), (false, (0 : Int)))))))))))], d41.2.2.2.2.2.2.2))))))
            else
              none
          else
            some ((), d41.2.2)
      else
        none) fun (d45 : (Unit × (List ((Int × (Int × Int))) × (List (((Int × Int) × (Int × (Bool × (Int × Int))))) × (List (((Int × Int) × Int)) × (List ((Int × Int)) × (List ((Int × (Int × (Int × ((Int × Int) × (Int × (Int × (Int × (Int × (Int × (Bool × Int))))))))))) × (List ((Int × ((Int × Int) × (Int × (Int × (Int × (Bool × List Int))))))) × List (((Int × Int) × (Bool × Bool))))))))))) =>
      some (Sum.inl ((), ((Go.IntKind.wrap .i64 (d41.2.1 + (1 : Int))), d45.2)))
  else
    some (Sum.inr ((), d41.2.2))
noncomputable def r10_L0q (a : ((Int × (List ((Int × Int)) × Int)) × (Int × (Int × List ((List ((Int × (Int × Int))) × (List (((Int × Int) × (Int × (Bool × (Int × Int))))) × (List (((Int × Int) × Int)) × List ((Int × Int)))))))))) : Int → Option (Int ⊕ (Unit ⊕ Int)) := fun d22 =>
  bif decide (d22 < (↑a.2.2.2.length : Int)) then
    Option.bind (idxI a.2.2.2 d22) fun (b23 : (List ((Int × (Int × Int))) × (List (((Int × Int) × (Int × (Bool × (Int × Int))))) × (List (((Int × Int) × Int)) × List ((Int × Int)))))) =>
      Option.bind (r32 b23) fun (y24 : Int) =>
        bif !(decide (y24 = (0 : Int))) then
          some (Sum.inr (Sum.inr y24))
        else
          some (Sum.inl (Go.IntKind.wrap .i64 (d22 + (1 : Int))))
  else
    some (Sum.inr (Sum.inl ()))
theorem r10_L0e (a : ((Int × (List ((Int × Int)) × Int)) × (Int × (Int × List ((List ((Int × (Int × Int))) × (List (((Int × Int) × (Int × (Bool × (Int × Int))))) × (List (((Int × Int) × Int)) × List ((Int × Int)))))))))) : r10_L0q a = r10_L0 a := by unfold r10_L0q r10_L0; rfl
noncomputable def r10_L1q (d35 : (Unit × (Unit × ((List ((Int × (Int × Int))) × (List (((Int × Int) × (Int × (Bool × (Int × Int))))) × (List (((Int × Int) × Int)) × List ((Int × Int))))) × (Unit × (Unit × (Unit × (Unit × (List ((Int × Int)) × Int))))))))) (a : ((Int × (List ((Int × Int)) × Int)) × (Int × (Int × List ((List ((Int × (Int × Int))) × (List (((Int × Int) × (Int × (Bool × (Int × Int))))) × (List (((Int × Int) × Int)) × List ((Int × Int)))))))))) : (Unit × (Int × (List ((Int × (Int × Int))) × (List (((Int × Int) × (Int × (Bool × (Int × Int))))) × (List (((Int × Int) × Int)) × (List ((Int × Int)) × (List ((Int × (Int × (Int × ((Int × Int) × (Int × (Int × (Int × (Int × (Int × (Bool × Int))))))))))) × (List ((Int × ((Int × Int) × (Int × (Int × (Int × (Bool × List Int))))))) × List (((Int × Int) × (Bool × Bool))))))))))) → Option ((Unit × (Int × (List ((Int × (Int × Int))) × (List (((Int × Int) × (Int × (Bool × (Int × Int))))) × (List (((Int × Int) × Int)) × (List ((Int × Int)) × (List ((Int × (Int × (Int × ((Int × Int) × (Int × (Int × (Int × (Int × (Int × (Bool × Int))))))))))) × (List ((Int × ((Int × Int) × (Int × (Int × (Int × (Bool × List Int))))))) × List (((Int × Int) × (Bool × Bool))))))))))) ⊕ (Unit × (List ((Int × (Int × Int))) × (List (((Int × Int) × (Int × (Bool × (Int × Int))))) × (List (((Int × Int) × Int)) × (List ((Int × Int)) × (List ((Int × (Int × (Int × ((Int × Int) × (Int × (Int × (Int × (Int × (Int × (Bool × Int))))))))))) × (List ((Int × ((Int × Int) × (Int × (Int × (Int × (Bool × List Int))))))) × List (((Int × Int) × (Bool × Bool))))))))))) := fun d41 =>
  bif decide (d41.2.1 < (↑d35.2.2.2.2.2.2.2.1.length : Int)) then
    Option.bind (
      bif inB d41.2.1 d35.2.2.2.2.2.2.2.1.length then
        Option.bind (idxN d35.2.2.2.2.2.2.2.1 (Int.toNat d41.2.1)) fun (x44 : (Int × Int)) =>
          bif decide (x44.1 < a.1.1) then
            bif roomOk false d41.2.2.2.2.2.2.1.length 1 96 then
              some ((), (d41.2.2.1, (d41.2.2.2.1, (d41.2.2.2.2.1, (d41.2.2.2.2.2.1, (app d41.2.2.2.2.2.2.1 [((9 : Int), (a.2.2.1, (x44.1, (x44, ((0 : Int), ((0 : Int), ((0 : Int), ((0 : Int), ((0 : Int), (false, (0 : Int)))))))))))], d41.2.2.2.2.2.2.2))))))
            else
              none
          else
            some ((), d41.2.2)
      else
        none) fun (d45 : (Unit × (List ((Int × (Int × Int))) × (List (((Int × Int) × (Int × (Bool × (Int × Int))))) × (List (((Int × Int) × Int)) × (List ((Int × Int)) × (List ((Int × (Int × (Int × ((Int × Int) × (Int × (Int × (Int × (Int × (Int × (Bool × Int))))))))))) × (List ((Int × ((Int × Int) × (Int × (Int × (Int × (Bool × List Int))))))) × List (((Int × Int) × (Bool × Bool))))))))))) =>
      some (Sum.inl ((), ((Go.IntKind.wrap .i64 (d41.2.1 + (1 : Int))), d45.2)))
  else
    some (Sum.inr ((), d41.2.2))
theorem r10_L1e (d35 : (Unit × (Unit × ((List ((Int × (Int × Int))) × (List (((Int × Int) × (Int × (Bool × (Int × Int))))) × (List (((Int × Int) × Int)) × List ((Int × Int))))) × (Unit × (Unit × (Unit × (Unit × (List ((Int × Int)) × Int))))))))) (a : ((Int × (List ((Int × Int)) × Int)) × (Int × (Int × List ((List ((Int × (Int × Int))) × (List (((Int × Int) × (Int × (Bool × (Int × Int))))) × (List (((Int × Int) × Int)) × List ((Int × Int)))))))))) : r10_L1q d35 a = r10_L1 d35 a := by unfold r10_L1q r10_L1; rfl
def sg10 : Sig := ⟨[⟨true, .bo, (.pair (.int .i64) (.pair (.sl (.pair (.int .i64) (.int .i64))) (.int .i64)))⟩, ⟨false, .bo, (.int .i64)⟩, ⟨false, .bo, (.int .i64)⟩, ⟨false, .bo, (.sl (.pair (.rsl (.pair (.int .i64) (.pair (.int .i64) (.int .i64)))) (.pair (.rsl (.pair (.pair (.int .i64) (.int .i64)) (.pair (.int .i64) (.pair .bool (.pair (.int .i64) (.int .i64)))))) (.pair (.rsl (.pair (.pair (.int .i64) (.int .i64)) (.int .i64))) (.rsl (.pair (.int .i64) (.int .i64)))))))⟩], [⟨true, .ro, (.pair (.pair (.sl (.pair (.int .i64) (.pair (.int .i64) (.int .i64)))) (.pair (.sl (.pair (.pair (.int .i64) (.int .i64)) (.pair (.int .i64) (.pair .bool (.pair (.int .i64) (.int .i64)))))) (.pair (.sl (.pair (.pair (.int .i64) (.int .i64)) (.int .i64))) (.sl (.pair (.int .i64) (.int .i64)))))) (.pair (.sl (.pair (.int .i64) (.pair (.int .i64) (.pair (.int .i64) (.pair (.pair (.int .i64) (.int .i64)) (.pair (.int .i64) (.pair (.int .i64) (.pair (.int .i64) (.pair (.int .i64) (.pair (.int .i64) (.pair .bool (.int .i64)))))))))))) (.pair (.sl (.pair (.int .i64) (.pair (.pair (.int .i64) (.int .i64)) (.pair (.int .i64) (.pair (.int .i64) (.pair (.int .i64) (.pair .bool (.rsl (.int .i64))))))))) (.sl (.pair (.pair (.int .i64) (.int .i64)) (.pair .bool .bool))))))⟩, ⟨false, .own, (.int .i64)⟩]⟩
noncomputable def r10 (a : ((Int × (List ((Int × Int)) × Int)) × (Int × (Int × List ((List ((Int × (Int × Int))) × (List (((Int × Int) × (Int × (Bool × (Int × Int))))) × (List (((Int × Int) × Int)) × List ((Int × Int)))))))))) : Option (((List ((Int × (Int × Int))) × (List (((Int × Int) × (Int × (Bool × (Int × Int))))) × (List (((Int × Int) × Int)) × List ((Int × Int))))) × (List ((Int × (Int × (Int × ((Int × Int) × (Int × (Int × (Int × (Int × (Int × (Bool × Int))))))))))) × (List ((Int × ((Int × Int) × (Int × (Int × (Int × (Bool × List Int))))))) × List (((Int × Int) × (Bool × Bool)))))) × Int) :=
  Option.bind (
    Option.bind (r34 a.1) fun (y19 : Int) =>
      bif !(decide (y19 = (0 : Int))) then
        some y19
      else
        Option.bind (
          bif !(decide (a.2.1 < (0 : Int))) then
            some (decide ((↑a.1.2.1.length : Int) ≤ a.2.1))
          else
            some true) fun (d20 : Bool) =>
          bif d20 then
            some (6 : Int)
          else
            Option.bind (
              bif !(decide (a.2.2.1 < (0 : Int))) then
                some (decide (a.1.1 ≤ a.2.2.1))
              else
                some true) fun (d21 : Bool) =>
              bif d21 then
                some (2 : Int)
              else
                bif !(decide ((↑a.2.2.2.length : Int) = (↑a.1.2.1.length : Int))) then
                  some (9 : Int)
                else
                  Option.bind (loopR (r10_L0 a) (0 : Int)) fun (q25 : (Unit ⊕ Int)) =>
                    Sum.elim (fun (_ : Unit) =>
                        some (0 : Int))
                      (fun (v27 : Int) =>
                        some v27) q25) fun (d28 : Int) =>
    bif !(decide (d28 = (0 : Int))) then
      some ((([], ([], ([], []))), ([], ([], []))), d28)
    else
      Option.bind (
        Option.bind (idxI a.2.2.2 a.2.1) fun (b33 : (List ((Int × (Int × Int))) × (List (((Int × Int) × (Int × (Bool × (Int × Int))))) × (List (((Int × Int) × Int)) × List ((Int × Int)))))) =>
          Option.bind (r19 (b33, a.1.2.2)) fun (y34 : ((List ((Int × (Int × Int))) × (List (((Int × Int) × (Int × (Bool × (Int × Int))))) × (List (((Int × Int) × Int)) × List ((Int × Int))))) × (List ((Int × Int)) × Int))) =>
            
              some ((), ((), (y34.1, ((), ((), ((), ((), y34.2)))))))) fun (d35 : (Unit × (Unit × ((List ((Int × (Int × Int))) × (List (((Int × Int) × (Int × (Bool × (Int × Int))))) × (List (((Int × Int) × Int)) × List ((Int × Int))))) × (Unit × (Unit × (Unit × (Unit × (List ((Int × Int)) × Int))))))))) =>
        Option.bind (loopR (r10_L1 d35 a) ((), ((0 : Int), (d35.2.2.1.1, (d35.2.2.1.2.1, (d35.2.2.1.2.2.1, (d35.2.2.1.2.2.2, ([], ([], []))))))))) fun (q46 : (Unit × (List ((Int × (Int × Int))) × (List (((Int × Int) × (Int × (Bool × (Int × Int))))) × (List (((Int × Int) × Int)) × (List ((Int × Int)) × (List ((Int × (Int × (Int × ((Int × Int) × (Int × (Int × (Int × (Int × (Int × (Bool × Int))))))))))) × (List ((Int × ((Int × Int) × (Int × (Int × (Int × (Bool × List Int))))))) × List (((Int × Int) × (Bool × Bool))))))))))) =>
          Option.bind (r35 q46.2.1) fun (y51 : List ((Int × (Int × Int)))) =>
            Option.bind (r36 q46.2.2.1) fun (y52 : List (((Int × Int) × (Int × (Bool × (Int × Int)))))) =>
              Option.bind (r37 q46.2.2.2.1) fun (y53 : List (((Int × Int) × Int))) =>
                Option.bind (r38 q46.2.2.2.2.1) fun (y54 : List ((Int × Int))) =>
                  some (((y51, (y52, (y53, y54))), (q46.2.2.2.2.2.1, (q46.2.2.2.2.2.2.1, []))), (0 : Int))
noncomputable def r10q : ((Int × (List ((Int × Int)) × Int)) × (Int × (Int × List ((List ((Int × (Int × Int))) × (List (((Int × Int) × (Int × (Bool × (Int × Int))))) × (List (((Int × Int) × Int)) × List ((Int × Int))))))))) → Option (((List ((Int × (Int × Int))) × (List (((Int × Int) × (Int × (Bool × (Int × Int))))) × (List (((Int × Int) × Int)) × List ((Int × Int))))) × (List ((Int × (Int × (Int × ((Int × Int) × (Int × (Int × (Int × (Int × (Int × (Bool × Int))))))))))) × (List ((Int × ((Int × Int) × (Int × (Int × (Int × (Bool × List Int))))))) × List (((Int × Int) × (Bool × Bool)))))) × Int) := fun a =>
  Option.bind (
    Option.bind (r34 a.1) fun (y19 : Int) =>
      bif !(decide (y19 = (0 : Int))) then
        some y19
      else
        Option.bind (
          bif !(decide (a.2.1 < (0 : Int))) then
            some (decide ((↑a.1.2.1.length : Int) ≤ a.2.1))
          else
            some true) fun (d20 : Bool) =>
          bif d20 then
            some (6 : Int)
          else
            Option.bind (
              bif !(decide (a.2.2.1 < (0 : Int))) then
                some (decide (a.1.1 ≤ a.2.2.1))
              else
                some true) fun (d21 : Bool) =>
              bif d21 then
                some (2 : Int)
              else
                bif !(decide ((↑a.2.2.2.length : Int) = (↑a.1.2.1.length : Int))) then
                  some (9 : Int)
                else
                  Option.bind (loopR (r10_L0q a) (0 : Int)) fun (q25 : (Unit ⊕ Int)) =>
                    Sum.elim (fun (_ : Unit) =>
                        some (0 : Int))
                      (fun (v27 : Int) =>
                        some v27) q25) fun (d28 : Int) =>
    bif !(decide (d28 = (0 : Int))) then
      some ((([], ([], ([], []))), ([], ([], []))), d28)
    else
      Option.bind (
        Option.bind (idxI a.2.2.2 a.2.1) fun (b33 : (List ((Int × (Int × Int))) × (List (((Int × Int) × (Int × (Bool × (Int × Int))))) × (List (((Int × Int) × Int)) × List ((Int × Int)))))) =>
          Option.bind (r19 (b33, a.1.2.2)) fun (y34 : ((List ((Int × (Int × Int))) × (List (((Int × Int) × (Int × (Bool × (Int × Int))))) × (List (((Int × Int) × Int)) × List ((Int × Int))))) × (List ((Int × Int)) × Int))) =>
            sameR (
              some ((), ((), (y34.1, ((), ((), ((), ((), y34.2))))))))
 (
              sameR (
                sameR (
                  some ((), ((), (y34.1, ((), ((), ((), ((), y34.2))))))))
 (
                  sameR (
                    some ((), ((), (y34.1, ((), ((), ((), ((), y34.2))))))))
 (
                    some ((), ((), (y34.1, ((), ((), ((), ((), y34.2))))))))))
 (
                sameR (
                  sameR (
                    some ((), ((), (y34.1, ((), ((), ((), ((), y34.2))))))))
 (
                    some ((), ((), (y34.1, ((), ((), ((), ((), y34.2)))))))))
 (
                  sameR (
                    sameR (
                      some ((), ((), (y34.1, ((), ((), ((), ((), y34.2))))))))
 (
                      sameR (
                        some ((), ((), (y34.1, ((), ((), ((), ((), y34.2))))))))
 (
                        some ((), ((), (y34.1, ((), ((), ((), ((), y34.2))))))))))
 (
                    sameR (
                      sameR (
                        some ((), ((), (y34.1, ((), ((), ((), ((), y34.2))))))))
 (
                        some ((), ((), (y34.1, ((), ((), ((), ((), y34.2)))))))))
 (
                      sameR (
                        sameR (
                          some ((), ((), (y34.1, ((), ((), ((), ((), y34.2))))))))
 (
                          some ((), ((), (y34.1, ((), ((), ((), ((), y34.2)))))))))
 (
                        some ((), ((), (y34.1, ((), ((), ((), ((), y34.2)))))))))))))) fun (d35 : (Unit × (Unit × ((List ((Int × (Int × Int))) × (List (((Int × Int) × (Int × (Bool × (Int × Int))))) × (List (((Int × Int) × Int)) × List ((Int × Int))))) × (Unit × (Unit × (Unit × (Unit × (List ((Int × Int)) × Int))))))))) =>
        Option.bind (loopR (r10_L1q d35 a) ((), ((0 : Int), (d35.2.2.1.1, (d35.2.2.1.2.1, (d35.2.2.1.2.2.1, (d35.2.2.1.2.2.2, ([], ([], []))))))))) fun (q46 : (Unit × (List ((Int × (Int × Int))) × (List (((Int × Int) × (Int × (Bool × (Int × Int))))) × (List (((Int × Int) × Int)) × (List ((Int × Int)) × (List ((Int × (Int × (Int × ((Int × Int) × (Int × (Int × (Int × (Int × (Int × (Bool × Int))))))))))) × (List ((Int × ((Int × Int) × (Int × (Int × (Int × (Bool × List Int))))))) × List (((Int × Int) × (Bool × Bool))))))))))) =>
          Option.bind (r35 q46.2.1) fun (y51 : List ((Int × (Int × Int)))) =>
            Option.bind (r36 q46.2.2.1) fun (y52 : List (((Int × Int) × (Int × (Bool × (Int × Int)))))) =>
              Option.bind (r37 q46.2.2.2.1) fun (y53 : List (((Int × Int) × Int))) =>
                Option.bind (r38 q46.2.2.2.2.1) fun (y54 : List ((Int × Int))) =>
                  some (((y51, (y52, (y53, y54))), (q46.2.2.2.2.2.1, (q46.2.2.2.2.2.2.1, []))), (0 : Int))
theorem r10e : r10q = r10 := by unfold r10q r10; simp only [sameR_self, r10_L0e, r10_L1e]
def an10 : Ann := .two (.leaf) (.two (.leaf) (.two (.two (.inl 1 67 (.join [1, 2, 3, 4, 8] [4, 8] [⟨.ret, [], [.tmp 69 (.int .i64)]⟩] (.two (.leaf) (.two (.two (.leaf) (.two (.leaf) (.two (.two (.leaf) (.leaf)) (.leaf)))) (.two (.two (.join [1, 2, 3, 4, 8, 67] [4, 8, 23] [⟨.normal, [], [.tmp 99 (.bool)]⟩] (.draw 16)) (.two (.two (.leaf) (.leaf)) (.leaf))) (.two (.two (.join [1, 2, 3, 4, 8, 67] [4, 8, 23] [⟨.normal, [], [.tmp 116 (.bool)]⟩] (.draw 15)) (.two (.two (.leaf) (.leaf)) (.leaf))) (.two (.two (.draw 11) (.two (.two (.leaf) (.leaf)) (.leaf))) (.two (.two (.leaf) (.one (.loop [1, 2, 3, 4, 8, 132, 133] [4, 8] [] [.tmp 134 (.int .i64)] [⟨.exit 0, [], []⟩, ⟨.ret, [], [.tmp 69 (.int .i64)]⟩] (.two (.leaf) (.two (.two (.leaf) (.leaf)) (.two (.one (.two (.leaf) (.two (.leaf) (.two (.leaf) (.two (.two (.leaf) (.leaf)) (.leaf)))))) (.leaf))))))) (.two (.leaf) (.leaf))))))))) (.leaf)) (.two (.leaf) (.two (.two (.leaf) (.leaf)) (.leaf)))) (.two (.join [2, 4, 8] [4, 8] [⟨.normal, [], [.tmp 12 (.pt 12 [(0, 0)] 0 0 4), .tmp 13 (.own 37 [(0, 4)] (.pair (.int .i64) (.int .i64))), .box 12 [.sl .own (.pair (.int .i64) (.pair (.int .i64) (.int .i64))), .sl .own (.pair (.pair (.int .i64) (.int .i64)) (.pair (.int .i64) (.pair .bool (.pair (.int .i64) (.int .i64))))), .sl .own (.pair (.pair (.int .i64) (.int .i64)) (.int .i64)), .sl .own (.pair (.int .i64) (.int .i64))], .row 37 [.dead, .dead, .dead, .dead, .sl .own (.pair (.int .i64) (.int .i64)), .int .i64]]⟩] (.drawT [0, 1, 2, 3, 4, 5, 6, 7, 8, 9, 10, 11] [9, 10])) (.two (.leaf) (.two (.two (.leaf) (.one (.loop [2, 4, 8, 43, 44] [4, 8, 37] [] [.tmp 15 (.pt 15 [(0, 0)] 0 0 7), .tmp 45 (.int .i64), .box 15 [.sl .own (.pair (.int .i64) (.pair (.int .i64) (.int .i64))), .sl .own (.pair (.pair (.int .i64) (.int .i64)) (.pair (.int .i64) (.pair .bool (.pair (.int .i64) (.int .i64))))), .sl .own (.pair (.pair (.int .i64) (.int .i64)) (.int .i64)), .sl .own (.pair (.int .i64) (.int .i64)), .sl .own (.pair (.int .i64) (.pair (.int .i64) (.pair (.int .i64) (.pair (.pair (.int .i64) (.int .i64)) (.pair (.int .i64) (.pair (.int .i64) (.pair (.int .i64) (.pair (.int .i64) (.pair (.int .i64) (.pair .bool (.int .i64))))))))))), .sl .own (.pair (.int .i64) (.pair (.pair (.int .i64) (.int .i64)) (.pair (.int .i64) (.pair (.int .i64) (.pair (.int .i64) (.pair .bool (.rsl (.int .i64)))))))), .sl .own (.pair (.pair (.int .i64) (.int .i64)) (.pair .bool .bool))]] [⟨.exit 0, [], [.tmp 15 (.pt 15 [(0, 0)] 0 0 7), .box 15 [.sl .own (.pair (.int .i64) (.pair (.int .i64) (.int .i64))), .sl .own (.pair (.pair (.int .i64) (.int .i64)) (.pair (.int .i64) (.pair .bool (.pair (.int .i64) (.int .i64))))), .sl .own (.pair (.pair (.int .i64) (.int .i64)) (.int .i64)), .sl .own (.pair (.int .i64) (.int .i64)), .sl .own (.pair (.int .i64) (.pair (.int .i64) (.pair (.int .i64) (.pair (.pair (.int .i64) (.int .i64)) (.pair (.int .i64) (.pair (.int .i64) (.pair (.int .i64) (.pair (.int .i64) (.pair (.int .i64) (.pair .bool (.int .i64))))))))))), .sl .own (.pair (.int .i64) (.pair (.pair (.int .i64) (.int .i64)) (.pair (.int .i64) (.pair (.int .i64) (.pair (.int .i64) (.pair .bool (.rsl (.int .i64)))))))), .sl .own (.pair (.pair (.int .i64) (.int .i64)) (.pair .bool .bool))]]⟩] (.two (.leaf) (.two (.two (.leaf) (.leaf)) (.two (.join [2, 4, 8, 43, 44, 45] [4, 8, 37] [⟨.normal, [], [.tmp 15 (.pt 15 [(0, 0)] 0 0 7), .box 15 [.sl .own (.pair (.int .i64) (.pair (.int .i64) (.int .i64))), .sl .own (.pair (.pair (.int .i64) (.int .i64)) (.pair (.int .i64) (.pair .bool (.pair (.int .i64) (.int .i64))))), .sl .own (.pair (.pair (.int .i64) (.int .i64)) (.int .i64)), .sl .own (.pair (.int .i64) (.int .i64)), .sl .own (.pair (.int .i64) (.pair (.int .i64) (.pair (.int .i64) (.pair (.pair (.int .i64) (.int .i64)) (.pair (.int .i64) (.pair (.int .i64) (.pair (.int .i64) (.pair (.int .i64) (.pair (.int .i64) (.pair .bool (.int .i64))))))))))), .sl .own (.pair (.int .i64) (.pair (.pair (.int .i64) (.int .i64)) (.pair (.int .i64) (.pair (.int .i64) (.pair (.int .i64) (.pair .bool (.rsl (.int .i64)))))))), .sl .own (.pair (.pair (.int .i64) (.int .i64)) (.pair .bool .bool))]]⟩] (.one (.two (.leaf) (.two (.leaf) (.two (.leaf) (.leaf)))))) (.leaf))))))) (.two (.inl 1 144 (.two (.leaf) (.two (.leaf) (.two (.draw 11) (.two (.leaf) (.two (.leaf) (.leaf)))))) (.leaf)) (.leaf)))))))
theorem s10 : SoundF cx.P cx.G 10 sg10 r10 := by
  have e : denF cx [(19, ⟨sg19, r19⟩), (32, ⟨sg32, r32⟩), (34, ⟨sg34, r34⟩), (35, ⟨sg35, r35⟩), (36, ⟨sg36, r36⟩), (37, ⟨sg37, r37⟩), (38, ⟨sg38, r38⟩)] an10 Try.f10.ntmps (Try.f10.body.getD .skip) Try.f10.results.toList sg10 = r10q := by kernel_rfl
  rw [← r10e, ← e]
  exact sound_of_den (c := cx) (Known.cons (.ofF s19 (by kernel_rfl)) Try.func19 (by kernel_rfl) (by kernel_rfl) (Known.cons (.ofF s32 (by kernel_rfl)) Try.func32 (by kernel_rfl) (by kernel_rfl) (Known.cons (.ofF s34 (by kernel_rfl)) Try.func34 (by kernel_rfl) (by kernel_rfl) (Known.cons (.ofF s35 (by kernel_rfl)) Try.func35 (by kernel_rfl) (by kernel_rfl) (Known.cons (.ofF s36 (by kernel_rfl)) Try.func36 (by kernel_rfl) (by kernel_rfl) (Known.cons (.ofF s37 (by kernel_rfl)) Try.func37 (by kernel_rfl) (by kernel_rfl) (Known.cons (.ofF s38 (by kernel_rfl)) Try.func38 (by kernel_rfl) (by kernel_rfl) (Known.nil)))))))) Try.func10 (by kernel_rfl) (Nat.le_of_ble_eq_true (by kernel_rfl)) rfl

/-! reredos/reredoskeep.sameStore -/
noncomputable def r11_L0 (a : ((List ((Int × (Int × Int))) × (List (((Int × Int) × (Int × (Bool × (Int × Int))))) × (List (((Int × Int) × Int)) × List ((Int × Int))))) × (List ((Int × (Int × Int))) × (List (((Int × Int) × (Int × (Bool × (Int × Int))))) × (List (((Int × Int) × Int)) × List ((Int × Int))))))) (d8 : Int) : Option (Int ⊕ (Unit ⊕ Bool)) :=
  bif decide (d8 < (↑a.1.1.length : Int)) then
    Option.bind (idxI a.1.1 d8) fun (b11 : (Int × (Int × Int))) =>
      Option.bind (idxI a.2.1 d8) fun (b12 : (Int × (Int × Int))) =>
        bif !((decide (b11.1 = b12.1) && (decide (b11.2.1 = b12.2.1) && (decide (b11.2.2 = b12.2.2) && true)))) then
          some (Sum.inr (Sum.inr false))
        else
          some (Sum.inl (Go.IntKind.wrap .i64 (d8 + (1 : Int))))
  else
    some (Sum.inr (Sum.inl ()))
noncomputable def r11_L1 (a : ((List ((Int × (Int × Int))) × (List (((Int × Int) × (Int × (Bool × (Int × Int))))) × (List (((Int × Int) × Int)) × List ((Int × Int))))) × (List ((Int × (Int × Int))) × (List (((Int × Int) × (Int × (Bool × (Int × Int))))) × (List (((Int × Int) × Int)) × List ((Int × Int))))))) (d16 : Int) : Option (Int ⊕ (Unit ⊕ Bool)) :=
  bif decide (d16 < (↑a.1.2.1.length : Int)) then
    Option.bind (idxI a.1.2.1 d16) fun (b19 : ((Int × Int) × (Int × (Bool × (Int × Int))))) =>
      Option.bind (idxI a.2.2.1 d16) fun (b20 : ((Int × Int) × (Int × (Bool × (Int × Int))))) =>
        bif !(((decide (b19.1.1 = b20.1.1) && (decide (b19.1.2 = b20.1.2) && true)) && (decide (b19.2.1 = b20.2.1) && (decide (b19.2.2.1 = b20.2.2.1) && (decide (b19.2.2.2.1 = b20.2.2.2.1) && (decide (b19.2.2.2.2 = b20.2.2.2.2) && true)))))) then
          some (Sum.inr (Sum.inr false))
        else
          some (Sum.inl (Go.IntKind.wrap .i64 (d16 + (1 : Int))))
  else
    some (Sum.inr (Sum.inl ()))
noncomputable def r11_L2 (a : ((List ((Int × (Int × Int))) × (List (((Int × Int) × (Int × (Bool × (Int × Int))))) × (List (((Int × Int) × Int)) × List ((Int × Int))))) × (List ((Int × (Int × Int))) × (List (((Int × Int) × (Int × (Bool × (Int × Int))))) × (List (((Int × Int) × Int)) × List ((Int × Int))))))) (d24 : Int) : Option (Int ⊕ (Unit ⊕ Bool)) :=
  bif decide (d24 < (↑a.1.2.2.1.length : Int)) then
    Option.bind (idxI a.1.2.2.1 d24) fun (b27 : ((Int × Int) × Int)) =>
      Option.bind (idxI a.2.2.2.1 d24) fun (b28 : ((Int × Int) × Int)) =>
        bif !(((decide (b27.1.1 = b28.1.1) && (decide (b27.1.2 = b28.1.2) && true)) && (decide (b27.2 = b28.2) && true))) then
          some (Sum.inr (Sum.inr false))
        else
          some (Sum.inl (Go.IntKind.wrap .i64 (d24 + (1 : Int))))
  else
    some (Sum.inr (Sum.inl ()))
noncomputable def r11_L3 (a : ((List ((Int × (Int × Int))) × (List (((Int × Int) × (Int × (Bool × (Int × Int))))) × (List (((Int × Int) × Int)) × List ((Int × Int))))) × (List ((Int × (Int × Int))) × (List (((Int × Int) × (Int × (Bool × (Int × Int))))) × (List (((Int × Int) × Int)) × List ((Int × Int))))))) (d32 : Int) : Option (Int ⊕ (Unit ⊕ Bool)) :=
  bif decide (d32 < (↑a.1.2.2.2.length : Int)) then
    Option.bind (idxI a.1.2.2.2 d32) fun (b35 : (Int × Int)) =>
      Option.bind (idxI a.2.2.2.2 d32) fun (b36 : (Int × Int)) =>
        bif !((decide (b35.1 = b36.1) && (decide (b35.2 = b36.2) && true))) then
          some (Sum.inr (Sum.inr false))
        else
          some (Sum.inl (Go.IntKind.wrap .i64 (d32 + (1 : Int))))
  else
    some (Sum.inr (Sum.inl ()))
def sg11 : Sig := ⟨[⟨true, .bo, (.pair (.sl (.pair (.int .i64) (.pair (.int .i64) (.int .i64)))) (.pair (.sl (.pair (.pair (.int .i64) (.int .i64)) (.pair (.int .i64) (.pair .bool (.pair (.int .i64) (.int .i64)))))) (.pair (.sl (.pair (.pair (.int .i64) (.int .i64)) (.int .i64))) (.sl (.pair (.int .i64) (.int .i64))))))⟩, ⟨true, .bo, (.pair (.sl (.pair (.int .i64) (.pair (.int .i64) (.int .i64)))) (.pair (.sl (.pair (.pair (.int .i64) (.int .i64)) (.pair (.int .i64) (.pair .bool (.pair (.int .i64) (.int .i64)))))) (.pair (.sl (.pair (.pair (.int .i64) (.int .i64)) (.int .i64))) (.sl (.pair (.int .i64) (.int .i64))))))⟩], [⟨false, .own, .bool⟩]⟩
noncomputable def r11 (a : ((List ((Int × (Int × Int))) × (List (((Int × Int) × (Int × (Bool × (Int × Int))))) × (List (((Int × Int) × Int)) × List ((Int × Int))))) × (List ((Int × (Int × Int))) × (List (((Int × Int) × (Int × (Bool × (Int × Int))))) × (List (((Int × Int) × Int)) × List ((Int × Int))))))) : Option Bool :=
  Option.bind (
    Option.bind (
      bif !(!(decide ((↑a.1.1.length : Int) = (↑a.2.1.length : Int)))) then
        some (!(decide ((↑a.1.2.1.length : Int) = (↑a.2.2.1.length : Int))))
      else
        some true) fun (g5 : Bool) =>
      Option.bind (
        bif !(g5) then
          some (!(decide ((↑a.1.2.2.1.length : Int) = (↑a.2.2.2.1.length : Int))))
        else
          some true) fun (g6 : Bool) =>
        bif !(g6) then
          some (!(decide ((↑a.1.2.2.2.length : Int) = (↑a.2.2.2.2.length : Int))))
        else
          some true) fun (d7 : Bool) =>
    bif d7 then
      some false
    else
      Option.bind (loopR (r11_L0 a) (0 : Int)) fun (q13 : (Unit ⊕ Bool)) =>
        Sum.elim (fun (_ : Unit) =>
            Option.bind (loopR (r11_L1 a) (0 : Int)) fun (q21 : (Unit ⊕ Bool)) =>
              Sum.elim (fun (_ : Unit) =>
                  Option.bind (loopR (r11_L2 a) (0 : Int)) fun (q29 : (Unit ⊕ Bool)) =>
                    Sum.elim (fun (_ : Unit) =>
                        Option.bind (loopR (r11_L3 a) (0 : Int)) fun (q37 : (Unit ⊕ Bool)) =>
                          Sum.elim (fun (_ : Unit) =>
                              some true)
                            (fun (v39 : Bool) =>
                              some v39) q37)
                      (fun (v31 : Bool) =>
                        some v31) q29)
                (fun (v23 : Bool) =>
                  some v23) q21)
          (fun (v15 : Bool) =>
            some v15) q13
def an11 : Ann := .two (.leaf) (.two (.two (.join [2, 3] [2, 3] [⟨.normal, [], [.tmp 42 (.bool)]⟩] (.segs [(16, ([2, 3], ([2, 3], [.tmp 24 (.bool)]))), (9, ([2, 3], ([2, 3], [.tmp 33 (.bool)])))])) (.two (.two (.leaf) (.leaf)) (.leaf))) (.two (.two (.leaf) (.one (.loop [2, 3] [2, 3] [] [.tmp 5 (.int .i64)] [⟨.exit 0, [], []⟩, ⟨.ret, [], [.tmp 4 (.bool)]⟩] (.two (.two (.leaf) (.two (.leaf) (.leaf))) (.two (.one (.two (.draw 10) (.two (.two (.leaf) (.leaf)) (.leaf)))) (.leaf)))))) (.two (.two (.leaf) (.one (.loop [2, 3] [2, 3] [] [.tmp 6 (.int .i64)] [⟨.exit 2, [], []⟩, ⟨.ret, [], [.tmp 4 (.bool)]⟩] (.two (.two (.leaf) (.two (.leaf) (.leaf))) (.two (.one (.two (.draw 10) (.two (.two (.leaf) (.leaf)) (.leaf)))) (.leaf)))))) (.two (.two (.leaf) (.one (.loop [2, 3] [2, 3] [] [.tmp 7 (.int .i64)] [⟨.exit 4, [], []⟩, ⟨.ret, [], [.tmp 4 (.bool)]⟩] (.two (.two (.leaf) (.two (.leaf) (.leaf))) (.two (.one (.two (.draw 10) (.two (.two (.leaf) (.leaf)) (.leaf)))) (.leaf)))))) (.two (.two (.leaf) (.one (.loop [2, 3] [2, 3] [] [.tmp 8 (.int .i64)] [⟨.exit 6, [], []⟩, ⟨.ret, [], [.tmp 4 (.bool)]⟩] (.two (.two (.leaf) (.two (.leaf) (.leaf))) (.two (.one (.two (.draw 10) (.two (.two (.leaf) (.leaf)) (.leaf)))) (.leaf)))))) (.two (.leaf) (.leaf)))))))
theorem s11 : SoundF cx.P cx.G 11 sg11 r11 := by
  have e : denF cx [] an11 Try.f11.ntmps (Try.f11.body.getD .skip) Try.f11.results.toList sg11 = r11 := by kernel_rfl
  rw [← e]
  exact sound_of_den (c := cx) (Known.nil) Try.func11 (by kernel_rfl) (Nat.le_of_ble_eq_true (by kernel_rfl)) rfl

/-! reredos/reredoskeep.PartAsks -/
noncomputable def r4_L0 (y3 : (List ((Int × (Int × Int))) × (List (((Int × Int) × (Int × (Bool × (Int × Int))))) × (List (((Int × Int) × Int)) × List ((Int × Int)))))) (y1 : (Int × (List ((Int × Int)) × Int))) (y4 : (((List ((Int × (Int × Int))) × (List (((Int × Int) × (Int × (Bool × (Int × Int))))) × (List (((Int × Int) × Int)) × List ((Int × Int))))) × (List ((Int × (Int × (Int × ((Int × Int) × (Int × (Int × (Int × (Int × (Int × (Bool × Int))))))))))) × (List ((Int × ((Int × Int) × (Int × (Int × (Int × (Bool × List Int))))))) × List (((Int × Int) × (Bool × Bool)))))) × Int)) (y2 : Int) (d5 : (Int × Int)) : Option ((Int × Int) ⊕ (Int ⊕ Bool)) :=
  bif decide (d5.2 < (↑y3.2.2.1.length : Int)) then
    Option.bind (
      Option.bind (idxI y3.2.2.1 d5.2) fun (b22 : ((Int × Int) × Int)) =>
        bif decide (b22.1.1 < y1.1) then
          Option.bind (
            bif !(decide (d5.1 = (↑y4.1.2.1.length : Int))) then
              Option.bind (idxI y4.1.2.1 d5.1) fun (b28 : (Int × (Int × (Int × ((Int × Int) × (Int × (Int × (Int × (Int × (Int × (Bool × Int))))))))))) =>
                some (!((decide (b28.1 = (9 : Int)) && (decide (b28.2.1 = y2) && (decide (b28.2.2.1 = b22.1.1) && ((decide (b28.2.2.2.1.1 = b22.1.1) && (decide (b28.2.2.2.1.2 = b22.1.2) && true)) && (decide (b28.2.2.2.2.1 = (0 : Int)) && (decide (b28.2.2.2.2.2.1 = (0 : Int)) && (decide (b28.2.2.2.2.2.2.1 = (0 : Int)) && (decide (b28.2.2.2.2.2.2.2.1 = (0 : Int)) && (decide (b28.2.2.2.2.2.2.2.2.1 = (0 : Int)) && (decide (b28.2.2.2.2.2.2.2.2.2.1 = false) && (decide (b28.2.2.2.2.2.2.2.2.2.2 = (0 : Int)) && true)))))))))))))
            else
              some true) fun (d29 : Bool) =>
            bif d29 then
              some (Sum.inr false)
            else
              some (Sum.inl (Go.IntKind.wrap .i64 (d5.1 + (1 : Int))))
        else
          some (Sum.inl d5.1)) fun (d30 : (Int ⊕ Bool)) =>
      Sum.elim (fun (v31 : Int) =>
          some (Sum.inl (v31, (Go.IntKind.wrap .i64 (d5.2 + (1 : Int))))))
        (fun (v32 : Bool) =>
          some (Sum.inr (Sum.inr v32))) d30
  else
    some (Sum.inr (Sum.inl d5.1))
def sg4 : Sig := ⟨[⟨false, .bo, (.int .i64)⟩, ⟨false, .bo, (.sl (.pair (.int .i64) (.pair (.int .i64) (.pair (.int .i64) (.pair (.int .i64) (.pair (.int .i64) (.int .i64)))))))⟩, ⟨false, .bo, (.int .i64)⟩], [⟨false, .own, .bool⟩]⟩
noncomputable def r4 (a : (Int × (List ((Int × (Int × (Int × (Int × (Int × Int)))))) × Int))) : Option Bool :=
  Option.bind (r5 a.1) fun (y1 : (Int × (List ((Int × Int)) × Int))) =>
    Option.bind (r7 (a.2.2, y1.1)) fun (y2 : Int) =>
      Option.bind (r6 (a.2.1, (25 : Int))) fun (y3 : (List ((Int × (Int × Int))) × (List (((Int × Int) × (Int × (Bool × (Int × Int))))) × (List (((Int × Int) × Int)) × List ((Int × Int)))))) =>
        Option.bind (r10 ((y1.1, (y1.2.1, (1 : Int))), (0 : Int), y2, [y3, ([], ([], ([], [])))])) fun (y4 : (((List ((Int × (Int × Int))) × (List (((Int × Int) × (Int × (Bool × (Int × Int))))) × (List (((Int × Int) × Int)) × List ((Int × Int))))) × (List ((Int × (Int × (Int × ((Int × Int) × (Int × (Int × (Int × (Int × (Int × (Bool × Int))))))))))) × (List ((Int × ((Int × Int) × (Int × (Int × (Int × (Bool × List Int))))))) × List (((Int × Int) × (Bool × Bool)))))) × Int)) =>
          Option.bind (loopR (r4_L0 y3 y1 y4 y2) ((0 : Int), (0 : Int))) fun (q33 : (Int ⊕ Bool)) =>
            Sum.elim (fun (v34 : Int) =>
                Option.bind (r10 ((y1.1, (y1.2.1, (1 : Int))), (2 : Int), y2, [y3, ([], ([], ([], [])))])) fun (y36 : (((List ((Int × (Int × Int))) × (List (((Int × Int) × (Int × (Bool × (Int × Int))))) × (List (((Int × Int) × Int)) × List ((Int × Int))))) × (List ((Int × (Int × (Int × ((Int × Int) × (Int × (Int × (Int × (Int × (Int × (Bool × Int))))))))))) × (List ((Int × ((Int × Int) × (Int × (Int × (Int × (Bool × List Int))))))) × List (((Int × Int) × (Bool × Bool)))))) × Int)) =>
                  Option.bind (
                    bif decide (y4.2 = (0 : Int)) then
                      some (decide (y36.2 = (6 : Int)))
                    else
                      some false) fun (g37 : Bool) =>
                    Option.bind (
                      bif g37 then
                        some (decide (v34 = (↑y4.1.2.1.length : Int)))
                      else
                        some false) fun (g38 : Bool) =>
                      bif g38 then
                        Option.bind (r11 (y4.1.1, y3)) fun (y39 : Bool) =>
                          some y39
                      else
                        some false)
              (fun (v35 : Bool) =>
                some v35) q33
def an4 : Ann := .two (.leaf) (.two (.leaf) (.two (.leaf) (.two (.leaf) (.two (.leaf) (.two (.leaf) (.two (.leaf) (.two (.two (.leaf) (.one (.loop [7, 8, 9, 10, 11, 36, 37] [7, 9, 10] [] [.tmp 12 (.int .i64), .tmp 38 (.int .i64)] [⟨.exit 0, [], [.tmp 12 (.int .i64)]⟩, ⟨.ret, [], [.tmp 6 (.bool)]⟩] (.two (.leaf) (.two (.two (.leaf) (.leaf)) (.two (.join [7, 8, 9, 10, 11, 36, 37, 38] [7, 9, 10] [⟨.normal, [], [.tmp 12 (.int .i64)]⟩, ⟨.ret, [], [.tmp 6 (.bool)]⟩] (.one (.two (.leaf) (.two (.leaf) (.two (.two (.two (.join [7, 8, 9, 10, 11, 12, 36, 37, 38] [7, 9, 10] [⟨.normal, [], [.tmp 67 (.bool)]⟩] (.draw 18)) (.two (.two (.leaf) (.leaf)) (.leaf))) (.leaf)) (.leaf)))))) (.leaf))))))) (.two (.leaf) (.two (.segs [(6, ([9, 10, 12], ([9, 10], [.tmp 85 (.bool)]))), (7, ([9, 10], ([9, 10], [.tmp 92 (.bool)])))]) (.leaf))))))))))
theorem s4 : SoundF cx.P cx.G 4 sg4 r4 := by
  have e : denF cx [(5, ⟨sg5, r5⟩), (6, ⟨sg6, r6⟩), (7, ⟨sg7, r7⟩), (10, ⟨sg10, r10⟩), (11, ⟨sg11, r11⟩)] an4 Try.f4.ntmps (Try.f4.body.getD .skip) Try.f4.results.toList sg4 = r4 := by kernel_rfl
  rw [← e]
  exact sound_of_den (c := cx) (Known.cons (.ofF s5 (by kernel_rfl)) Try.func5 (by kernel_rfl) (by kernel_rfl) (Known.cons (.ofF s6 (by kernel_rfl)) Try.func6 (by kernel_rfl) (by kernel_rfl) (Known.cons (.ofF s7 (by kernel_rfl)) Try.func7 (by kernel_rfl) (by kernel_rfl) (Known.cons (.ofF s10 (by kernel_rfl)) Try.func10 (by kernel_rfl) (by kernel_rfl) (Known.cons (.ofF s11 (by kernel_rfl)) Try.func11 (by kernel_rfl) (by kernel_rfl) (Known.nil)))))) Try.func4 (by kernel_rfl) (Nat.le_of_ble_eq_true (by kernel_rfl)) rfl

end Go.Hp
