/- What the functions compute: written by gen.py. -/
import Derived.Test.YtiheccjebnamcaaLibI
import Derived.WalkKit
import Derived.Lib.Walk
import Derived.Lib.JoinLaws
import Derived.Test.YtiheccjebnamcaaLibJ
import Derived.Test.YtiheccjebnamcaaProg
import Derived.KernelRfl
namespace Go.Hs
open Go.RowKit Go.Proofs Go.V
def tys : List (Nat × TyInfo) := [
  (3, ⟨.int .i64, 1, 8, [.int .i64 0], false, [none], [none], (.int .i64)⟩),
  (4, ⟨.bool, 1, 1, [.bool false], false, [none], [none], .bool⟩),
  (23, ⟨.sl 68, 1, 24, [.slice none 0 0], false, [some (.pair (.int .i64) (.pair (.int .i64) (.int .i64)))], [none], (.sl (.pair (.int .i64) (.pair (.int .i64) (.int .i64))))⟩),
  (24, ⟨.sl 47, 1, 24, [.slice none 0 0], false, [some (.pair (.pair (.int .i64) (.int .i64)) (.pair (.int .i64) (.pair .bool (.pair (.int .i64) (.int .i64)))))], [none], (.sl (.pair (.pair (.int .i64) (.int .i64)) (.pair (.int .i64) (.pair .bool (.pair (.int .i64) (.int .i64))))))⟩),
  (25, ⟨.sl 75, 1, 24, [.slice none 0 0], false, [some (.pair (.pair (.int .i64) (.int .i64)) (.int .i64))], [none], (.sl (.pair (.pair (.int .i64) (.int .i64)) (.int .i64)))⟩),
  (26, ⟨.sl 33, 1, 24, [.slice none 0 0], false, [some (.pair (.int .i64) (.int .i64))], [none], (.sl (.pair (.int .i64) (.int .i64)))⟩),
  (28, ⟨.st [(0, 23), (1, 24), (2, 25), (3, 26)], 4, 96, [.slice none 0 0, .slice none 0 0, .slice none 0 0, .slice none 0 0], false, [some (.pair (.int .i64) (.pair (.int .i64) (.int .i64))), some (.pair (.pair (.int .i64) (.int .i64)) (.pair (.int .i64) (.pair .bool (.pair (.int .i64) (.int .i64))))), some (.pair (.pair (.int .i64) (.int .i64)) (.int .i64)), some (.pair (.int .i64) (.int .i64))], [none, none, none, none], (.pair (.rsl (.pair (.int .i64) (.pair (.int .i64) (.int .i64)))) (.pair (.rsl (.pair (.pair (.int .i64) (.int .i64)) (.pair (.int .i64) (.pair .bool (.pair (.int .i64) (.int .i64)))))) (.pair (.rsl (.pair (.pair (.int .i64) (.int .i64)) (.int .i64))) (.rsl (.pair (.int .i64) (.int .i64))))))⟩),
  (29, ⟨.int .i64, 1, 8, [.int .i64 0], false, [none], [none], (.int .i64)⟩),
  (33, ⟨.st [(0, 3), (1, 3)], 2, 16, [.int .i64 0, .int .i64 0], true, [none, none], [none, none], (.pair (.int .i64) (.int .i64))⟩),
  (37, ⟨.sl 58, 1, 24, [.slice none 0 0], false, [some (.pair (.int .i64) (.pair (.int .i64) (.pair (.int .i64) (.pair (.int .i64) (.pair (.int .i64) (.int .i64))))))], [none], (.sl (.pair (.int .i64) (.pair (.int .i64) (.pair (.int .i64) (.pair (.int .i64) (.pair (.int .i64) (.int .i64)))))))⟩),
  (47, ⟨.st [(0, 33), (2, 3), (3, 4), (4, 3), (5, 3)], 6, 48, [.int .i64 0, .int .i64 0, .int .i64 0, .bool false, .int .i64 0, .int .i64 0], true, [none, none, none, none, none, none], [none, none, none, none, none, none], (.pair (.pair (.int .i64) (.int .i64)) (.pair (.int .i64) (.pair .bool (.pair (.int .i64) (.int .i64)))))⟩),
  (58, ⟨.st [(0, 3), (1, 3), (2, 3), (3, 3), (4, 3), (5, 3)], 6, 48, [.int .i64 0, .int .i64 0, .int .i64 0, .int .i64 0, .int .i64 0, .int .i64 0], false, [none, none, none, none, none, none], [none, none, none, none, none, none], (.pair (.int .i64) (.pair (.int .i64) (.pair (.int .i64) (.pair (.int .i64) (.pair (.int .i64) (.int .i64))))))⟩),
  (68, ⟨.st [(0, 3), (1, 3), (2, 3)], 3, 24, [.int .i64 0, .int .i64 0, .int .i64 0], true, [none, none, none], [none, none, none], (.pair (.int .i64) (.pair (.int .i64) (.int .i64)))⟩),
  (75, ⟨.st [(0, 33), (2, 3)], 3, 24, [.int .i64 0, .int .i64 0, .int .i64 0], true, [none, none, none], [none, none, none], (.pair (.pair (.int .i64) (.int .i64)) (.int .i64))⟩),
  (100, ⟨.int .u64, 1, 8, [.int .u64 0], false, [none], [none], (.int .u64)⟩)]
theorem tysOk : TyOk Try.prog tys := tyOk_of fun e he => by
  simp only [tys, List.mem_cons, List.not_mem_nil, or_false] at he
  rcases he with rfl | rfl | rfl | rfl | rfl | rfl | rfl | rfl | rfl | rfl | rfl | rfl | rfl | rfl | rfl
  · exact ⟨by kernel_rfl, by kernel_rfl, fun h => nomatch h⟩
  · exact ⟨by kernel_rfl, by kernel_rfl, fun h => nomatch h⟩
  · exact ⟨by kernel_rfl, by kernel_rfl, fun h => nomatch h⟩
  · exact ⟨by kernel_rfl, by kernel_rfl, fun h => nomatch h⟩
  · exact ⟨by kernel_rfl, by kernel_rfl, fun h => nomatch h⟩
  · exact ⟨by kernel_rfl, by kernel_rfl, fun h => nomatch h⟩
  · exact ⟨by kernel_rfl, by kernel_rfl, fun h => nomatch h⟩
  · exact ⟨by kernel_rfl, by kernel_rfl, fun h => nomatch h⟩
  · exact ⟨by kernel_rfl, by kernel_rfl, fun _ => ⟨by kernel_rfl, by kernel_rfl, by kernel_rfl⟩⟩
  · exact ⟨by kernel_rfl, by kernel_rfl, fun h => nomatch h⟩
  · exact ⟨by kernel_rfl, by kernel_rfl, fun _ => ⟨by kernel_rfl, by kernel_rfl, by kernel_rfl⟩⟩
  · exact ⟨by kernel_rfl, by kernel_rfl, fun h => nomatch h⟩
  · exact ⟨by kernel_rfl, by kernel_rfl, fun _ => ⟨by kernel_rfl, by kernel_rfl, by kernel_rfl⟩⟩
  · exact ⟨by kernel_rfl, by kernel_rfl, fun _ => ⟨by kernel_rfl, by kernel_rfl, by kernel_rfl⟩⟩
  · exact ⟨by kernel_rfl, by kernel_rfl, fun h => nomatch h⟩
noncomputable def inls : List (Nat × Go.Func) := [(38, Try.f38), (39, Try.f39), (40, Try.f40), (41, Try.f41), (42, Try.f42), (43, Try.f43), (44, Try.f44), (45, Try.f45), (47, Try.f47), (48, Try.f48), (50, Try.f50), (56, Try.f56), (57, Try.f57), (58, Try.f58), (62, Try.f62), (63, Try.f63), (64, Try.f64)]
theorem inlsOk : ∀ f fn, Go.V.look inls f = some fn → Try.prog.funcs[f]? = some fn ∧ (fn.name == "runtime.NumGoroutine") = false := inlOk_of fun e he => by
  simp only [inls, List.mem_cons, List.not_mem_nil, or_false] at he
  rcases he with rfl | rfl | rfl | rfl | rfl | rfl | rfl | rfl | rfl | rfl | rfl | rfl | rfl | rfl | rfl | rfl | rfl
  · exact ⟨Try.func38, by kernel_rfl⟩
  · exact ⟨Try.func39, by kernel_rfl⟩
  · exact ⟨Try.func40, by kernel_rfl⟩
  · exact ⟨Try.func41, by kernel_rfl⟩
  · exact ⟨Try.func42, by kernel_rfl⟩
  · exact ⟨Try.func43, by kernel_rfl⟩
  · exact ⟨Try.func44, by kernel_rfl⟩
  · exact ⟨Try.func45, by kernel_rfl⟩
  · exact ⟨Try.func47, by kernel_rfl⟩
  · exact ⟨Try.func48, by kernel_rfl⟩
  · exact ⟨Try.func50, by kernel_rfl⟩
  · exact ⟨Try.func56, by kernel_rfl⟩
  · exact ⟨Try.func57, by kernel_rfl⟩
  · exact ⟨Try.func58, by kernel_rfl⟩
  · exact ⟨Try.func62, by kernel_rfl⟩
  · exact ⟨Try.func63, by kernel_rfl⟩
  · exact ⟨Try.func64, by kernel_rfl⟩
noncomputable def cx : Ctx := ⟨Try.prog, tys, tysOk, [], 0, inls, inlsOk, by kernel_rfl⟩

/-! reredos/reredoskeep.picked -/
def sg13 : Sig := ⟨[⟨false, .bo, (.int .i64)⟩, ⟨false, .bo, (.int .i64)⟩], [⟨false, .own, (.int .i64)⟩]⟩
noncomputable def r13 (a : (Int × Int)) : Option Int :=
  Option.bind (
    bif decide (a.1 < (0 : Int)) then
      some (Go.IntKind.wrap .i64 (0 - (Go.IntKind.wrap .i64 (a.1 + (1 : Int)))))
    else
      some a.1) fun (d1 : Int) =>
    bif decide (a.2 = 0) then
      none
    else
      some (Int.tmod d1 a.2)
def an13 : Ann := .two (.leaf) (.two (.join [1] [] [⟨.normal, [], [.tmp 0 (.int .i64)]⟩] (.two (.leaf) (.two (.leaf) (.leaf)))) (.two (.leaf) (.leaf)))
theorem s13 : SoundF cx.P cx.G 13 sg13 r13 := by
  have e : denF cx [] an13 Try.f13.ntmps (Try.f13.body.getD .skip) Try.f13.results.toList sg13 = r13 := by kernel_rfl
  rw [← e]
  exact sound_of_den (c := cx) (Known.nil) Try.func13 (by kernel_rfl) (Nat.le_of_ble_eq_true (by kernel_rfl)) rfl

/-! reredos/store.items -/
noncomputable def r33_L0 (a : List ((Int × (Int × Int)))) (d1 : Int) : Option (Int ⊕ (Unit ⊕ Bool)) :=
  bif decide (d1 < (↑a.length : Int)) then
    Option.bind (idxI a d1) fun (b2 : (Int × (Int × Int))) =>
      Option.bind (
        Option.bind (
          bif !(decide (b2.1 < (0 : Int))) then
            some (decide ((8 : Int) ≤ b2.1))
          else
            some true) fun (g11 : Bool) =>
          Option.bind (
            bif !(g11) then
              some (decide (b2.2.1 < (0 : Int)))
            else
              some true) fun (g12 : Bool) =>
            Option.bind (
              bif !(g12) then
                some (decide ((1073741824 : Int) < b2.2.1))
              else
                some true) fun (g13 : Bool) =>
              Option.bind (
                bif !(g13) then
                  some (decide (b2.2.2 < (1 : Int)))
                else
                  some true) fun (g14 : Bool) =>
                bif !(g14) then
                  some (decide ((1048576 : Int) < b2.2.2))
                else
                  some true) fun (d15 : Bool) =>
        bif d15 then
          some (Sum.inr (Sum.inr false))
        else
          Option.bind (
            bif decide ((0 : Int) < d1) then
              Option.bind (idxI a (Go.IntKind.wrap .i64 (d1 - (1 : Int)))) fun (b21 : (Int × (Int × Int))) =>
                some (decide (b2.1 ≤ b21.1))
            else
              some false) fun (d22 : Bool) =>
            bif d22 then
              some (Sum.inr (Sum.inr false))
            else
              some (Sum.inl (Go.IntKind.wrap .i64 (d1 + (1 : Int))))
  else
    some (Sum.inr (Sum.inl ()))
def sg33 : Sig := ⟨[⟨false, .bo, (.sl (.pair (.int .i64) (.pair (.int .i64) (.int .i64))))⟩], [⟨false, .own, .bool⟩]⟩
noncomputable def r33 (a : List ((Int × (Int × Int)))) : Option Bool :=
  Option.bind (loopR (r33_L0 a) (0 : Int)) fun (q23 : (Unit ⊕ Bool)) =>
    Sum.elim (fun (_ : Unit) =>
        some true)
      (fun (v25 : Bool) =>
        some v25) q23
def an33 : Ann := .two (.leaf) (.two (.two (.leaf) (.one (.loop [0, 5, 6] [] [] [.tmp 7 (.int .i64)] [⟨.exit 0, [], []⟩, ⟨.ret, [], [.tmp 2 (.bool)]⟩] (.two (.leaf) (.two (.two (.leaf) (.leaf)) (.two (.one (.two (.leaf) (.two (.two (.join [0, 3, 4, 5, 6, 7] [4] [⟨.normal, [], [.tmp 39 (.bool)]⟩] (.segs [(8, ([0, 3, 4, 5, 6, 7], ([4], [.tmp 19 (.bool)]))), (5, ([0, 3, 4, 5, 6, 7], ([4], [.tmp 24 (.bool)]))), (5, ([0, 3, 4, 5, 6, 7], ([4], [.tmp 29 (.bool)]))), (5, ([0, 3, 4, 5, 6, 7], ([4], [.tmp 34 (.bool)])))])) (.two (.two (.leaf) (.leaf)) (.leaf))) (.two (.join [0, 5, 6, 7] [] [⟨.normal, [], [.tmp 52 (.bool)]⟩] (.draw 11)) (.two (.two (.leaf) (.leaf)) (.leaf)))))) (.leaf))))))) (.two (.leaf) (.leaf)))
theorem s33 : SoundF cx.P cx.G 33 sg33 r33 := by
  have e : denF cx [] an33 Try.f33.ntmps (Try.f33.body.getD .skip) Try.f33.results.toList sg33 = r33 := by kernel_rfl
  rw [← e]
  exact sound_of_den (c := cx) (Known.nil) Try.func33 (by kernel_rfl) (Nat.le_of_ble_eq_true (by kernel_rfl)) rfl

/-! slices.Index[[]reredos/api.Txn,reredos/api.Txn] -/
noncomputable def r49_L0 (a : (List ((Int × Int)) × (Int × Int))) (d1 : Int) : Option (Int ⊕ (Unit ⊕ Int)) :=
  bif decide (d1 < (↑a.1.length : Int)) then
    Option.bind (idxI a.1 d1) fun (b3 : (Int × Int)) =>
      bif (decide (a.2.1 = b3.1) && (decide (a.2.2 = b3.2) && true)) then
        some (Sum.inr (Sum.inr d1))
      else
        some (Sum.inl (Go.IntKind.wrap .i64 (d1 + (1 : Int))))
  else
    some (Sum.inr (Sum.inl ()))
def sg49 : Sig := ⟨[⟨false, .bo, (.sl (.pair (.int .i64) (.int .i64)))⟩, ⟨true, .bo, (.pair (.int .i64) (.int .i64))⟩], [⟨false, .own, (.int .i64)⟩]⟩
noncomputable def r49 (a : (List ((Int × Int)) × (Int × Int))) : Option Int :=
  Option.bind (loopR (r49_L0 a) (0 : Int)) fun (q4 : (Unit ⊕ Int)) =>
    Sum.elim (fun (_ : Unit) =>
        some (-1 : Int))
      (fun (v6 : Int) =>
        some v6) q4
def an49 : Ann := .two (.leaf) (.two (.two (.leaf) (.one (.loop [0, 3, 7] [3] [] [.tmp 8 (.int .i64)] [⟨.exit 0, [], []⟩, ⟨.ret, [], [.tmp 4 (.int .i64)]⟩] (.two (.leaf) (.two (.two (.leaf) (.leaf)) (.two (.one (.two (.leaf) (.two (.draw 5) (.two (.two (.leaf) (.leaf)) (.leaf))))) (.leaf))))))) (.two (.leaf) (.leaf)))
theorem s49 : SoundF cx.P cx.G 49 sg49 r49 := by
  have e : denF cx [] an49 Try.f49.ntmps (Try.f49.body.getD .skip) Try.f49.results.toList sg49 = r49 := by kernel_rfl
  rw [← e]
  exact sound_of_den (c := cx) (Known.nil) Try.func49 (by kernel_rfl) (Nat.le_of_ble_eq_true (by kernel_rfl)) rfl

/-! slices.Contains[[]reredos/api.Txn,reredos/api.Txn] -/
def sg28 : Sig := ⟨[⟨false, .bo, (.sl (.pair (.int .i64) (.int .i64)))⟩, ⟨true, .bo, (.pair (.int .i64) (.int .i64))⟩], [⟨false, .own, .bool⟩]⟩
noncomputable def r28 (a : (List ((Int × Int)) × (Int × Int))) : Option Bool :=
  Option.bind (r49 (a.1, a.2)) fun (y1 : Int) =>
    some (decide ((0 : Int) ≤ y1))
def an28 : Ann := .two (.leaf) (.two (.leaf) (.leaf))
theorem s28 : SoundF cx.P cx.G 28 sg28 r28 := by
  have e : denF cx [(49, ⟨sg49, r49⟩)] an28 Try.f28.ntmps (Try.f28.body.getD .skip) Try.f28.results.toList sg28 = r28 := by kernel_rfl
  rw [← e]
  exact sound_of_den (c := cx) (Known.cons (.ofF s49 (by kernel_rfl)) Try.func49 (by kernel_rfl) (by kernel_rfl) (Known.nil)) Try.func28 (by kernel_rfl) (Nat.le_of_ble_eq_true (by kernel_rfl)) rfl

/-! reredos/store.txn -/
def sg46 : Sig := ⟨[⟨true, .bo, (.pair (.int .i64) (.int .i64))⟩], [⟨false, .own, .bool⟩]⟩
noncomputable def r46 (a : (Int × Int)) : Option Bool :=
  Option.bind (
    bif decide ((0 : Int) ≤ a.1) then
      some (decide (a.1 < (4 : Int)))
    else
      some false) fun (g1 : Bool) =>
    Option.bind (
      bif g1 then
        some (decide ((1 : Int) ≤ a.2))
      else
        some false) fun (g2 : Bool) =>
      bif g2 then
        some (decide (a.2 ≤ (1048576 : Int)))
      else
        some false
def an46 : Ann := .two (.leaf) (.two (.segs [(8, ([1], ([1], [.tmp 10 (.bool)]))), (5, ([1], ([1], [.tmp 15 (.bool)])))]) (.leaf))
theorem s46 : SoundF cx.P cx.G 46 sg46 r46 := by
  have e : denF cx [] an46 Try.f46.ntmps (Try.f46.body.getD .skip) Try.f46.results.toList sg46 = r46 := by kernel_rfl
  rw [← e]
  exact sound_of_den (c := cx) (Known.nil) Try.func46 (by kernel_rfl) (Nat.le_of_ble_eq_true (by kernel_rfl)) rfl

/-! reredos/store.doubts -/
noncomputable def r34_L0 (a : (List ((Int × (Int × Int))) × (List (((Int × Int) × (Int × (Bool × (Int × Int))))) × (List (((Int × Int) × Int)) × List ((Int × Int)))))) (b2 : ((Int × Int) × Int)) (d26 : Int) : Option (Int ⊕ (Unit ⊕ Int)) :=
  bif decide (d26 < (↑a.2.1.length : Int)) then
    Option.bind (idxI a.2.1 d26) fun (b27 : ((Int × Int) × (Int × (Bool × (Int × Int))))) =>
      bif (decide (b27.1.1 = b2.1.1) && (decide (b27.1.2 = b2.1.2) && true)) then
        some (Sum.inr (Sum.inr d26))
      else
        some (Sum.inl (Go.IntKind.wrap .i64 (d26 + (1 : Int))))
  else
    some (Sum.inr (Sum.inl ()))
noncomputable def r34_L1 (d1 : Int) (a : (List ((Int × (Int × Int))) × (List (((Int × Int) × (Int × (Bool × (Int × Int))))) × (List (((Int × Int) × Int)) × List ((Int × Int)))))) (b2 : ((Int × Int) × Int)) (d32 : Int) : Option (Int ⊕ (Unit ⊕ Bool)) :=
  bif decide (d32 < (↑((List.take (Int.toNat d1) a.2.2.1).length) : Int)) then
    Option.bind (idxI (List.take (Int.toNat d1) a.2.2.1) d32) fun (b33 : ((Int × Int) × Int)) =>
      bif (decide (b33.1.1 = b2.1.1) && (decide (b33.1.2 = b2.1.2) && true)) then
        some (Sum.inr (Sum.inr false))
      else
        some (Sum.inl (Go.IntKind.wrap .i64 (d32 + (1 : Int))))
  else
    some (Sum.inr (Sum.inl ()))
noncomputable def r34_L2 (a : (List ((Int × (Int × Int))) × (List (((Int × Int) × (Int × (Bool × (Int × Int))))) × (List (((Int × Int) × Int)) × List ((Int × Int)))))) (d1 : Int) : Option (Int ⊕ (Unit ⊕ Bool)) :=
  bif decide (d1 < (↑a.2.2.1.length : Int)) then
    Option.bind (idxI a.2.2.1 d1) fun (b2 : ((Int × Int) × Int)) =>
      Option.bind (
        Option.bind (
          Option.bind (r46 b2.1) fun (y11 : Bool) =>
            bif !(!(y11)) then
              some (decide (b2.2 < (0 : Int)))
            else
              some true) fun (g12 : Bool) =>
          Option.bind (
            bif !(g12) then
              some (decide ((1048576 : Int) < b2.2))
            else
              some true) fun (g13 : Bool) =>
            bif !(g13) then
              Option.bind (r28 (a.2.2.2, b2.1)) fun (y14 : Bool) =>
                some y14
            else
              some true) fun (d15 : Bool) =>
        bif d15 then
          some (Sum.inr (Sum.inr false))
        else
          Option.bind (
            Option.bind (loopR (r34_L0 a b2) (0 : Int)) fun (q28 : (Unit ⊕ Int)) =>
              Sum.elim (fun (_ : Unit) =>
                  some (-1 : Int))
                (fun (v30 : Int) =>
                  some v30) q28) fun (d31 : Int) =>
            bif !(decide ((0 : Int) ≤ d31)) then
              some (Sum.inr (Sum.inr false))
            else
              bif okB none (some d1) none a.2.2.1.length then
                Option.bind (loopR (r34_L1 d1 a b2) (0 : Int)) fun (q34 : (Unit ⊕ Bool)) =>
                  Sum.elim (fun (_ : Unit) =>
                      some (Sum.inl (Go.IntKind.wrap .i64 (d1 + (1 : Int)))))
                    (fun (v36 : Bool) =>
                      some (Sum.inr (Sum.inr v36))) q34
              else
                none
  else
    some (Sum.inr (Sum.inl ()))
noncomputable def r34_L3 (a : (List ((Int × (Int × Int))) × (List (((Int × Int) × (Int × (Bool × (Int × Int))))) × (List (((Int × Int) × Int)) × List ((Int × Int)))))) (d40 : Int) : Option (Int ⊕ (Unit ⊕ Bool)) :=
  bif decide (d40 < (↑a.2.2.2.length : Int)) then
    Option.bind (idxI a.2.2.2 d40) fun (b41 : (Int × Int)) =>
      Option.bind (
        Option.bind (r46 b41) fun (y52 : Bool) =>
          bif !(!(y52)) then
            bif okB none (some d40) none a.2.2.2.length then
              Option.bind (r28 (List.take (Int.toNat d40) a.2.2.2, b41)) fun (y53 : Bool) =>
                some y53
            else
              none
          else
            some true) fun (d54 : Bool) =>
        bif d54 then
          some (Sum.inr (Sum.inr false))
        else
          some (Sum.inl (Go.IntKind.wrap .i64 (d40 + (1 : Int))))
  else
    some (Sum.inr (Sum.inl ()))
def sg34 : Sig := ⟨[⟨true, .bo, (.pair (.sl (.pair (.int .i64) (.pair (.int .i64) (.int .i64)))) (.pair (.sl (.pair (.pair (.int .i64) (.int .i64)) (.pair (.int .i64) (.pair .bool (.pair (.int .i64) (.int .i64)))))) (.pair (.sl (.pair (.pair (.int .i64) (.int .i64)) (.int .i64))) (.sl (.pair (.int .i64) (.int .i64))))))⟩], [⟨false, .own, .bool⟩]⟩
noncomputable def r34 (a : (List ((Int × (Int × Int))) × (List (((Int × Int) × (Int × (Bool × (Int × Int))))) × (List (((Int × Int) × Int)) × List ((Int × Int)))))) : Option Bool :=
  Option.bind (loopR (r34_L2 a) (0 : Int)) fun (q37 : (Unit ⊕ Bool)) =>
    Sum.elim (fun (_ : Unit) =>
        Option.bind (loopR (r34_L3 a) (0 : Int)) fun (q55 : (Unit ⊕ Bool)) =>
          Sum.elim (fun (_ : Unit) =>
              some true)
            (fun (v57 : Bool) =>
              some v57) q55)
      (fun (v39 : Bool) =>
        some v39) q37
def an34 : Ann := .two (.leaf) (.two (.two (.leaf) (.one (.loop [1, 10, 11] [1] [] [.tmp 12 (.int .i64)] [⟨.exit 0, [], []⟩, ⟨.ret, [], [.tmp 2 (.bool)]⟩] (.two (.leaf) (.two (.two (.leaf) (.leaf)) (.two (.one (.two (.leaf) (.two (.two (.join [1, 3, 4, 10, 11, 12] [1, 4] [⟨.normal, [], [.tmp 37 (.bool)]⟩] (.segs [(9, ([1, 3, 4, 10, 11, 12], ([1, 4], [.tmp 25 (.bool)]))), (5, ([1, 3, 4, 10, 11, 12], ([1, 4], [.tmp 30 (.bool)])))])) (.two (.two (.leaf) (.leaf)) (.leaf))) (.two (.two (.inl 3 79 (.two (.leaf) (.two (.inl 2 88 (.join [1, 3, 4, 10, 11, 12] [1, 4] [⟨.ret, [], [.tmp 92 (.int .i64)]⟩] (.two (.leaf) (.two (.two (.leaf) (.one (.loop [1, 3, 4, 10, 11, 12, 88, 89, 95] [1, 4] [] [.tmp 96 (.int .i64)] [⟨.exit 0, [], []⟩, ⟨.ret, [], [.tmp 92 (.int .i64)]⟩] (.two (.leaf) (.two (.two (.leaf) (.leaf)) (.two (.one (.two (.leaf) (.two (.inl 5 107 (.two (.leaf) (.two (.leaf) (.leaf))) (.leaf)) (.two (.two (.leaf) (.leaf)) (.leaf))))) (.leaf))))))) (.two (.leaf) (.leaf))))) (.leaf)) (.leaf))) (.leaf)) (.two (.two (.leaf) (.leaf)) (.leaf))) (.two (.leaf) (.one (.loop [1, 4, 10, 11, 12, 46, 47] [1, 4] [] [.tmp 48 (.int .i64)] [⟨.exit 2, [], []⟩, ⟨.ret, [], [.tmp 2 (.bool)]⟩] (.two (.leaf) (.two (.two (.leaf) (.leaf)) (.two (.one (.two (.leaf) (.two (.leaf) (.two (.two (.leaf) (.leaf)) (.leaf))))) (.leaf))))))))))) (.leaf))))))) (.two (.two (.leaf) (.one (.loop [1, 60, 61] [1] [] [.tmp 62 (.int .i64)] [⟨.exit 4, [], []⟩, ⟨.ret, [], [.tmp 2 (.bool)]⟩] (.two (.leaf) (.two (.two (.leaf) (.leaf)) (.two (.one (.two (.leaf) (.two (.join [1, 60, 61, 62] [1] [⟨.normal, [], [.tmp 77 (.bool)]⟩] (.draw 9)) (.two (.two (.leaf) (.leaf)) (.leaf))))) (.leaf))))))) (.two (.leaf) (.leaf))))
theorem s34 : SoundF cx.P cx.G 34 sg34 r34 := by
  have e : denF cx [(28, ⟨sg28, r28⟩), (46, ⟨sg46, r46⟩)] an34 Try.f34.ntmps (Try.f34.body.getD .skip) Try.f34.results.toList sg34 = r34 := by kernel_rfl
  rw [← e]
  exact sound_of_den (c := cx) (Known.cons (.ofF s28 (by kernel_rfl)) Try.func28 (by kernel_rfl) (by kernel_rfl) (Known.cons (.ofF s46 (by kernel_rfl)) Try.func46 (by kernel_rfl) (by kernel_rfl) (Known.nil))) Try.func34 (by kernel_rfl) (Nat.le_of_ble_eq_true (by kernel_rfl)) rfl

/-! reredos/store.doubted -/
noncomputable def r55_L0 (a : ((List ((Int × (Int × Int))) × (List (((Int × Int) × (Int × (Bool × (Int × Int))))) × (List (((Int × Int) × Int)) × List ((Int × Int))))) × (Int × Int))) (d11 : Int) : Option (Int ⊕ (Unit ⊕ Int)) :=
  bif decide (d11 < (↑a.1.2.2.1.length : Int)) then
    Option.bind (idxI a.1.2.2.1 d11) fun (b12 : ((Int × Int) × Int)) =>
      bif (decide (b12.1.1 = a.2.1) && (decide (b12.1.2 = a.2.2) && true)) then
        some (Sum.inr (Sum.inr d11))
      else
        some (Sum.inl (Go.IntKind.wrap .i64 (d11 + (1 : Int))))
  else
    some (Sum.inr (Sum.inl ()))
def sg55 : Sig := ⟨[⟨true, .bo, (.pair (.sl (.pair (.int .i64) (.pair (.int .i64) (.int .i64)))) (.pair (.sl (.pair (.pair (.int .i64) (.int .i64)) (.pair (.int .i64) (.pair .bool (.pair (.int .i64) (.int .i64)))))) (.pair (.sl (.pair (.pair (.int .i64) (.int .i64)) (.int .i64))) (.sl (.pair (.int .i64) (.int .i64))))))⟩, ⟨true, .bo, (.pair (.int .i64) (.int .i64))⟩], [⟨false, .own, .bool⟩]⟩
noncomputable def r55 (a : ((List ((Int × (Int × Int))) × (List (((Int × Int) × (Int × (Bool × (Int × Int))))) × (List (((Int × Int) × Int)) × List ((Int × Int))))) × (Int × Int))) : Option Bool :=
  Option.bind (
    Option.bind (loopR (r55_L0 a) (0 : Int)) fun (q13 : (Unit ⊕ Int)) =>
      Sum.elim (fun (_ : Unit) =>
          some (-1 : Int))
        (fun (v15 : Int) =>
          some v15) q13) fun (d16 : Int) =>
    some (decide ((0 : Int) ≤ d16))
def an55 : Ann := .two (.leaf) (.two (.inl 3 9 (.two (.leaf) (.two (.inl 2 18 (.join [] [] [⟨.ret, [], [.tmp 22 (.int .i64)]⟩] (.two (.leaf) (.two (.two (.leaf) (.one (.loop [18, 19, 25] [3] [] [.tmp 26 (.int .i64)] [⟨.exit 0, [], []⟩, ⟨.ret, [], [.tmp 22 (.int .i64)]⟩] (.two (.leaf) (.two (.two (.leaf) (.leaf)) (.two (.one (.two (.leaf) (.two (.inl 5 37 (.two (.leaf) (.two (.leaf) (.leaf))) (.leaf)) (.two (.two (.leaf) (.leaf)) (.leaf))))) (.leaf))))))) (.two (.leaf) (.leaf))))) (.leaf)) (.leaf))) (.leaf)) (.leaf))
theorem s55 : SoundF cx.P cx.G 55 sg55 r55 := by
  have e : denF cx [] an55 Try.f55.ntmps (Try.f55.body.getD .skip) Try.f55.results.toList sg55 = r55 := by kernel_rfl
  rw [← e]
  exact sound_of_den (c := cx) (Known.nil) Try.func55 (by kernel_rfl) (Nat.le_of_ble_eq_true (by kernel_rfl)) rfl

/-! reredos/store.locks -/
noncomputable def r35_L0 (d1 : Int) (a : (List ((Int × (Int × Int))) × (List (((Int × Int) × (Int × (Bool × (Int × Int))))) × (List (((Int × Int) × Int)) × List ((Int × Int)))))) (b2 : ((Int × Int) × (Int × (Bool × (Int × Int))))) (d25 : Int) : Option (Int ⊕ (Unit ⊕ Bool)) :=
  bif decide (d25 < (↑((List.take (Int.toNat d1) a.2.1).length) : Int)) then
    Option.bind (idxI (List.take (Int.toNat d1) a.2.1) d25) fun (b26 : ((Int × Int) × (Int × (Bool × (Int × Int))))) =>
      Option.bind (
        bif decide (b26.2.1 = b2.2.1) then
          bif !((decide (b26.1.1 = b2.1.1) && (decide (b26.1.2 = b2.1.2) && true))) then
            bif !(b26.2.2.1) then
              some b2.2.2.1
            else
              some true
          else
            some true
        else
          some false) fun (d27 : Bool) =>
        bif d27 then
          some (Sum.inr (Sum.inr false))
        else
          some (Sum.inl (Go.IntKind.wrap .i64 (d25 + (1 : Int))))
  else
    some (Sum.inr (Sum.inl ()))
noncomputable def r35_L1 (a : (List ((Int × (Int × Int))) × (List (((Int × Int) × (Int × (Bool × (Int × Int))))) × (List (((Int × Int) × Int)) × List ((Int × Int)))))) (d1 : Int) : Option (Int ⊕ (Unit ⊕ Bool)) :=
  bif decide (d1 < (↑a.2.1.length : Int)) then
    Option.bind (idxI a.2.1 d1) fun (b2 : ((Int × Int) × (Int × (Bool × (Int × Int))))) =>
      Option.bind (
        Option.bind (
          Option.bind (r55 (a, b2.1)) fun (y17 : Bool) =>
            bif !(!(y17)) then
              some (decide (b2.2.1 < (0 : Int)))
            else
              some true) fun (g18 : Bool) =>
          Option.bind (
            bif !(g18) then
              some (decide ((8 : Int) ≤ b2.2.1))
            else
              some true) fun (g19 : Bool) =>
            Option.bind (
              bif !(g19) then
                some (decide (b2.2.2.2.1 < (0 : Int)))
              else
                some true) fun (g20 : Bool) =>
              Option.bind (
                bif !(g20) then
                  some (decide ((1073741824 : Int) < b2.2.2.2.1))
                else
                  some true) fun (g21 : Bool) =>
                Option.bind (
                  bif !(g21) then
                    some (decide (b2.2.2.2.2 < (0 : Int)))
                  else
                    some true) fun (g22 : Bool) =>
                  Option.bind (
                    bif !(g22) then
                      some (decide ((1048576 : Int) < b2.2.2.2.2))
                    else
                      some true) fun (g23 : Bool) =>
                    bif !(g23) then
                      bif !(b2.2.2.1) then
                        some (!(decide ((Go.IntKind.wrap .i64 (b2.2.2.2.1 + b2.2.2.2.2)) = (0 : Int))))
                      else
                        some false
                    else
                      some true) fun (d24 : Bool) =>
        bif d24 then
          some (Sum.inr (Sum.inr false))
        else
          bif okB none (some d1) none a.2.1.length then
            Option.bind (loopR (r35_L0 d1 a b2) (0 : Int)) fun (q28 : (Unit ⊕ Bool)) =>
              Sum.elim (fun (_ : Unit) =>
                  some (Sum.inl (Go.IntKind.wrap .i64 (d1 + (1 : Int)))))
                (fun (v30 : Bool) =>
                  some (Sum.inr (Sum.inr v30))) q28
          else
            none
  else
    some (Sum.inr (Sum.inl ()))
def sg35 : Sig := ⟨[⟨true, .bo, (.pair (.sl (.pair (.int .i64) (.pair (.int .i64) (.int .i64)))) (.pair (.sl (.pair (.pair (.int .i64) (.int .i64)) (.pair (.int .i64) (.pair .bool (.pair (.int .i64) (.int .i64)))))) (.pair (.sl (.pair (.pair (.int .i64) (.int .i64)) (.int .i64))) (.sl (.pair (.int .i64) (.int .i64))))))⟩], [⟨false, .own, .bool⟩]⟩
noncomputable def r35 (a : (List ((Int × (Int × Int))) × (List (((Int × Int) × (Int × (Bool × (Int × Int))))) × (List (((Int × Int) × Int)) × List ((Int × Int)))))) : Option Bool :=
  Option.bind (loopR (r35_L1 a) (0 : Int)) fun (q31 : (Unit ⊕ Bool)) =>
    Sum.elim (fun (_ : Unit) =>
        some (decide ((↑a.2.1.length : Int) ≤ (24 : Int))))
      (fun (v33 : Bool) =>
        some v33) q31
def an35 : Ann := .two (.leaf) (.two (.two (.leaf) (.one (.loop [1, 8, 9] [1] [] [.tmp 10 (.int .i64)] [⟨.exit 0, [], []⟩, ⟨.ret, [], [.tmp 2 (.bool)]⟩] (.two (.leaf) (.two (.two (.leaf) (.leaf)) (.two (.one (.two (.leaf) (.two (.two (.join [1, 3, 4, 8, 9, 10] [1, 4] [⟨.normal, [], [.tmp 62 (.bool)]⟩] (.segs [(10, ([1, 3, 4, 8, 9, 10], ([1, 4], [.tmp 24 (.bool)]))), (5, ([1, 3, 4, 8, 9, 10], ([1, 4], [.tmp 29 (.bool)]))), (5, ([1, 3, 4, 8, 9, 10], ([1, 4], [.tmp 34 (.bool)]))), (5, ([1, 3, 4, 8, 9, 10], ([1, 4], [.tmp 39 (.bool)]))), (5, ([1, 3, 4, 8, 9, 10], ([1, 4], [.tmp 44 (.bool)]))), (5, ([1, 3, 4, 8, 9, 10], ([1, 4], [.tmp 49 (.bool)])))])) (.two (.two (.leaf) (.leaf)) (.leaf))) (.two (.leaf) (.one (.loop [1, 4, 8, 9, 10, 66, 67] [1, 4] [] [.tmp 68 (.int .i64)] [⟨.exit 2, [], []⟩, ⟨.ret, [], [.tmp 2 (.bool)]⟩] (.two (.leaf) (.two (.two (.leaf) (.leaf)) (.two (.one (.two (.leaf) (.two (.join [1, 4, 8, 9, 10, 66, 67, 68] [1, 4] [⟨.normal, [], [.tmp 91 (.bool)]⟩] (.leaf)) (.two (.two (.leaf) (.leaf)) (.leaf))))) (.leaf)))))))))) (.leaf))))))) (.two (.leaf) (.leaf)))
theorem s35 : SoundF cx.P cx.G 35 sg35 r35 := by
  have e : denF cx [(55, ⟨sg55, r55⟩)] an35 Try.f35.ntmps (Try.f35.body.getD .skip) Try.f35.results.toList sg35 = r35 := by kernel_rfl
  rw [← e]
  exact sound_of_den (c := cx) (Known.cons (.ofF s55 (by kernel_rfl)) Try.func55 (by kernel_rfl) (by kernel_rfl) (Known.nil)) Try.func35 (by kernel_rfl) (Nat.le_of_ble_eq_true (by kernel_rfl)) rfl

/-! reredos/store.Check -/
def sg18 : Sig := ⟨[⟨true, .bo, (.pair (.sl (.pair (.int .i64) (.pair (.int .i64) (.int .i64)))) (.pair (.sl (.pair (.pair (.int .i64) (.int .i64)) (.pair (.int .i64) (.pair .bool (.pair (.int .i64) (.int .i64)))))) (.pair (.sl (.pair (.pair (.int .i64) (.int .i64)) (.int .i64))) (.sl (.pair (.int .i64) (.int .i64))))))⟩], [⟨false, .own, (.int .i64)⟩]⟩
noncomputable def r18 (a : (List ((Int × (Int × Int))) × (List (((Int × Int) × (Int × (Bool × (Int × Int))))) × (List (((Int × Int) × Int)) × List ((Int × Int)))))) : Option Int :=
  Option.bind (
    Option.bind (
      Option.bind (r33 a.1) fun (y9 : Bool) =>
        bif !(!(y9)) then
          Option.bind (r34 a) fun (y10 : Bool) =>
            some !(y10)
        else
          some true) fun (g11 : Bool) =>
      bif !(g11) then
        Option.bind (r35 a) fun (y12 : Bool) =>
          some !(y12)
      else
        some true) fun (d13 : Bool) =>
    bif d13 then
      some (9 : Int)
    else
      some (0 : Int)
def an18 : Ann := .two (.leaf) (.two (.two (.join [] [] [⟨.normal, [], [.tmp 16 (.bool)]⟩] (.segs [(9, ([1], ([1], [.tmp 11 (.bool)])))])) (.two (.two (.leaf) (.leaf)) (.leaf))) (.two (.leaf) (.leaf)))
theorem s18 : SoundF cx.P cx.G 18 sg18 r18 := by
  have e : denF cx [(33, ⟨sg33, r33⟩), (34, ⟨sg34, r34⟩), (35, ⟨sg35, r35⟩)] an18 Try.f18.ntmps (Try.f18.body.getD .skip) Try.f18.results.toList sg18 = r18 := by kernel_rfl
  rw [← e]
  exact sound_of_den (c := cx) (Known.cons (.ofF s33 (by kernel_rfl)) Try.func33 (by kernel_rfl) (by kernel_rfl) (Known.cons (.ofF s34 (by kernel_rfl)) Try.func34 (by kernel_rfl) (by kernel_rfl) (Known.cons (.ofF s35 (by kernel_rfl)) Try.func35 (by kernel_rfl) (by kernel_rfl) (Known.nil)))) Try.func18 (by kernel_rfl) (Nat.le_of_ble_eq_true (by kernel_rfl)) rfl

/-! reredos/store.call -/
def sg26 : Sig := ⟨[⟨true, .bo, (.pair (.sl (.pair (.int .i64) (.pair (.int .i64) (.int .i64)))) (.pair (.sl (.pair (.pair (.int .i64) (.int .i64)) (.pair (.int .i64) (.pair .bool (.pair (.int .i64) (.int .i64)))))) (.pair (.sl (.pair (.pair (.int .i64) (.int .i64)) (.int .i64))) (.sl (.pair (.int .i64) (.int .i64))))))⟩, ⟨true, .bo, (.pair (.int .i64) (.int .i64))⟩, ⟨false, .bo, (.int .i64)⟩], [⟨false, .own, (.int .i64)⟩]⟩
noncomputable def r26 (a : ((List ((Int × (Int × Int))) × (List (((Int × Int) × (Int × (Bool × (Int × Int))))) × (List (((Int × Int) × Int)) × List ((Int × Int))))) × ((Int × Int) × Int))) : Option Int :=
  Option.bind (r18 a.1) fun (y1 : Int) =>
    bif !(decide (y1 = (0 : Int))) then
      some y1
    else
      Option.bind (
        Option.bind (
          Option.bind (r46 a.2.1) fun (y6 : Bool) =>
            bif !(!(y6)) then
              some (decide (a.2.2 < (0 : Int)))
            else
              some true) fun (g7 : Bool) =>
          bif !(g7) then
            some (decide ((8 : Int) ≤ a.2.2))
          else
            some true) fun (d8 : Bool) =>
        bif d8 then
          some (2 : Int)
        else
          some (0 : Int)
def an26 : Ann := .two (.leaf) (.two (.two (.leaf) (.two (.leaf) (.two (.two (.leaf) (.leaf)) (.leaf)))) (.two (.two (.join [] [] [⟨.normal, [], [.tmp 23 (.bool)]⟩] (.segs [(7, ([2], ([], [.tmp 19 (.bool)])))])) (.two (.two (.leaf) (.leaf)) (.leaf))) (.two (.leaf) (.leaf))))
theorem s26 : SoundF cx.P cx.G 26 sg26 r26 := by
  have e : denF cx [(18, ⟨sg18, r18⟩), (46, ⟨sg46, r46⟩)] an26 Try.f26.ntmps (Try.f26.body.getD .skip) Try.f26.results.toList sg26 = r26 := by kernel_rfl
  rw [← e]
  exact sound_of_den (c := cx) (Known.cons (.ofF s18 (by kernel_rfl)) Try.func18 (by kernel_rfl) (by kernel_rfl) (Known.cons (.ofF s46 (by kernel_rfl)) Try.func46 (by kernel_rfl) (by kernel_rfl) (Known.nil))) Try.func26 (by kernel_rfl) (Nat.le_of_ble_eq_true (by kernel_rfl)) rfl

/-! reredos/store.lock -/
noncomputable def r27_L0 (a : ((List ((Int × (Int × Int))) × (List (((Int × Int) × (Int × (Bool × (Int × Int))))) × (List (((Int × Int) × Int)) × List ((Int × Int))))) × ((Int × Int) × Int))) (d13 : Int) : Option (Int ⊕ (Unit ⊕ Int)) :=
  bif decide (d13 < (↑a.1.2.1.length : Int)) then
    Option.bind (idxI a.1.2.1 d13) fun (b14 : ((Int × Int) × (Int × (Bool × (Int × Int))))) =>
      Option.bind (
        bif (decide (b14.1.1 = a.2.1.1) && (decide (b14.1.2 = a.2.1.2) && true)) then
          some (decide (b14.2.1 = a.2.2))
        else
          some false) fun (d15 : Bool) =>
        bif d15 then
          some (Sum.inr (Sum.inr d13))
        else
          some (Sum.inl (Go.IntKind.wrap .i64 (d13 + (1 : Int))))
  else
    some (Sum.inr (Sum.inl ()))
def sg27 : Sig := ⟨[⟨true, .bo, (.pair (.sl (.pair (.int .i64) (.pair (.int .i64) (.int .i64)))) (.pair (.sl (.pair (.pair (.int .i64) (.int .i64)) (.pair (.int .i64) (.pair .bool (.pair (.int .i64) (.int .i64)))))) (.pair (.sl (.pair (.pair (.int .i64) (.int .i64)) (.int .i64))) (.sl (.pair (.int .i64) (.int .i64))))))⟩, ⟨true, .bo, (.pair (.int .i64) (.int .i64))⟩, ⟨false, .bo, (.int .i64)⟩], [⟨false, .own, (.int .i64)⟩]⟩
noncomputable def r27 (a : ((List ((Int × (Int × Int))) × (List (((Int × Int) × (Int × (Bool × (Int × Int))))) × (List (((Int × Int) × Int)) × List ((Int × Int))))) × ((Int × Int) × Int))) : Option Int :=
  Option.bind (
    Option.bind (loopR (r27_L0 a) (0 : Int)) fun (q16 : (Unit ⊕ Int)) =>
      Sum.elim (fun (_ : Unit) =>
          some (-1 : Int))
        (fun (v18 : Int) =>
          some v18) q16) fun (d19 : Int) =>
    some d19
def an27 : Ann := .two (.leaf) (.two (.inl 3 11 (.join [] [] [⟨.ret, [], [.tmp 15 (.int .i64)]⟩] (.two (.leaf) (.two (.two (.leaf) (.one (.loop [11, 12, 18] [4, 5] [] [.tmp 19 (.int .i64)] [⟨.exit 0, [], []⟩, ⟨.ret, [], [.tmp 15 (.int .i64)]⟩] (.two (.leaf) (.two (.two (.leaf) (.leaf)) (.two (.one (.two (.leaf) (.two (.inl 5 30 (.join [11, 12, 16, 18, 19] [4, 5] [⟨.ret, [], [.tmp 34 (.bool)]⟩] (.two (.leaf) (.two (.leaf) (.leaf)))) (.leaf)) (.two (.two (.leaf) (.leaf)) (.leaf))))) (.leaf))))))) (.two (.leaf) (.leaf))))) (.leaf)) (.leaf))
theorem s27 : SoundF cx.P cx.G 27 sg27 r27 := by
  have e : denF cx [] an27 Try.f27.ntmps (Try.f27.body.getD .skip) Try.f27.results.toList sg27 = r27 := by kernel_rfl
  rw [← e]
  exact sound_of_den (c := cx) (Known.nil) Try.func27 (by kernel_rfl) (Nat.le_of_ble_eq_true (by kernel_rfl)) rfl

/-! reredos/store.busy -/
noncomputable def r29_L0 (a : ((List ((Int × (Int × Int))) × (List (((Int × Int) × (Int × (Bool × (Int × Int))))) × (List (((Int × Int) × Int)) × List ((Int × Int))))) × ((Int × Int) × (Int × Bool)))) (d19 : Int) : Option (Int ⊕ (Unit ⊕ Int)) :=
  bif decide (d19 < (↑a.1.2.1.length : Int)) then
    Option.bind (idxI a.1.2.1 d19) fun (b20 : ((Int × Int) × (Int × (Bool × (Int × Int))))) =>
      Option.bind (
        Option.bind (
          bif decide (b20.2.1 = a.2.2.1) then
            some (!((decide (b20.1.1 = a.2.1.1) && (decide (b20.1.2 = a.2.1.2) && true))))
          else
            some false) fun (g23 : Bool) =>
          bif g23 then
            bif !(a.2.2.2) then
              some b20.2.2.1
            else
              some true
          else
            some false) fun (d24 : Bool) =>
        bif d24 then
          some (Sum.inr (Sum.inr d19))
        else
          some (Sum.inl (Go.IntKind.wrap .i64 (d19 + (1 : Int))))
  else
    some (Sum.inr (Sum.inl ()))
def sg29 : Sig := ⟨[⟨true, .bo, (.pair (.sl (.pair (.int .i64) (.pair (.int .i64) (.int .i64)))) (.pair (.sl (.pair (.pair (.int .i64) (.int .i64)) (.pair (.int .i64) (.pair .bool (.pair (.int .i64) (.int .i64)))))) (.pair (.sl (.pair (.pair (.int .i64) (.int .i64)) (.int .i64))) (.sl (.pair (.int .i64) (.int .i64))))))⟩, ⟨true, .bo, (.pair (.int .i64) (.int .i64))⟩, ⟨false, .bo, (.int .i64)⟩, ⟨false, .bo, .bool⟩], [⟨false, .own, .bool⟩]⟩
noncomputable def r29 (a : ((List ((Int × (Int × Int))) × (List (((Int × Int) × (Int × (Bool × (Int × Int))))) × (List (((Int × Int) × Int)) × List ((Int × Int))))) × ((Int × Int) × (Int × Bool)))) : Option Bool :=
  Option.bind (
    Option.bind (loopR (r29_L0 a) (0 : Int)) fun (q25 : (Unit ⊕ Int)) =>
      Sum.elim (fun (_ : Unit) =>
          some (-1 : Int))
        (fun (v27 : Int) =>
          some v27) q25) fun (d28 : Int) =>
    some (decide ((0 : Int) ≤ d28))
def an29 : Ann := .two (.leaf) (.two (.inl 3 13 (.two (.leaf) (.two (.inl 2 22 (.join [] [] [⟨.ret, [], [.tmp 26 (.int .i64)]⟩] (.two (.leaf) (.two (.two (.leaf) (.one (.loop [22, 23, 29] [5, 6, 7] [] [.tmp 30 (.int .i64)] [⟨.exit 0, [], []⟩, ⟨.ret, [], [.tmp 26 (.int .i64)]⟩] (.two (.leaf) (.two (.two (.leaf) (.leaf)) (.two (.one (.two (.leaf) (.two (.inl 5 41 (.join [22, 23, 27, 29, 30] [5, 6, 7] [⟨.ret, [], [.tmp 46 (.bool)]⟩] (.two (.leaf) (.two (.segs [(10, ([22, 23, 27, 29, 30, 44, 45], ([5, 6, 7, 45], [.tmp 56 (.bool)])))]) (.leaf)))) (.leaf)) (.two (.two (.leaf) (.leaf)) (.leaf))))) (.leaf))))))) (.two (.leaf) (.leaf))))) (.leaf)) (.leaf))) (.leaf)) (.leaf))
theorem s29 : SoundF cx.P cx.G 29 sg29 r29 := by
  have e : denF cx [] an29 Try.f29.ntmps (Try.f29.body.getD .skip) Try.f29.results.toList sg29 = r29 := by kernel_rfl
  rw [← e]
  exact sound_of_den (c := cx) (Known.nil) Try.func29 (by kernel_rfl) (Nat.le_of_ble_eq_true (by kernel_rfl)) rfl

/-! cmp.isNaN[int] -/
def sg65 : Sig := ⟨[⟨false, .bo, (.int .i64)⟩], [⟨false, .own, .bool⟩]⟩
noncomputable def r65 (a : Int) : Option Bool :=
  some (!(decide (a = a)))
def an65 : Ann := .two (.leaf) (.two (.leaf) (.leaf))
theorem s65 : SoundF cx.P cx.G 65 sg65 r65 := by
  have e : denF cx [] an65 Try.f65.ntmps (Try.f65.body.getD .skip) Try.f65.results.toList sg65 = r65 := by kernel_rfl
  rw [← e]
  exact sound_of_den (c := cx) (Known.nil) Try.func65 (by kernel_rfl) (Nat.le_of_ble_eq_true (by kernel_rfl)) rfl

/-! cmp.Compare[int] -/
def sg59 : Sig := ⟨[⟨false, .bo, (.int .i64)⟩, ⟨false, .bo, (.int .i64)⟩], [⟨false, .own, (.int .i64)⟩]⟩
noncomputable def r59 (a : (Int × Int)) : Option Int :=
  Option.bind (r65 a.1) fun (y1 : Bool) =>
    Option.bind (r65 a.2) fun (y2 : Bool) =>
      bif y1 then
        bif y2 then
          some (0 : Int)
        else
          some (-1 : Int)
      else
        bif y2 then
          some (1 : Int)
        else
          bif decide (a.1 < a.2) then
            some (-1 : Int)
          else
            bif decide (a.2 < a.1) then
              some (1 : Int)
            else
              some (0 : Int)
def an59 : Ann := .two (.leaf) (.two (.leaf) (.two (.leaf) (.two (.two (.leaf) (.two (.two (.two (.leaf) (.two (.two (.leaf) (.leaf)) (.leaf))) (.two (.leaf) (.leaf))) (.leaf))) (.two (.two (.leaf) (.two (.two (.leaf) (.leaf)) (.leaf))) (.two (.two (.leaf) (.two (.two (.leaf) (.leaf)) (.leaf))) (.two (.two (.leaf) (.two (.two (.leaf) (.leaf)) (.leaf))) (.two (.leaf) (.leaf))))))))
theorem s59 : SoundF cx.P cx.G 59 sg59 r59 := by
  have e : denF cx [(65, ⟨sg65, r65⟩)] an59 Try.f59.ntmps (Try.f59.body.getD .skip) Try.f59.results.toList sg59 = r59 := by kernel_rfl
  rw [← e]
  exact sound_of_den (c := cx) (Known.cons (.ofF s65 (by kernel_rfl)) Try.func65 (by kernel_rfl) (by kernel_rfl) (Known.nil)) Try.func59 (by kernel_rfl) (Nat.le_of_ble_eq_true (by kernel_rfl)) rfl

/-! reredos/store.at$1 -/
def sg58 : Sig := ⟨[⟨true, .bo, (.pair (.int .i64) (.pair (.int .i64) (.int .i64)))⟩, ⟨false, .bo, (.int .i64)⟩], [⟨false, .own, (.int .i64)⟩]⟩
noncomputable def r58 (a : ((Int × (Int × Int)) × Int)) : Option Int :=
  Option.bind (r59 (a.1.1, a.2)) fun (y1 : Int) =>
    some y1
def an58 : Ann := .two (.leaf) (.two (.leaf) (.leaf))
theorem s58 : SoundF cx.P cx.G 58 sg58 r58 := by
  have e : denF cx [(59, ⟨sg59, r59⟩)] an58 Try.f58.ntmps (Try.f58.body.getD .skip) Try.f58.results.toList sg58 = r58 := by kernel_rfl
  rw [← e]
  exact sound_of_den (c := cx) (Known.cons (.ofF s59 (by kernel_rfl)) Try.func59 (by kernel_rfl) (by kernel_rfl) (Known.nil)) Try.func58 (by kernel_rfl) (Nat.le_of_ble_eq_true (by kernel_rfl)) rfl

/-! reredos/store.at -/
noncomputable def r36_L0 (a : (List ((Int × (Int × Int))) × Int)) (d13 : (Int × Int)) : Option ((Int × Int) ⊕ Int) :=
  bif decide (d13.1 < d13.2) then
    Option.bind (idxI a.1 (Go.IntKind.wrap .i64 (Int.fdiv (Go.IntKind.wrap .u64 (Go.IntKind.wrap .i64 (d13.1 + d13.2))) (2 ^ 1)))) fun (b14 : (Int × (Int × Int))) =>
      Option.bind (r59 (b14.1, a.2)) fun (y15 : Int) =>
        bif decide (y15 < (0 : Int)) then
          some (Sum.inl ((Go.IntKind.wrap .i64 ((Go.IntKind.wrap .i64 (Int.fdiv (Go.IntKind.wrap .u64 (Go.IntKind.wrap .i64 (d13.1 + d13.2))) (2 ^ 1))) + (1 : Int))), d13.2))
        else
          some (Sum.inl (d13.1, (Go.IntKind.wrap .i64 (Int.fdiv (Go.IntKind.wrap .u64 (Go.IntKind.wrap .i64 (d13.1 + d13.2))) (2 ^ 1)))))
  else
    some (Sum.inr d13.1)
def sg36 : Sig := ⟨[⟨false, .bo, (.sl (.pair (.int .i64) (.pair (.int .i64) (.int .i64))))⟩, ⟨false, .bo, (.int .i64)⟩], [⟨false, .own, (.int .i64)⟩, ⟨false, .own, .bool⟩]⟩
noncomputable def r36 (a : (List ((Int × (Int × Int))) × Int)) : Option (Int × Bool) :=
  Option.bind (
    Option.bind (loopR (r36_L0 a) ((0 : Int), (↑a.1.length : Int))) fun (q16 : Int) =>
      bif decide (q16 < (↑a.1.length : Int)) then
        Option.bind (idxI a.1 q16) fun (b17 : (Int × (Int × Int))) =>
          Option.bind (r59 (b17.1, a.2)) fun (y18 : Int) =>
            some (q16, decide (y18 = (0 : Int)))
      else
        some (q16, false)) fun (d19 : (Int × Bool)) =>
    some d19
def an36 : Ann := .two (.leaf) (.two (.inl 2 11 (.join [] [] [⟨.ret, [], [.tmp 17 (.int .i64), .tmp 18 (.bool)]⟩] (.two (.leaf) (.two (.leaf) (.two (.leaf) (.two (.one (.loop [11, 12, 13, 19] [] [] [.tmp 20 (.int .i64), .tmp 21 (.int .i64)] [⟨.exit 0, [], [.tmp 20 (.int .i64)]⟩] (.two (.two (.leaf) (.two (.leaf) (.leaf))) (.one (.two (.leaf) (.two (.inl 6 60 (.two (.leaf) (.two (.leaf) (.leaf))) (.leaf)) (.two (.leaf) (.leaf)))))))) (.two (.inl 11 69 (.two (.leaf) (.two (.leaf) (.leaf))) (.leaf)) (.leaf))))))) (.leaf)) (.leaf))
theorem s36 : SoundF cx.P cx.G 36 sg36 r36 := by
  have e : denF cx [(59, ⟨sg59, r59⟩)] an36 Try.f36.ntmps (Try.f36.body.getD .skip) Try.f36.results.toList sg36 = r36 := by kernel_rfl
  rw [← e]
  exact sound_of_den (c := cx) (Known.cons (.ofF s59 (by kernel_rfl)) Try.func59 (by kernel_rfl) (by kernel_rfl) (Known.nil)) Try.func36 (by kernel_rfl) (Nat.le_of_ble_eq_true (by kernel_rfl)) rfl

/-! reredos/store.item -/
def sg30 : Sig := ⟨[⟨true, .bo, (.pair (.sl (.pair (.int .i64) (.pair (.int .i64) (.int .i64)))) (.pair (.sl (.pair (.pair (.int .i64) (.int .i64)) (.pair (.int .i64) (.pair .bool (.pair (.int .i64) (.int .i64)))))) (.pair (.sl (.pair (.pair (.int .i64) (.int .i64)) (.int .i64))) (.sl (.pair (.int .i64) (.int .i64))))))⟩, ⟨false, .bo, (.int .i64)⟩], [⟨true, .own, (.pair (.int .i64) (.pair (.int .i64) (.int .i64)))⟩]⟩
noncomputable def r30 (a : ((List ((Int × (Int × Int))) × (List (((Int × Int) × (Int × (Bool × (Int × Int))))) × (List (((Int × Int) × Int)) × List ((Int × Int))))) × Int)) : Option (Int × (Int × Int)) :=
  Option.bind (r36 (a.1.1, a.2)) fun (y1 : (Int × Bool)) =>
    bif y1.2 then
      Option.bind (idxI a.1.1 y1.1) fun (b2 : (Int × (Int × Int))) =>
        some b2
    else
      some (a.2, ((0 : Int), (0 : Int)))
def an30 : Ann := .two (.leaf) (.two (.two (.leaf) (.two (.leaf) (.two (.two (.leaf) (.leaf)) (.leaf)))) (.two (.leaf) (.leaf)))
theorem s30 : SoundF cx.P cx.G 30 sg30 r30 := by
  have e : denF cx [(36, ⟨sg36, r36⟩)] an30 Try.f30.ntmps (Try.f30.body.getD .skip) Try.f30.results.toList sg30 = r30 := by kernel_rfl
  rw [← e]
  exact sound_of_den (c := cx) (Known.cons (.ofF s36 (by kernel_rfl)) Try.func36 (by kernel_rfl) (by kernel_rfl) (Known.nil)) Try.func30 (by kernel_rfl) (Nat.le_of_ble_eq_true (by kernel_rfl)) rfl

/-! slices.Clone[[]reredos/api.Item,reredos/api.Item] -/
def sg51 : Sig := ⟨[⟨false, .bo, (.sl (.pair (.int .i64) (.pair (.int .i64) (.int .i64))))⟩], [⟨false, .own, (.sl (.pair (.int .i64) (.pair (.int .i64) (.int .i64))))⟩]⟩
noncomputable def r51 (a : List ((Int × (Int × Int)))) : Option (List ((Int × (Int × Int)))) :=
  nilR a fun (n1 : Bool) =>
    bif n1 then
      some []
    else
      bif roomOk false 0 a.length 24 then
        some a
      else
        none
def an51 : Ann := .two (.leaf) (.two (.two (.leaf) (.two (.two (.leaf) (.leaf)) (.leaf))) (.two (.leaf) (.leaf)))
theorem s51 : SoundF cx.P cx.G 51 sg51 r51 := by
  have e : denF cx [] an51 Try.f51.ntmps (Try.f51.body.getD .skip) Try.f51.results.toList sg51 = r51 := by kernel_rfl
  rw [← e]
  exact sound_of_den (c := cx) (Known.nil) Try.func51 (by kernel_rfl) (Nat.le_of_ble_eq_true (by kernel_rfl)) rfl

/-! slices.Clone[[]reredos/api.Lock,reredos/api.Lock] -/
def sg52 : Sig := ⟨[⟨false, .bo, (.sl (.pair (.pair (.int .i64) (.int .i64)) (.pair (.int .i64) (.pair .bool (.pair (.int .i64) (.int .i64))))))⟩], [⟨false, .own, (.sl (.pair (.pair (.int .i64) (.int .i64)) (.pair (.int .i64) (.pair .bool (.pair (.int .i64) (.int .i64))))))⟩]⟩
noncomputable def r52 (a : List (((Int × Int) × (Int × (Bool × (Int × Int)))))) : Option (List (((Int × Int) × (Int × (Bool × (Int × Int)))))) :=
  nilR a fun (n1 : Bool) =>
    bif n1 then
      some []
    else
      bif roomOk false 0 a.length 48 then
        some a
      else
        none
def an52 : Ann := .two (.leaf) (.two (.two (.leaf) (.two (.two (.leaf) (.leaf)) (.leaf))) (.two (.leaf) (.leaf)))
theorem s52 : SoundF cx.P cx.G 52 sg52 r52 := by
  have e : denF cx [] an52 Try.f52.ntmps (Try.f52.body.getD .skip) Try.f52.results.toList sg52 = r52 := by kernel_rfl
  rw [← e]
  exact sound_of_den (c := cx) (Known.nil) Try.func52 (by kernel_rfl) (Nat.le_of_ble_eq_true (by kernel_rfl)) rfl

/-! slices.Clone[[]reredos/api.Doubt,reredos/api.Doubt] -/
def sg53 : Sig := ⟨[⟨false, .bo, (.sl (.pair (.pair (.int .i64) (.int .i64)) (.int .i64)))⟩], [⟨false, .own, (.sl (.pair (.pair (.int .i64) (.int .i64)) (.int .i64)))⟩]⟩
noncomputable def r53 (a : List (((Int × Int) × Int))) : Option (List (((Int × Int) × Int))) :=
  nilR a fun (n1 : Bool) =>
    bif n1 then
      some []
    else
      bif roomOk false 0 a.length 24 then
        some a
      else
        none
def an53 : Ann := .two (.leaf) (.two (.two (.leaf) (.two (.two (.leaf) (.leaf)) (.leaf))) (.two (.leaf) (.leaf)))
theorem s53 : SoundF cx.P cx.G 53 sg53 r53 := by
  have e : denF cx [] an53 Try.f53.ntmps (Try.f53.body.getD .skip) Try.f53.results.toList sg53 = r53 := by kernel_rfl
  rw [← e]
  exact sound_of_den (c := cx) (Known.nil) Try.func53 (by kernel_rfl) (Nat.le_of_ble_eq_true (by kernel_rfl)) rfl

/-! slices.Clone[[]reredos/api.Txn,reredos/api.Txn] -/
def sg54 : Sig := ⟨[⟨false, .bo, (.sl (.pair (.int .i64) (.int .i64)))⟩], [⟨false, .own, (.sl (.pair (.int .i64) (.int .i64)))⟩]⟩
noncomputable def r54 (a : List ((Int × Int))) : Option (List ((Int × Int))) :=
  nilR a fun (n1 : Bool) =>
    bif n1 then
      some []
    else
      bif roomOk false 0 a.length 16 then
        some a
      else
        none
def an54 : Ann := .two (.leaf) (.two (.two (.leaf) (.two (.two (.leaf) (.leaf)) (.leaf))) (.two (.leaf) (.leaf)))
theorem s54 : SoundF cx.P cx.G 54 sg54 r54 := by
  have e : denF cx [] an54 Try.f54.ntmps (Try.f54.body.getD .skip) Try.f54.results.toList sg54 = r54 := by kernel_rfl
  rw [← e]
  exact sound_of_den (c := cx) (Known.nil) Try.func54 (by kernel_rfl) (Nat.le_of_ble_eq_true (by kernel_rfl)) rfl

/-! reredos/store.own -/
def sg31 : Sig := ⟨[⟨true, .bo, (.pair (.sl (.pair (.int .i64) (.pair (.int .i64) (.int .i64)))) (.pair (.sl (.pair (.pair (.int .i64) (.int .i64)) (.pair (.int .i64) (.pair .bool (.pair (.int .i64) (.int .i64)))))) (.pair (.sl (.pair (.pair (.int .i64) (.int .i64)) (.int .i64))) (.sl (.pair (.int .i64) (.int .i64))))))⟩], [⟨true, .own, (.pair (.sl (.pair (.int .i64) (.pair (.int .i64) (.int .i64)))) (.pair (.sl (.pair (.pair (.int .i64) (.int .i64)) (.pair (.int .i64) (.pair .bool (.pair (.int .i64) (.int .i64)))))) (.pair (.sl (.pair (.pair (.int .i64) (.int .i64)) (.int .i64))) (.sl (.pair (.int .i64) (.int .i64))))))⟩]⟩
noncomputable def r31 (a : (List ((Int × (Int × Int))) × (List (((Int × Int) × (Int × (Bool × (Int × Int))))) × (List (((Int × Int) × Int)) × List ((Int × Int)))))) : Option (List ((Int × (Int × Int))) × (List (((Int × Int) × (Int × (Bool × (Int × Int))))) × (List (((Int × Int) × Int)) × List ((Int × Int))))) :=
  Option.bind (r51 a.1) fun (y5 : List ((Int × (Int × Int)))) =>
    Option.bind (r52 a.2.1) fun (y6 : List (((Int × Int) × (Int × (Bool × (Int × Int)))))) =>
      Option.bind (r53 a.2.2.1) fun (y7 : List (((Int × Int) × Int))) =>
        Option.bind (r54 a.2.2.2) fun (y8 : List ((Int × Int))) =>
          some (y5, (y6, (y7, y8)))
def an31 : Ann := .two (.leaf) (.two (.draw 11) (.leaf))
theorem s31 : SoundF cx.P cx.G 31 sg31 r31 := by
  have e : denF cx [(51, ⟨sg51, r51⟩), (52, ⟨sg52, r52⟩), (53, ⟨sg53, r53⟩), (54, ⟨sg54, r54⟩)] an31 Try.f31.ntmps (Try.f31.body.getD .skip) Try.f31.results.toList sg31 = r31 := by kernel_rfl
  rw [← e]
  exact sound_of_den (c := cx) (Known.cons (.ofF s51 (by kernel_rfl)) Try.func51 (by kernel_rfl) (by kernel_rfl) (Known.cons (.ofF s52 (by kernel_rfl)) Try.func52 (by kernel_rfl) (by kernel_rfl) (Known.cons (.ofF s53 (by kernel_rfl)) Try.func53 (by kernel_rfl) (by kernel_rfl) (Known.cons (.ofF s54 (by kernel_rfl)) Try.func54 (by kernel_rfl) (by kernel_rfl) (Known.nil))))) Try.func31 (by kernel_rfl) (Nat.le_of_ble_eq_true (by kernel_rfl)) rfl

/-! reredos/store.hand -/
def sg32 : Sig := ⟨[⟨false, .own, (.ptr (.pair (.sl (.pair (.int .i64) (.pair (.int .i64) (.int .i64)))) (.pair (.sl (.pair (.pair (.int .i64) (.int .i64)) (.pair (.int .i64) (.pair .bool (.pair (.int .i64) (.int .i64)))))) (.pair (.sl (.pair (.pair (.int .i64) (.int .i64)) (.int .i64))) (.sl (.pair (.int .i64) (.int .i64)))))))⟩, ⟨true, .bo, (.pair (.int .i64) (.int .i64))⟩], [⟨false, .own, (.ptr (.pair (.sl (.pair (.int .i64) (.pair (.int .i64) (.int .i64)))) (.pair (.sl (.pair (.pair (.int .i64) (.int .i64)) (.pair (.int .i64) (.pair .bool (.pair (.int .i64) (.int .i64)))))) (.pair (.sl (.pair (.pair (.int .i64) (.int .i64)) (.int .i64))) (.sl (.pair (.int .i64) (.int .i64)))))))⟩]⟩
noncomputable def r32 (a : ((List ((Int × (Int × Int))) × (List (((Int × Int) × (Int × (Bool × (Int × Int))))) × (List (((Int × Int) × Int)) × List ((Int × Int))))) × (Int × Int))) : Option (List ((Int × (Int × Int))) × (List (((Int × Int) × (Int × (Bool × (Int × Int))))) × (List (((Int × Int) × Int)) × List ((Int × Int))))) :=
  Option.bind (r55 (a.1, a.2)) fun (y2 : Bool) =>
    bif !(y2) then
      Option.bind (
        
          bif roomOk false a.1.2.2.1.length 1 24 then
            some ((), (a.1.1, (a.1.2.1, (app a.1.2.2.1 [(a.2, (0 : Int))], a.1.2.2.2))))
          else
            none) fun (d3 : (Unit × (List ((Int × (Int × Int))) × (List (((Int × Int) × (Int × (Bool × (Int × Int))))) × (List (((Int × Int) × Int)) × List ((Int × Int))))))) =>
        some d3.2
    else
      some a.1
noncomputable def r32q : ((List ((Int × (Int × Int))) × (List (((Int × Int) × (Int × (Bool × (Int × Int))))) × (List (((Int × Int) × Int)) × List ((Int × Int))))) × (Int × Int)) → Option (List ((Int × (Int × Int))) × (List (((Int × Int) × (Int × (Bool × (Int × Int))))) × (List (((Int × Int) × Int)) × List ((Int × Int))))) := fun a =>
  Option.bind (r55 (a.1, a.2)) fun (y2 : Bool) =>
    bif !(y2) then
      Option.bind (
        sameR (
          bif roomOk false a.1.2.2.1.length 1 24 then
            some ((), (a.1.1, (a.1.2.1, (app a.1.2.2.1 [(a.2, (0 : Int))], a.1.2.2.2))))
          else
            none)
 (
          sameR (
            bif roomOk false a.1.2.2.1.length 1 24 then
              some ((), (a.1.1, (a.1.2.1, (app a.1.2.2.1 [(a.2, (0 : Int))], a.1.2.2.2))))
            else
              none)
 (
            bif roomOk false a.1.2.2.1.length 1 24 then
              some ((), (a.1.1, (a.1.2.1, (app a.1.2.2.1 [(a.2, (0 : Int))], a.1.2.2.2))))
            else
              none))) fun (d3 : (Unit × (List ((Int × (Int × Int))) × (List (((Int × Int) × (Int × (Bool × (Int × Int))))) × (List (((Int × Int) × Int)) × List ((Int × Int))))))) =>
        some d3.2
    else
      some a.1
theorem r32e : r32q = r32 := by unfold r32q r32; simp only [sameR_self]
def an32 : Ann := .two (.leaf) (.two (.draw 4) (.two (.join [] [] [⟨.normal, [], [.tmp 0 (.pt 0 [(0, 0)] 0 0 0), .box 0 [.sl .own (.pair (.int .i64) (.pair (.int .i64) (.int .i64))), .sl .own (.pair (.pair (.int .i64) (.int .i64)) (.pair (.int .i64) (.pair .bool (.pair (.int .i64) (.int .i64))))), .sl .own (.pair (.pair (.int .i64) (.int .i64)) (.int .i64)), .sl .own (.pair (.int .i64) (.int .i64))]]⟩] (.drawT [0, 1, 2, 3, 4, 5, 6, 7] [0])) (.leaf)))
theorem s32 : SoundM cx.P cx.G 32 sg32 r32 := by
  have e : denM cx [(55, ⟨sg55, r55⟩)] an32 Try.f32.ntmps (Try.f32.body.getD .skip) Try.f32.results.toList sg32 = r32q := by kernel_rfl
  rw [← r32e, ← e]
  exact sound_of_denM (c := cx) (Known.cons (.ofF s55 (by kernel_rfl)) Try.func55 (by kernel_rfl) (by kernel_rfl) (Known.nil)) Try.func32 (by kernel_rfl) (Nat.le_of_ble_eq_true (by kernel_rfl)) rfl

/-! reredos/store.Write -/
def sg14 : Sig := ⟨[⟨true, .bo, (.pair (.sl (.pair (.int .i64) (.pair (.int .i64) (.int .i64)))) (.pair (.sl (.pair (.pair (.int .i64) (.int .i64)) (.pair (.int .i64) (.pair .bool (.pair (.int .i64) (.int .i64)))))) (.pair (.sl (.pair (.pair (.int .i64) (.int .i64)) (.int .i64))) (.sl (.pair (.int .i64) (.int .i64))))))⟩, ⟨true, .bo, (.pair (.int .i64) (.int .i64))⟩, ⟨false, .bo, (.int .i64)⟩, ⟨false, .bo, (.int .i64)⟩, ⟨false, .bo, (.int .i64)⟩], [⟨true, .own, (.pair (.sl (.pair (.int .i64) (.pair (.int .i64) (.int .i64)))) (.pair (.sl (.pair (.pair (.int .i64) (.int .i64)) (.pair (.int .i64) (.pair .bool (.pair (.int .i64) (.int .i64)))))) (.pair (.sl (.pair (.pair (.int .i64) (.int .i64)) (.int .i64))) (.sl (.pair (.int .i64) (.int .i64))))))⟩, ⟨false, .own, (.int .i64)⟩]⟩
noncomputable def r14 (a : ((List ((Int × (Int × Int))) × (List (((Int × Int) × (Int × (Bool × (Int × Int))))) × (List (((Int × Int) × Int)) × List ((Int × Int))))) × ((Int × Int) × (Int × (Int × Int))))) : Option ((List ((Int × (Int × Int))) × (List (((Int × Int) × (Int × (Bool × (Int × Int))))) × (List (((Int × Int) × Int)) × List ((Int × Int))))) × Int) :=
  Option.bind (r26 (a.1, a.2.1, a.2.2.1)) fun (y1 : Int) =>
    bif !(decide (y1 = (0 : Int))) then
      some (([], ([], ([], []))), y1)
    else
      Option.bind (
        Option.bind (
          bif !(decide (a.2.2.2.1 < (0 : Int))) then
            some (decide ((1073741824 : Int) < a.2.2.2.1))
          else
            some true) fun (g6 : Bool) =>
          Option.bind (
            bif !(g6) then
              some (decide (a.2.2.2.2 < (0 : Int)))
            else
              some true) fun (g7 : Bool) =>
            bif !(g7) then
              some (decide ((1048576 : Int) < a.2.2.2.2))
            else
              some true) fun (d8 : Bool) =>
        bif d8 then
          some (([], ([], ([], []))), (2 : Int))
        else
          Option.bind (r27 (a.1, a.2.1, a.2.2.1)) fun (y9 : Int) =>
            Option.bind (
              Option.bind (r28 (a.1.2.2.2, a.2.1)) fun (y14 : Bool) =>
                bif y14 then
                  some y14
                else
                  bif decide ((0 : Int) ≤ y9) then
                    Option.bind (idxI a.1.2.1 y9) fun (b15 : ((Int × Int) × (Int × (Bool × (Int × Int))))) =>
                      some (decide (a.2.2.2.2 < b15.2.2.2.2))
                  else
                    some false) fun (d16 : Bool) =>
              bif d16 then
                some (([], ([], ([], []))), (13 : Int))
              else
                Option.bind (r29 (a.1, a.2.1, a.2.2.1, true)) fun (y17 : Bool) =>
                  bif y17 then
                    some (([], ([], ([], []))), (11 : Int))
                  else
                    Option.bind (
                      Option.bind (
                        bif decide (y9 < (0 : Int)) then
                          some (decide ((↑a.1.2.1.length : Int) = (24 : Int)))
                        else
                          some false) fun (d22 : Bool) =>
                        bif d22 then
                          some d22
                        else
                          Option.bind (r30 (a.1, a.2.2.1)) fun (y23 : (Int × (Int × Int))) =>
                            some (decide (y23.2.2 = (1048576 : Int)))) fun (d24 : Bool) =>
                      bif d24 then
                        some (([], ([], ([], []))), (8 : Int))
                      else
                        Option.bind (r31 a.1) fun (y25 : (List ((Int × (Int × Int))) × (List (((Int × Int) × (Int × (Bool × (Int × Int))))) × (List (((Int × Int) × Int)) × List ((Int × Int)))))) =>
                          Option.bind (
                            bif decide (y9 < (0 : Int)) then
                              bif roomOk false y25.2.1.length 1 48 then
                                some ((), (y25.1, (app y25.2.1 [(a.2.1, (a.2.2.1, (true, a.2.2.2)))], y25.2.2)))
                              else
                                none
                            else
                              bif inB y9 y25.2.1.length then
                                Option.bind (idxN y25.2.1 (Int.toNat y9)) fun (_ : ((Int × Int) × (Int × (Bool × (Int × Int))))) =>
                                  some ((), (y25.1, (List.set y25.2.1 (Int.toNat y9) (a.2.1, (a.2.2.1, (true, a.2.2.2))), y25.2.2)))
                              else
                                none) fun (d29 : (Unit × (List ((Int × (Int × Int))) × (List (((Int × Int) × (Int × (Bool × (Int × Int))))) × (List (((Int × Int) × Int)) × List ((Int × Int))))))) =>
                            Option.bind (r32 (d29.2, a.2.1)) fun (y30 : (List ((Int × (Int × Int))) × (List (((Int × Int) × (Int × (Bool × (Int × Int))))) × (List (((Int × Int) × Int)) × List ((Int × Int)))))) =>
                              some (y30, (0 : Int))
def an14 : Ann := .two (.leaf) (.two (.two (.leaf) (.two (.leaf) (.two (.two (.leaf) (.leaf)) (.leaf)))) (.two (.two (.join [2, 3, 4, 5, 6, 10] [5, 6, 10] [⟨.normal, [], [.tmp 37 (.bool)]⟩] (.segs [(6, ([2, 3, 4, 5, 6, 10], ([5, 6, 10], [.tmp 29 (.bool)]))), (4, ([2, 3, 4, 5, 6, 10], ([5, 6, 10], [.tmp 33 (.bool)])))])) (.two (.two (.leaf) (.leaf)) (.leaf))) (.two (.leaf) (.two (.one (.two (.join [2, 3, 4, 5, 6, 10, 13] [5, 6, 10] [⟨.normal, [], [.tmp 43 (.bool)]⟩] (.two (.leaf) (.two (.leaf) (.leaf)))) (.two (.two (.leaf) (.leaf)) (.two (.leaf) (.two (.two (.leaf) (.leaf)) (.two (.join [2, 3, 4, 5, 6, 10, 13] [5, 6, 10] [⟨.normal, [], [.tmp 67 (.bool)]⟩] (.two (.join [2, 3, 4, 5, 6, 10, 13] [5, 6, 10] [⟨.normal, [], [.tmp 67 (.bool)]⟩] (.leaf)) (.two (.leaf) (.leaf)))) (.two (.two (.leaf) (.leaf)) (.leaf)))))))) (.two (.leaf) (.two (.leaf) (.two (.join [6, 10] [6, 10] [⟨.normal, [], [.tmp 14 (.pt 14 [(0, 0)] 0 0 4), .box 14 [.sl .own (.pair (.int .i64) (.pair (.int .i64) (.int .i64))), .sl .own (.pair (.pair (.int .i64) (.int .i64)) (.pair (.int .i64) (.pair .bool (.pair (.int .i64) (.int .i64))))), .sl .own (.pair (.pair (.int .i64) (.int .i64)) (.int .i64)), .sl .own (.pair (.int .i64) (.int .i64))]]⟩] (.two (.leaf) (.two (.leaf) (.leaf)))) (.two (.leaf) (.two (.leaf) (.leaf))))))))))
theorem s14 : SoundF cx.P cx.G 14 sg14 r14 := by
  have e : denF cx [(26, ⟨sg26, r26⟩), (27, ⟨sg27, r27⟩), (28, ⟨sg28, r28⟩), (29, ⟨sg29, r29⟩), (30, ⟨sg30, r30⟩), (31, ⟨sg31, r31⟩), (32, ⟨sg32, r32⟩)] an14 Try.f14.ntmps (Try.f14.body.getD .skip) Try.f14.results.toList sg14 = r14 := by kernel_rfl
  rw [← e]
  exact sound_of_den (c := cx) (Known.cons (.ofF s26 (by kernel_rfl)) Try.func26 (by kernel_rfl) (by kernel_rfl) (Known.cons (.ofF s27 (by kernel_rfl)) Try.func27 (by kernel_rfl) (by kernel_rfl) (Known.cons (.ofF s28 (by kernel_rfl)) Try.func28 (by kernel_rfl) (by kernel_rfl) (Known.cons (.ofF s29 (by kernel_rfl)) Try.func29 (by kernel_rfl) (by kernel_rfl) (Known.cons (.ofF s30 (by kernel_rfl)) Try.func30 (by kernel_rfl) (by kernel_rfl) (Known.cons (.ofF s31 (by kernel_rfl)) Try.func31 (by kernel_rfl) (by kernel_rfl) (Known.cons (.ofM s32 (by kernel_rfl)) Try.func32 (by kernel_rfl) (by kernel_rfl) (Known.nil)))))))) Try.func14 (by kernel_rfl) (Nat.le_of_ble_eq_true (by kernel_rfl)) rfl

/-! reredos/store.Read -/
def sg17 : Sig := ⟨[⟨true, .bo, (.pair (.sl (.pair (.int .i64) (.pair (.int .i64) (.int .i64)))) (.pair (.sl (.pair (.pair (.int .i64) (.int .i64)) (.pair (.int .i64) (.pair .bool (.pair (.int .i64) (.int .i64)))))) (.pair (.sl (.pair (.pair (.int .i64) (.int .i64)) (.int .i64))) (.sl (.pair (.int .i64) (.int .i64))))))⟩, ⟨true, .bo, (.pair (.int .i64) (.int .i64))⟩, ⟨false, .bo, (.int .i64)⟩], [⟨true, .own, (.pair (.sl (.pair (.int .i64) (.pair (.int .i64) (.int .i64)))) (.pair (.sl (.pair (.pair (.int .i64) (.int .i64)) (.pair (.int .i64) (.pair .bool (.pair (.int .i64) (.int .i64)))))) (.pair (.sl (.pair (.pair (.int .i64) (.int .i64)) (.int .i64))) (.sl (.pair (.int .i64) (.int .i64))))))⟩, ⟨false, .own, (.int .i64)⟩, ⟨false, .own, (.int .i64)⟩, ⟨false, .own, (.int .i64)⟩]⟩
noncomputable def r17 (a : ((List ((Int × (Int × Int))) × (List (((Int × Int) × (Int × (Bool × (Int × Int))))) × (List (((Int × Int) × Int)) × List ((Int × Int))))) × ((Int × Int) × Int))) : Option ((List ((Int × (Int × Int))) × (List (((Int × Int) × (Int × (Bool × (Int × Int))))) × (List (((Int × Int) × Int)) × List ((Int × Int))))) × (Int × (Int × Int))) :=
  Option.bind (r26 (a.1, a.2.1, a.2.2)) fun (y1 : Int) =>
    bif !(decide (y1 = (0 : Int))) then
      some (([], ([], ([], []))), ((0 : Int), ((0 : Int), y1)))
    else
      Option.bind (r30 (a.1, a.2.2)) fun (y2 : (Int × (Int × Int))) =>
        Option.bind (r27 (a.1, a.2.1, a.2.2)) fun (y3 : Int) =>
          bif decide ((0 : Int) ≤ y3) then
            Option.bind (idxI a.1.2.1 y3) fun (b4 : ((Int × Int) × (Int × (Bool × (Int × Int))))) =>
              bif b4.2.2.1 then
                Option.bind (
                  Option.bind (r31 a.1) fun (y31 : (List ((Int × (Int × Int))) × (List (((Int × Int) × (Int × (Bool × (Int × Int))))) × (List (((Int × Int) × Int)) × List ((Int × Int)))))) =>
                    Option.bind (idxI a.1.2.1 y3) fun (b32 : ((Int × Int) × (Int × (Bool × (Int × Int))))) =>
                      
                        some ((), (b32.2.2.2.1, (y2.2.2, ((0 : Int), y31))))) fun (d51 : (Unit × (Int × (Int × (Int × (List ((Int × (Int × Int))) × (List (((Int × Int) × (Int × (Bool × (Int × Int))))) × (List (((Int × Int) × Int)) × List ((Int × Int)))))))))) =>
                  some (d51.2.2.2.2, (d51.2.1, (d51.2.2.1, d51.2.2.2.1)))
              else
                Option.bind (
                  Option.bind (r31 a.1) fun (y56 : (List ((Int × (Int × Int))) × (List (((Int × Int) × (Int × (Bool × (Int × Int))))) × (List (((Int × Int) × Int)) × List ((Int × Int)))))) =>
                    
                      some ((), (y2.2.1, (y2.2.2, ((0 : Int), y56))))) fun (d57 : (Unit × (Int × (Int × (Int × (List ((Int × (Int × Int))) × (List (((Int × Int) × (Int × (Bool × (Int × Int))))) × (List (((Int × Int) × Int)) × List ((Int × Int)))))))))) =>
                  some (d57.2.2.2.2, (d57.2.1, (d57.2.2.1, d57.2.2.2.1)))
          else
            Option.bind (r28 (a.1.2.2.2, a.2.1)) fun (y58 : Bool) =>
              bif y58 then
                some (([], ([], ([], []))), ((0 : Int), ((0 : Int), (13 : Int))))
              else
                Option.bind (r29 (a.1, a.2.1, a.2.2, false)) fun (y59 : Bool) =>
                  bif y59 then
                    some (([], ([], ([], []))), ((0 : Int), ((0 : Int), (11 : Int))))
                  else
                    bif decide ((↑a.1.2.1.length : Int) = (24 : Int)) then
                      some (([], ([], ([], []))), ((0 : Int), ((0 : Int), (8 : Int))))
                    else
                      Option.bind (r31 a.1) fun (y60 : (List ((Int × (Int × Int))) × (List (((Int × Int) × (Int × (Bool × (Int × Int))))) × (List (((Int × Int) × Int)) × List ((Int × Int)))))) =>
                        bif roomOk false y60.2.1.length 1 48 then
                          Option.bind (r32 ((y60.1, (app y60.2.1 [(a.2.1, (a.2.2, (false, ((0 : Int), (0 : Int)))))], y60.2.2)), a.2.1)) fun (y61 : (List ((Int × (Int × Int))) × (List (((Int × Int) × (Int × (Bool × (Int × Int))))) × (List (((Int × Int) × Int)) × List ((Int × Int)))))) =>
                            Option.bind (
                              
                                some ((), (y2.2.1, (y2.2.2, ((0 : Int), y61))))) fun (d62 : (Unit × (Int × (Int × (Int × (List ((Int × (Int × Int))) × (List (((Int × Int) × (Int × (Bool × (Int × Int))))) × (List (((Int × Int) × Int)) × List ((Int × Int)))))))))) =>
                              some (d62.2.2.2.2, (d62.2.1, (d62.2.2.1, d62.2.2.2.1)))
                        else
                          none
noncomputable def r17q : ((List ((Int × (Int × Int))) × (List (((Int × Int) × (Int × (Bool × (Int × Int))))) × (List (((Int × Int) × Int)) × List ((Int × Int))))) × ((Int × Int) × Int)) → Option ((List ((Int × (Int × Int))) × (List (((Int × Int) × (Int × (Bool × (Int × Int))))) × (List (((Int × Int) × Int)) × List ((Int × Int))))) × (Int × (Int × Int))) := fun a =>
  Option.bind (r26 (a.1, a.2.1, a.2.2)) fun (y1 : Int) =>
    bif !(decide (y1 = (0 : Int))) then
      some (([], ([], ([], []))), ((0 : Int), ((0 : Int), y1)))
    else
      Option.bind (r30 (a.1, a.2.2)) fun (y2 : (Int × (Int × Int))) =>
        Option.bind (r27 (a.1, a.2.1, a.2.2)) fun (y3 : Int) =>
          bif decide ((0 : Int) ≤ y3) then
            Option.bind (idxI a.1.2.1 y3) fun (b4 : ((Int × Int) × (Int × (Bool × (Int × Int))))) =>
              bif b4.2.2.1 then
                Option.bind (
                  Option.bind (r31 a.1) fun (y31 : (List ((Int × (Int × Int))) × (List (((Int × Int) × (Int × (Bool × (Int × Int))))) × (List (((Int × Int) × Int)) × List ((Int × Int)))))) =>
                    Option.bind (idxI a.1.2.1 y3) fun (b32 : ((Int × Int) × (Int × (Bool × (Int × Int))))) =>
                      sameR (
                        some ((), (b32.2.2.2.1, (y2.2.2, ((0 : Int), y31)))))
 (
                        sameR (
                          sameR (
                            some ((), (b32.2.2.2.1, (y2.2.2, ((0 : Int), y31)))))
 (
                            some ((), (b32.2.2.2.1, (y2.2.2, ((0 : Int), y31))))))
 (
                          sameR (
                            sameR (
                              some ((), (b32.2.2.2.1, (y2.2.2, ((0 : Int), y31)))))
 (
                              sameR (
                                some ((), (b32.2.2.2.1, (y2.2.2, ((0 : Int), y31)))))
 (
                                some ((), (b32.2.2.2.1, (y2.2.2, ((0 : Int), y31)))))))
 (
                            sameR (
                              some ((), (b32.2.2.2.1, (y2.2.2, ((0 : Int), y31)))))
 (
                              sameR (
                                sameR (
                                  some ((), (b32.2.2.2.1, (y2.2.2, ((0 : Int), y31)))))
 (
                                  some ((), (b32.2.2.2.1, (y2.2.2, ((0 : Int), y31))))))
 (
                                sameR (
                                  sameR (
                                    some ((), (b32.2.2.2.1, (y2.2.2, ((0 : Int), y31)))))
 (
                                    sameR (
                                      some ((), (b32.2.2.2.1, (y2.2.2, ((0 : Int), y31)))))
 (
                                      some ((), (b32.2.2.2.1, (y2.2.2, ((0 : Int), y31)))))))
 (
                                  sameR (
                                    some ((), (b32.2.2.2.1, (y2.2.2, ((0 : Int), y31)))))
 (
                                    sameR (
                                      sameR (
                                        some ((), (b32.2.2.2.1, (y2.2.2, ((0 : Int), y31)))))
 (
                                        some ((), (b32.2.2.2.1, (y2.2.2, ((0 : Int), y31))))))
 (
                                      sameR (
                                        sameR (
                                          some ((), (b32.2.2.2.1, (y2.2.2, ((0 : Int), y31)))))
 (
                                          sameR (
                                            some ((), (b32.2.2.2.1, (y2.2.2, ((0 : Int), y31)))))
 (
                                            some ((), (b32.2.2.2.1, (y2.2.2, ((0 : Int), y31)))))))
 (
                                        sameR (
                                          Option.bind (idxI a.1.2.1 y3) fun (b33 : ((Int × Int) × (Int × (Bool × (Int × Int))))) =>
                                            some ((), (b33.2.2.2.1, (y2.2.2, ((0 : Int), y31)))))
 (
                                          sameR (
                                            Option.bind (idxI a.1.2.1 y3) fun (b34 : ((Int × Int) × (Int × (Bool × (Int × Int))))) =>
                                              sameR (
                                                some ((), (b34.2.2.2.1, (y2.2.2, ((0 : Int), y31)))))
 (
                                                some ((), (b34.2.2.2.1, (y2.2.2, ((0 : Int), y31))))))
 (
                                            sameR (
                                              Option.bind (idxI a.1.2.1 y3) fun (b35 : ((Int × Int) × (Int × (Bool × (Int × Int))))) =>
                                                sameR (
                                                  some ((), (b35.2.2.2.1, (y2.2.2, ((0 : Int), y31)))))
 (
                                                  sameR (
                                                    some ((), (b35.2.2.2.1, (y2.2.2, ((0 : Int), y31)))))
 (
                                                    some ((), (b35.2.2.2.1, (y2.2.2, ((0 : Int), y31)))))))
 (
                                              sameR (
                                                Option.bind (idxI a.1.2.1 y3) fun (b36 : ((Int × Int) × (Int × (Bool × (Int × Int))))) =>
                                                  some ((), (b36.2.2.2.1, (y2.2.2, ((0 : Int), y31)))))
 (
                                                sameR (
                                                  Option.bind (idxI a.1.2.1 y3) fun (b37 : ((Int × Int) × (Int × (Bool × (Int × Int))))) =>
                                                    sameR (
                                                      some ((), (b37.2.2.2.1, (y2.2.2, ((0 : Int), y31)))))
 (
                                                      some ((), (b37.2.2.2.1, (y2.2.2, ((0 : Int), y31))))))
 (
                                                  sameR (
                                                    Option.bind (idxI a.1.2.1 y3) fun (b38 : ((Int × Int) × (Int × (Bool × (Int × Int))))) =>
                                                      sameR (
                                                        some ((), (b38.2.2.2.1, (y2.2.2, ((0 : Int), y31)))))
 (
                                                        sameR (
                                                          some ((), (b38.2.2.2.1, (y2.2.2, ((0 : Int), y31)))))
 (
                                                          some ((), (b38.2.2.2.1, (y2.2.2, ((0 : Int), y31)))))))
 (
                                                    sameR (
                                                      Option.bind (idxI a.1.2.1 y3) fun (b39 : ((Int × Int) × (Int × (Bool × (Int × Int))))) =>
                                                        some ((), (b39.2.2.2.1, (y2.2.2, ((0 : Int), y31)))))
 (
                                                      sameR (
                                                        Option.bind (idxI a.1.2.1 y3) fun (b40 : ((Int × Int) × (Int × (Bool × (Int × Int))))) =>
                                                          sameR (
                                                            some ((), (b40.2.2.2.1, (y2.2.2, ((0 : Int), y31)))))
 (
                                                            some ((), (b40.2.2.2.1, (y2.2.2, ((0 : Int), y31))))))
 (
                                                        sameR (
                                                          Option.bind (idxI a.1.2.1 y3) fun (b41 : ((Int × Int) × (Int × (Bool × (Int × Int))))) =>
                                                            sameR (
                                                              some ((), (b41.2.2.2.1, (y2.2.2, ((0 : Int), y31)))))
 (
                                                              sameR (
                                                                some ((), (b41.2.2.2.1, (y2.2.2, ((0 : Int), y31)))))
 (
                                                                some ((), (b41.2.2.2.1, (y2.2.2, ((0 : Int), y31)))))))
 (
                                                          sameR (
                                                            Option.bind (idxI a.1.2.1 y3) fun (b42 : ((Int × Int) × (Int × (Bool × (Int × Int))))) =>
                                                              some ((), (b42.2.2.2.1, (y2.2.2, ((0 : Int), y31)))))
 (
                                                            sameR (
                                                              Option.bind (idxI a.1.2.1 y3) fun (b43 : ((Int × Int) × (Int × (Bool × (Int × Int))))) =>
                                                                sameR (
                                                                  some ((), (b43.2.2.2.1, (y2.2.2, ((0 : Int), y31)))))
 (
                                                                  some ((), (b43.2.2.2.1, (y2.2.2, ((0 : Int), y31))))))
 (
                                                              sameR (
                                                                Option.bind (idxI a.1.2.1 y3) fun (b44 : ((Int × Int) × (Int × (Bool × (Int × Int))))) =>
                                                                  sameR (
                                                                    some ((), (b44.2.2.2.1, (y2.2.2, ((0 : Int), y31)))))
 (
                                                                    sameR (
                                                                      some ((), (b44.2.2.2.1, (y2.2.2, ((0 : Int), y31)))))
 (
                                                                      some ((), (b44.2.2.2.1, (y2.2.2, ((0 : Int), y31)))))))
 (
                                                                sameR (
                                                                  Option.bind (idxI a.1.2.1 y3) fun (b45 : ((Int × Int) × (Int × (Bool × (Int × Int))))) =>
                                                                    some ((), (b45.2.2.2.1, (y2.2.2, ((0 : Int), y31)))))
 (
                                                                  sameR (
                                                                    Option.bind (idxI a.1.2.1 y3) fun (b46 : ((Int × Int) × (Int × (Bool × (Int × Int))))) =>
                                                                      sameR (
                                                                        some ((), (b46.2.2.2.1, (y2.2.2, ((0 : Int), y31)))))
 (
                                                                        some ((), (b46.2.2.2.1, (y2.2.2, ((0 : Int), y31))))))
 (
                                                                    sameR (
                                                                      Option.bind (idxI a.1.2.1 y3) fun (b47 : ((Int × Int) × (Int × (Bool × (Int × Int))))) =>
                                                                        sameR (
                                                                          some ((), (b47.2.2.2.1, (y2.2.2, ((0 : Int), y31)))))
 (
                                                                          sameR (
                                                                            some ((), (b47.2.2.2.1, (y2.2.2, ((0 : Int), y31)))))
 (
                                                                            some ((), (b47.2.2.2.1, (y2.2.2, ((0 : Int), y31)))))))
 (
                                                                      sameR (
                                                                        Option.bind (idxI a.1.2.1 y3) fun (b48 : ((Int × Int) × (Int × (Bool × (Int × Int))))) =>
                                                                          some ((), (b48.2.2.2.1, (y2.2.2, ((0 : Int), y31)))))
 (
                                                                        sameR (
                                                                          Option.bind (idxI a.1.2.1 y3) fun (b49 : ((Int × Int) × (Int × (Bool × (Int × Int))))) =>
                                                                            sameR (
                                                                              some ((), (b49.2.2.2.1, (y2.2.2, ((0 : Int), y31)))))
 (
                                                                              some ((), (b49.2.2.2.1, (y2.2.2, ((0 : Int), y31))))))
 (
                                                                          Option.bind (idxI a.1.2.1 y3) fun (b50 : ((Int × Int) × (Int × (Bool × (Int × Int))))) =>
                                                                            sameR (
                                                                              some ((), (b50.2.2.2.1, (y2.2.2, ((0 : Int), y31)))))
 (
                                                                              sameR (
                                                                                some ((), (b50.2.2.2.1, (y2.2.2, ((0 : Int), y31)))))
 (
                                                                                some ((), (b50.2.2.2.1, (y2.2.2, ((0 : Int), y31))))))))))))))))))))))))))))))))) fun (d51 : (Unit × (Int × (Int × (Int × (List ((Int × (Int × Int))) × (List (((Int × Int) × (Int × (Bool × (Int × Int))))) × (List (((Int × Int) × Int)) × List ((Int × Int)))))))))) =>
                  some (d51.2.2.2.2, (d51.2.1, (d51.2.2.1, d51.2.2.2.1)))
              else
                Option.bind (
                  Option.bind (r31 a.1) fun (y56 : (List ((Int × (Int × Int))) × (List (((Int × Int) × (Int × (Bool × (Int × Int))))) × (List (((Int × Int) × Int)) × List ((Int × Int)))))) =>
                    sameR (
                      some ((), (y2.2.1, (y2.2.2, ((0 : Int), y56)))))
 (
                      sameR (
                        sameR (
                          some ((), (y2.2.1, (y2.2.2, ((0 : Int), y56)))))
 (
                          some ((), (y2.2.1, (y2.2.2, ((0 : Int), y56))))))
 (
                        sameR (
                          sameR (
                            some ((), (y2.2.1, (y2.2.2, ((0 : Int), y56)))))
 (
                            sameR (
                              some ((), (y2.2.1, (y2.2.2, ((0 : Int), y56)))))
 (
                              some ((), (y2.2.1, (y2.2.2, ((0 : Int), y56)))))))
 (
                          sameR (
                            some ((), (y2.2.1, (y2.2.2, ((0 : Int), y56)))))
 (
                            sameR (
                              sameR (
                                some ((), (y2.2.1, (y2.2.2, ((0 : Int), y56)))))
 (
                                some ((), (y2.2.1, (y2.2.2, ((0 : Int), y56))))))
 (
                              sameR (
                                sameR (
                                  some ((), (y2.2.1, (y2.2.2, ((0 : Int), y56)))))
 (
                                  sameR (
                                    some ((), (y2.2.1, (y2.2.2, ((0 : Int), y56)))))
 (
                                    some ((), (y2.2.1, (y2.2.2, ((0 : Int), y56)))))))
 (
                                sameR (
                                  some ((), (y2.2.1, (y2.2.2, ((0 : Int), y56)))))
 (
                                  sameR (
                                    sameR (
                                      some ((), (y2.2.1, (y2.2.2, ((0 : Int), y56)))))
 (
                                      some ((), (y2.2.1, (y2.2.2, ((0 : Int), y56))))))
 (
                                    sameR (
                                      some ((), (y2.2.1, (y2.2.2, ((0 : Int), y56)))))
 (
                                      sameR (
                                        some ((), (y2.2.1, (y2.2.2, ((0 : Int), y56)))))
 (
                                        some ((), (y2.2.1, (y2.2.2, ((0 : Int), y56))))))))))))))) fun (d57 : (Unit × (Int × (Int × (Int × (List ((Int × (Int × Int))) × (List (((Int × Int) × (Int × (Bool × (Int × Int))))) × (List (((Int × Int) × Int)) × List ((Int × Int)))))))))) =>
                  some (d57.2.2.2.2, (d57.2.1, (d57.2.2.1, d57.2.2.2.1)))
          else
            Option.bind (r28 (a.1.2.2.2, a.2.1)) fun (y58 : Bool) =>
              bif y58 then
                some (([], ([], ([], []))), ((0 : Int), ((0 : Int), (13 : Int))))
              else
                Option.bind (r29 (a.1, a.2.1, a.2.2, false)) fun (y59 : Bool) =>
                  bif y59 then
                    some (([], ([], ([], []))), ((0 : Int), ((0 : Int), (11 : Int))))
                  else
                    bif decide ((↑a.1.2.1.length : Int) = (24 : Int)) then
                      some (([], ([], ([], []))), ((0 : Int), ((0 : Int), (8 : Int))))
                    else
                      Option.bind (r31 a.1) fun (y60 : (List ((Int × (Int × Int))) × (List (((Int × Int) × (Int × (Bool × (Int × Int))))) × (List (((Int × Int) × Int)) × List ((Int × Int)))))) =>
                        bif roomOk false y60.2.1.length 1 48 then
                          Option.bind (r32 ((y60.1, (app y60.2.1 [(a.2.1, (a.2.2, (false, ((0 : Int), (0 : Int)))))], y60.2.2)), a.2.1)) fun (y61 : (List ((Int × (Int × Int))) × (List (((Int × Int) × (Int × (Bool × (Int × Int))))) × (List (((Int × Int) × Int)) × List ((Int × Int)))))) =>
                            Option.bind (
                              sameR (
                                some ((), (y2.2.1, (y2.2.2, ((0 : Int), y61)))))
 (
                                sameR (
                                  sameR (
                                    some ((), (y2.2.1, (y2.2.2, ((0 : Int), y61)))))
 (
                                    some ((), (y2.2.1, (y2.2.2, ((0 : Int), y61))))))
 (
                                  sameR (
                                    sameR (
                                      some ((), (y2.2.1, (y2.2.2, ((0 : Int), y61)))))
 (
                                      sameR (
                                        some ((), (y2.2.1, (y2.2.2, ((0 : Int), y61)))))
 (
                                        some ((), (y2.2.1, (y2.2.2, ((0 : Int), y61)))))))
 (
                                    sameR (
                                      some ((), (y2.2.1, (y2.2.2, ((0 : Int), y61)))))
 (
                                      sameR (
                                        sameR (
                                          some ((), (y2.2.1, (y2.2.2, ((0 : Int), y61)))))
 (
                                          some ((), (y2.2.1, (y2.2.2, ((0 : Int), y61))))))
 (
                                        sameR (
                                          sameR (
                                            some ((), (y2.2.1, (y2.2.2, ((0 : Int), y61)))))
 (
                                            sameR (
                                              some ((), (y2.2.1, (y2.2.2, ((0 : Int), y61)))))
 (
                                              some ((), (y2.2.1, (y2.2.2, ((0 : Int), y61)))))))
 (
                                          sameR (
                                            some ((), (y2.2.1, (y2.2.2, ((0 : Int), y61)))))
 (
                                            sameR (
                                              sameR (
                                                some ((), (y2.2.1, (y2.2.2, ((0 : Int), y61)))))
 (
                                                some ((), (y2.2.1, (y2.2.2, ((0 : Int), y61))))))
 (
                                              sameR (
                                                some ((), (y2.2.1, (y2.2.2, ((0 : Int), y61)))))
 (
                                                sameR (
                                                  some ((), (y2.2.1, (y2.2.2, ((0 : Int), y61)))))
 (
                                                  some ((), (y2.2.1, (y2.2.2, ((0 : Int), y61))))))))))))))) fun (d62 : (Unit × (Int × (Int × (Int × (List ((Int × (Int × Int))) × (List (((Int × Int) × (Int × (Bool × (Int × Int))))) × (List (((Int × Int) × Int)) × List ((Int × Int)))))))))) =>
                              some (d62.2.2.2.2, (d62.2.1, (d62.2.2.1, d62.2.2.2.1)))
                        else
                          none
theorem r17e : r17q = r17 := by unfold r17q r17; simp only [sameR_self, sameR_dup, sameR_bind]
def an17 : Ann := .two (.leaf) (.two (.two (.leaf) (.two (.leaf) (.two (.two (.leaf) (.leaf)) (.leaf)))) (.two (.leaf) (.two (.two (.leaf) (.two (.leaf) (.two (.two (.two (.leaf) (.two (.two (.join [] [] [⟨.normal, [], [.tmp 6 (.pt 6 [(0, 0)] 0 0 4), .tmp 7 (.int .i64), .tmp 8 (.int .i64), .tmp 9 (.int .i64), .box 6 [.sl .own (.pair (.int .i64) (.pair (.int .i64) (.int .i64))), .sl .own (.pair (.pair (.int .i64) (.int .i64)) (.pair (.int .i64) (.pair .bool (.pair (.int .i64) (.int .i64))))), .sl .own (.pair (.pair (.int .i64) (.int .i64)) (.int .i64)), .sl .own (.pair (.int .i64) (.int .i64))]]⟩] (.stages [0, 1, 2, 3, 4, 5, 6, 7, 8, 9])) (.leaf)) (.leaf))) (.two (.join [] [] [⟨.normal, [], [.tmp 6 (.pt 6 [(0, 0)] 0 0 4), .tmp 7 (.int .i64), .tmp 8 (.int .i64), .tmp 9 (.int .i64), .box 6 [.sl .own (.pair (.int .i64) (.pair (.int .i64) (.int .i64))), .sl .own (.pair (.pair (.int .i64) (.int .i64)) (.pair (.int .i64) (.pair .bool (.pair (.int .i64) (.int .i64))))), .sl .own (.pair (.pair (.int .i64) (.int .i64)) (.int .i64)), .sl .own (.pair (.int .i64) (.int .i64))]]⟩] (.stages [0, 1, 2, 3, 4, 5])) (.leaf))) (.leaf)))) (.two (.one (.two (.leaf) (.two (.two (.leaf) (.leaf)) (.two (.leaf) (.two (.two (.leaf) (.leaf)) (.two (.leaf) (.two (.two (.leaf) (.leaf)) (.leaf)))))))) (.two (.leaf) (.two (.leaf) (.two (.leaf) (.two (.join [] [] [⟨.normal, [], [.tmp 6 (.pt 6 [(0, 0)] 0 0 4), .tmp 7 (.int .i64), .tmp 8 (.int .i64), .tmp 9 (.int .i64), .box 6 [.sl .own (.pair (.int .i64) (.pair (.int .i64) (.int .i64))), .sl .own (.pair (.pair (.int .i64) (.int .i64)) (.pair (.int .i64) (.pair .bool (.pair (.int .i64) (.int .i64))))), .sl .own (.pair (.pair (.int .i64) (.int .i64)) (.int .i64)), .sl .own (.pair (.int .i64) (.int .i64))]]⟩] (.stages [0, 1, 2, 3, 4])) (.leaf)))))))))
theorem s17 : SoundF cx.P cx.G 17 sg17 r17 := by
  have e : denF cx [(26, ⟨sg26, r26⟩), (27, ⟨sg27, r27⟩), (28, ⟨sg28, r28⟩), (29, ⟨sg29, r29⟩), (30, ⟨sg30, r30⟩), (31, ⟨sg31, r31⟩), (32, ⟨sg32, r32⟩)] an17 Try.f17.ntmps (Try.f17.body.getD .skip) Try.f17.results.toList sg17 = r17q := by kernel_rfl
  rw [← r17e, ← e]
  exact sound_of_den (c := cx) (Known.cons (.ofF s26 (by kernel_rfl)) Try.func26 (by kernel_rfl) (by kernel_rfl) (Known.cons (.ofF s27 (by kernel_rfl)) Try.func27 (by kernel_rfl) (by kernel_rfl) (Known.cons (.ofF s28 (by kernel_rfl)) Try.func28 (by kernel_rfl) (by kernel_rfl) (Known.cons (.ofF s29 (by kernel_rfl)) Try.func29 (by kernel_rfl) (by kernel_rfl) (Known.cons (.ofF s30 (by kernel_rfl)) Try.func30 (by kernel_rfl) (by kernel_rfl) (Known.cons (.ofF s31 (by kernel_rfl)) Try.func31 (by kernel_rfl) (by kernel_rfl) (Known.cons (.ofM s32 (by kernel_rfl)) Try.func32 (by kernel_rfl) (by kernel_rfl) (Known.nil)))))))) Try.func17 (by kernel_rfl) (Nat.le_of_ble_eq_true (by kernel_rfl)) rfl

/-! slices.Insert[[]reredos/api.Item,reredos/api.Item] -/
set_option maxRecDepth 20000 in
theorem ins37_none {w : World} {ad bd : Option Addr} {n cap j cv : Nat} {ei ti : TyInfo} {e : TypeId} (hi : TyOk1 Try.prog 23 ti) (hd : ti.d = .sl e) (hei : TyOk1 Try.prog e ei) (hjn : j ≤ n) (hnc : n ≤ cap) :
    Calls Try.prog 37 #[.slice ad n cap, iv j, .slice bd 0 cv] w fun e w' => e = .returned (.slice ad n cap) ∧ w' = w := by
  have s1 := fun w => raw_slice (P := Try.prog) hi hd hei (ad := ad) (n := n) (cap := cap) (l := j) (h := n) (lo := some (iv j)) (hh := none) (.inr rfl) (.inl ⟨rfl, rfl⟩) hjn hnc w
  simp only [iv] at s1 ⊢
  go_enter Try.func37, Try.f37
  go_wp
  go_ret
  exact ⟨rfl, rfl⟩

set_option maxRecDepth 20000 in
theorem ins37_end {w w1 : World} {ad bd : Option Addr} {n cap m cv : Nat} {v : Value} {ei ti : TyInfo} {e : TypeId} (hi : TyOk1 Try.prog 23 ti) (hd : ti.d = .sl e) (hei : TyOk1 Try.prog e ei) (hnc : n ≤ cap) (hm : 0 < m)
    (hap : (Builtin.append_ #[23, 23] 23 #[.slice ad n cap, .slice bd m cv]).run Try.prog w = .ok v w1) :
    Calls Try.prog 37 #[.slice ad n cap, iv n, .slice bd m cv] w fun e w' => e = .returned v ∧ w' = w1 := by
  obtain ⟨v12, s1⟩ : ∃ v12, ∀ w, (Instr.sliceAt 23 (.slice ad n cap) (some (iv n)) none none).run Try.prog w = .ok v12 w := ⟨_, fun w => raw_slice (P := Try.prog) hi hd hei (ad := ad) (n := n) (cap := cap) (l := n) (h := n) (lo := some (iv n)) (hh := none) (.inr rfl) (.inl ⟨rfl, rfl⟩) (Nat.le_refl _) hnc w⟩
  simp only [iv] at s1 ⊢
  have hm0 : ¬ (m : Int) = 0 := by omega
  go_enter Try.func37, Try.f37
  go_wp2_with (at_builtin; refine wpList_val rfl (v := v) (w' := w1) (by simp [execOp, resolve, invoke, builtin, Act.eval, hap]) ?_)
  go_ret
  exact ⟨rfl, rfl⟩

set_option maxRecDepth 20000 in
theorem ins37_shift {w w2 w3 : World} {a66 av : Option Addr} {a76 : Option Addr} {b off n cap j m cv l66 c66 l76 c76 : Nat} {ei ti : TyInfo} {e : TypeId} (hi : TyOk1 Try.prog 23 ti) (hd : ti.d = .sl e) (hei : TyOk1 Try.prog e ei) (hjn : j < n) (hnc : n ≤ cap) (hm : 0 < m) (hroom : n + m ≤ cap) (hbig : n + m ≤ 281474976710656)
    (h60 : (Instr.sliceAt 23 (.slice (some ⟨b, off, none⟩) n cap) none (some (iv (n + m))) none).run Try.prog w = .ok (.slice (some ⟨b, off, none⟩) (n + m) cap) w)
    (h66 : ∀ w, (Instr.sliceAt 23 (.slice (some ⟨b, off, none⟩) (n + m) cap) (some (iv (j + m))) none none).run Try.prog w = .ok (.slice a66 l66 c66) w)
    (h76 : ∀ w, (Instr.sliceAt 23 (.slice (some ⟨b, off, none⟩) (n + m) cap) (some (iv j)) none none).run Try.prog w = .ok (.slice a76 l76 c76) w)
    (hov : (callFunc 60 #[.slice av m cv, .slice a66 l66 c66]).run Try.prog w = .ok (.value (.bool false)) w)
    (hc1 : ∀ ty, (Builtin.copy_ #[23, 23] ty #[.slice a66 l66 c66, .slice a76 l76 c76]).run Try.prog { w with drawn := w.drawn + 1 } = .ok (goInt ((n - j : Nat) : Int)) w2)
    (hc2 : ∀ ty, (Builtin.copy_ #[23, 23] ty #[.slice a76 l76 c76, .slice av m cv]).run Try.prog w2 = .ok (goInt m) w3) :
    Calls Try.prog 37 #[.slice (some ⟨b, off, none⟩) n cap, iv j, .slice av m cv] w fun e w' => e = .returned (.slice (some ⟨b, off, none⟩) (n + m) cap) ∧ w' = w3 := by
  obtain ⟨v12, s1⟩ : ∃ v12, ∀ w, (Instr.sliceAt 23 (.slice (some ⟨b, off, none⟩) n cap) (some (iv j)) none none).run Try.prog w = .ok v12 w := ⟨_, fun w => raw_slice (P := Try.prog) hi hd hei (ad := some ⟨b, off, none⟩) (n := n) (cap := cap) (l := j) (h := n) (lo := some (iv j)) (hh := none) (.inr rfl) (.inl ⟨rfl, rfl⟩) (by omega) hnc w⟩
  have e1 : ((n + m : Nat) : Int) = (n : Int) + m := by omega
  have e2 : ((j + m : Nat) : Int) = (j : Int) + m := by omega
  simp only [iv, e1, e2] at s1 h60 h66 h76 ⊢
  have hm0 : ¬ (m : Int) = 0 := by omega
  have hjn0 : ¬ (j : Int) = n := by omega
  have hw1 : IntKind.i64.wrap ((n : Int) + m) = (n : Int) + m := by rw [← e1]; exact wrap_nat hbig
  have hw2 : IntKind.i64.wrap ((j : Int) + m) = (j : Int) + m := by rw [← e2]; exact wrap_nat (by omega)
  have hle : ¬ ((cap : Int) < (n : Int) + m) := by omega
  go_enter Try.func37, Try.f37
  go_wp2_with (simp only [hov])
  refine wp_drawn_pure (m := 8) (ks := [69, 70, 71, 72, 73, 74, 75, 76]) (vs := [.slice (some ⟨b, off, none⟩) (n + m) cap, .int .i64 j, .int .i64 m, .int .i64 ((j : Int) + m), .slice a66 l66 c66, .slice (some ⟨b, off, none⟩) (n + m) cap, .int .i64 j, .slice a76 l76 c76]) (by kernel_rfl) (by kernel_rfl) rfl rfl (by decide) (by simp) ?_ ?_
  · intro k ks v hk hv
    match k with
    | 0 => cases hk; cases hv; exact ⟨_, rfl, rfl, rfl, fun a' ho hd w' => by have e := ho 0 (by decide); simp at e; simp [execOp, Act.eval, e]⟩
    | 1 => cases hk; cases hv; exact ⟨_, rfl, rfl, rfl, fun a' ho hd w' => by have e := ho 1 (by decide); simp at e; simp [execOp, Act.eval, e]⟩
    | 2 => cases hk; cases hv; exact ⟨_, rfl, rfl, rfl, fun a' ho hd w' => by have e := ho 7 (by decide); simp at e; simp [execOp, Act.eval, e]⟩
    | 3 =>
      cases hk; cases hv
      exact ⟨_, rfl, rfl, rfl, fun a' ho hd w' => by
        have e0 := hd 1 70 _ ((mem_iff _ _).1 (by kernel_rfl)) rfl rfl
        have e1 := hd 2 71 _ ((mem_iff _ _).1 (by kernel_rfl)) rfl rfl
        simp [execOp, Act.eval, e0, e1, add_guard, add_run, hw2]⟩
    | 4 =>
      cases hk; cases hv
      exact ⟨_, rfl, rfl, rfl, fun a' ho hd w' => by
        have e0 := hd 0 69 _ ((mem_iff _ _).1 (by kernel_rfl)) rfl rfl
        have e1 := hd 3 72 _ ((mem_iff _ _).1 (by kernel_rfl)) rfl rfl
        simp [execOp, Act.eval, e0, e1, h66]⟩
    | 5 => cases hk; cases hv; exact ⟨_, rfl, rfl, rfl, fun a' ho hd w' => by have e := ho 0 (by decide); simp at e; simp [execOp, Act.eval, e]⟩
    | 6 => cases hk; cases hv; exact ⟨_, rfl, rfl, rfl, fun a' ho hd w' => by have e := ho 1 (by decide); simp at e; simp [execOp, Act.eval, e]⟩
    | 7 =>
      cases hk; cases hv
      exact ⟨_, rfl, rfl, rfl, fun a' ho hd w' => by
        have e0 := hd 5 74 _ ((mem_iff _ _).1 (by kernel_rfl)) rfl rfl
        have e1 := hd 6 75 _ ((mem_iff _ _).1 (by kernel_rfl)) rfl rfl
        simp [execOp, Act.eval, e0, e1, h76]⟩
    | k + 8 => simp at hk
  · simp only [Act.putAll, Act.put, List.drop_succ_cons, List.drop_zero]
    have hc1' := fun ty => (show (Builtin.copy_ #[23, 23] ty #[.slice a66 l66 c66, .slice a76 l76 c76]).run Try.prog w.drew = .ok (goInt ((n - j : Nat) : Int)) w2 from hc1 ty)
    refine wpList_val rfl (v := goInt ((n - j : Nat) : Int)) (w' := w2) (by simp [execOp, resolve, invoke, builtin, Act.eval, hc1']) ?_
    go_wp
    go_ret
    exact ⟨rfl, rfl⟩

set_option maxRecDepth 20000 in
theorem ins37_grow {w w1 w2 w3 : World} {av a34 a43 a50 a53 : Option Addr} {b off n cap j m cv l43 c43 l50 c50 l53 c53 l34 c34 newCap W : Nat} {ei ti : TyInfo} {e : TypeId} (_hi : TyOk1 Try.prog 23 ti) (_hd : ti.d = .sl e) (_hei : TyOk1 Try.prog e ei) (hjn : j < n) (_hnc : n ≤ cap) (hm : 0 < m) (hroom : cap < n + m) (hbig : n + m ≤ 281474976710656)
    (h34 : ∀ w, (Instr.sliceAt 23 (.slice (some ⟨b, off, none⟩) n cap) none (some (iv j)) none).run Try.prog w = .ok (.slice a34 l34 c34) w)
    (hap : (Builtin.append_ #[23, 3] 23 #[.slice a34 l34 c34, iv (n + m - j)]).run Try.prog w = .ok (.slice (some ⟨W, 0, none⟩) (n + m) newCap) w1)
    (h43 : ∀ w1, (Instr.sliceAt 23 (.slice (some ⟨W, 0, none⟩) (n + m) newCap) (some (iv j)) none none).run Try.prog w1 = .ok (.slice a43 l43 c43) w1)
    (h50 : ∀ w1, (Instr.sliceAt 23 (.slice (some ⟨W, 0, none⟩) (n + m) newCap) (some (iv (j + m))) none none).run Try.prog w1 = .ok (.slice a50 l50 c50) w1)
    (h53 : ∀ w1, (Instr.sliceAt 23 (.slice (some ⟨b, off, none⟩) n cap) (some (iv j)) none none).run Try.prog w1 = .ok (.slice a53 l53 c53) w1)
    (hc1 : ∀ ty, (Builtin.copy_ #[23, 23] ty #[.slice a43 l43 c43, .slice av m cv]).run Try.prog w1 = .ok (goInt m) w2)
    (hc2 : ∀ ty, (Builtin.copy_ #[23, 23] ty #[.slice a50 l50 c50, .slice a53 l53 c53]).run Try.prog { w2 with drawn := w2.drawn + 1 } = .ok (goInt ((n - j : Nat) : Int)) w3) :
    Calls Try.prog 37 #[.slice (some ⟨b, off, none⟩) n cap, iv j, .slice av m cv] w fun e w' => e = .returned (.slice (some ⟨W, 0, none⟩) (n + m) newCap) ∧ w' = w3 := by
  have e1 : ((n + m : Nat) : Int) = (n : Int) + m := by omega
  have e2 : ((j + m : Nat) : Int) = (j : Int) + m := by omega
  have e3 : ((n + m - j : Nat) : Int) = (n : Int) + m - j := by omega
  simp only [iv, e2, e3] at h34 hap h43 h50 h53 ⊢
  have hm0 : ¬ (m : Int) = 0 := by omega
  have hjn0 : ¬ (j : Int) = n := by omega
  have hw1 : IntKind.i64.wrap ((n : Int) + m) = (n : Int) + m := by rw [← e1]; exact wrap_nat hbig
  have hw2 : IntKind.i64.wrap ((j : Int) + m) = (j : Int) + m := by rw [← e2]; exact wrap_nat (by omega)
  have hw3 : IntKind.i64.wrap ((n : Int) + m - j) = (n : Int) + m - j := by rw [← e3]; exact wrap_nat (by omega)
  have hlt : ((cap : Int) < (n : Int) + m) := by omega
  go_enter Try.func37, Try.f37
  go_wp2_with (at_builtin; refine wpList_val rfl (v := .slice (some ⟨W, 0, none⟩) (n + m) newCap) (w' := w1) (by simp [execOp, resolve, invoke, builtin, Act.eval, hap]) ?_)
  refine wp_drawn_pure (m := 8) (ks := [46, 47, 48, 49, 50, 51, 52, 53]) (vs := [.slice (some ⟨W, 0, none⟩) (n + m) newCap, .int .i64 j, .int .i64 m, .int .i64 ((j : Int) + m), .slice a50 l50 c50, .slice (some ⟨b, off, none⟩) n cap, .int .i64 j, .slice a53 l53 c53]) (by kernel_rfl) (by kernel_rfl) rfl rfl (by decide) (by simp) ?_ ?_
  · intro k ks v hk hv
    match k with
    | 0 => cases hk; cases hv; exact ⟨_, rfl, rfl, rfl, fun a' ho hd w' => by have e := ho 9 (by decide); simp at e; simp [execOp, Act.eval, e]⟩
    | 1 => cases hk; cases hv; exact ⟨_, rfl, rfl, rfl, fun a' ho hd w' => by have e := ho 1 (by decide); simp at e; simp [execOp, Act.eval, e]⟩
    | 2 => cases hk; cases hv; exact ⟨_, rfl, rfl, rfl, fun a' ho hd w' => by have e := ho 7 (by decide); simp at e; simp [execOp, Act.eval, e]⟩
    | 3 =>
      cases hk; cases hv
      exact ⟨_, rfl, rfl, rfl, fun a' ho hd w' => by
        have e0 := hd 1 47 _ ((mem_iff _ _).1 (by kernel_rfl)) rfl rfl
        have e1 := hd 2 48 _ ((mem_iff _ _).1 (by kernel_rfl)) rfl rfl
        simp [execOp, Act.eval, e0, e1, add_guard, add_run, hw2]⟩
    | 4 =>
      cases hk; cases hv
      exact ⟨_, rfl, rfl, rfl, fun a' ho hd w' => by
        have e0 := hd 0 46 _ ((mem_iff _ _).1 (by kernel_rfl)) rfl rfl
        have e1 := hd 3 49 _ ((mem_iff _ _).1 (by kernel_rfl)) rfl rfl
        simp [execOp, Act.eval, e0, e1, h50]⟩
    | 5 => cases hk; cases hv; exact ⟨_, rfl, rfl, rfl, fun a' ho hd w' => by have e := ho 0 (by decide); simp at e; simp [execOp, Act.eval, e]⟩
    | 6 => cases hk; cases hv; exact ⟨_, rfl, rfl, rfl, fun a' ho hd w' => by have e := ho 1 (by decide); simp at e; simp [execOp, Act.eval, e]⟩
    | 7 =>
      cases hk; cases hv
      exact ⟨_, rfl, rfl, rfl, fun a' ho hd w' => by
        have e0 := hd 5 51 _ ((mem_iff _ _).1 (by kernel_rfl)) rfl rfl
        have e1 := hd 6 52 _ ((mem_iff _ _).1 (by kernel_rfl)) rfl rfl
        simp [execOp, Act.eval, e0, e1, h53]⟩
    | k + 8 => simp at hk
  · simp only [Act.putAll, Act.put, List.drop_succ_cons, List.drop_zero]
    have hc2' := fun ty => (show (Builtin.copy_ #[23, 23] ty #[.slice a50 l50 c50, .slice a53 l53 c53]).run Try.prog w2.drew = .ok (goInt ((n - j : Nat) : Int)) w3 from hc2 ty)
    refine wpList_val rfl (v := goInt ((n - j : Nat) : Int)) (w' := w3) (by simp [execOp, resolve, invoke, builtin, Act.eval, hc2']) ?_
    go_wp
    go_ret
    exact ⟨rfl, rfl⟩

set_option maxRecDepth 20000 in
theorem ins37 : InsOk Try.prog 37 23 3 60 4 where
  none := fun w ad bd n cap j cv h1 h2 => ins37_none (tysOk 23 ⟨.sl 68, 1, 24, [.slice none 0 0], false, [some (.pair (.int .i64) (.pair (.int .i64) (.int .i64)))], [none], (.sl (.pair (.int .i64) (.pair (.int .i64) (.int .i64))))⟩ (by kernel_rfl)) rfl (tysOk 68 ⟨.st [(0, 3), (1, 3), (2, 3)], 3, 24, [.int .i64 0, .int .i64 0, .int .i64 0], true, [none, none, none], [none, none, none], (.pair (.int .i64) (.pair (.int .i64) (.int .i64)))⟩ (by kernel_rfl)) h1 h2
  stop := fun w w1 ad bd n cap m cv v h1 h2 h3 => ins37_end (tysOk 23 ⟨.sl 68, 1, 24, [.slice none 0 0], false, [some (.pair (.int .i64) (.pair (.int .i64) (.int .i64)))], [none], (.sl (.pair (.int .i64) (.pair (.int .i64) (.int .i64))))⟩ (by kernel_rfl)) rfl (tysOk 68 ⟨.st [(0, 3), (1, 3), (2, 3)], 3, 24, [.int .i64 0, .int .i64 0, .int .i64 0], true, [none, none, none], [none, none, none], (.pair (.int .i64) (.pair (.int .i64) (.int .i64)))⟩ (by kernel_rfl)) h1 h2 h3
  shift := fun w w2 w3 a66 av a76 b off n cap j m cv l66 c66 l76 c76 h1 h2 h3 h4 h5 h6 h7 h8 h9 h10 h11 => ins37_shift (tysOk 23 ⟨.sl 68, 1, 24, [.slice none 0 0], false, [some (.pair (.int .i64) (.pair (.int .i64) (.int .i64)))], [none], (.sl (.pair (.int .i64) (.pair (.int .i64) (.int .i64))))⟩ (by kernel_rfl)) rfl (tysOk 68 ⟨.st [(0, 3), (1, 3), (2, 3)], 3, 24, [.int .i64 0, .int .i64 0, .int .i64 0], true, [none, none, none], [none, none, none], (.pair (.int .i64) (.pair (.int .i64) (.int .i64)))⟩ (by kernel_rfl)) h1 h2 h3 h4 h5 h6 h7 h8 h9 h10 h11
  grow := fun w w1 w2 w3 av a34 a43 a50 a53 b off n cap j m cv l43 c43 l50 c50 l53 c53 l34 c34 newCap W h1 h2 h3 h4 h5 h6 h7 h8 h9 h10 h11 h12 => ins37_grow (tysOk 23 ⟨.sl 68, 1, 24, [.slice none 0 0], false, [some (.pair (.int .i64) (.pair (.int .i64) (.int .i64)))], [none], (.sl (.pair (.int .i64) (.pair (.int .i64) (.int .i64))))⟩ (by kernel_rfl)) rfl (tysOk 68 ⟨.st [(0, 3), (1, 3), (2, 3)], 3, 24, [.int .i64 0, .int .i64 0, .int .i64 0], true, [none, none, none], [none, none, none], (.pair (.int .i64) (.pair (.int .i64) (.int .i64)))⟩ (by kernel_rfl)) h1 h2 h3 h4 h5 h6 h7 h8 h9 h10 h11 h12
  over := fun args w => run_callFunc_extern Try.func60 (by kernel_rfl) (by kernel_rfl) (by kernel_rfl) (e := Extern.SlicesOverlaps.overlaps #[23, 23] #[4]) (by kernel_rfl) args w
def sg37 : Sig := insS (.pair (.int .i64) (.pair (.int .i64) (.int .i64)))
noncomputable def r37 (a : List (Int × (Int × Int)) × (Int × List (Int × (Int × Int)))) : Option (List (Int × (Int × Int))) := insR 24 a
set_option maxRecDepth 20000 in
theorem s37 : SoundD cx.P 37 sg37 r37 := by
  have h : SoundD cx.P 37 (insS (.pair (.int .i64) (.pair (.int .i64) (.int .i64)))) (insR 24) := ins_sound (c := cx) (e := (.pair (.int .i64) (.pair (.int .i64) (.int .i64)))) (ei := ⟨.st [(0, 3), (1, 3), (2, 3)], 3, 24, [.int .i64 0, .int .i64 0, .int .i64 0], true, [none, none, none], [none, none, none], (.pair (.int .i64) (.pair (.int .i64) (.int .i64)))⟩) ins37 (tysOk 23 ⟨.sl 68, 1, 24, [.slice none 0 0], false, [some (.pair (.int .i64) (.pair (.int .i64) (.int .i64)))], [none], (.sl (.pair (.int .i64) (.pair (.int .i64) (.int .i64))))⟩ (by kernel_rfl)) (by kernel_rfl) (tysOk 68 ⟨.st [(0, 3), (1, 3), (2, 3)], 3, 24, [.int .i64 0, .int .i64 0, .int .i64 0], true, [none, none, none], [none, none, none], (.pair (.int .i64) (.pair (.int .i64) (.int .i64)))⟩ (by kernel_rfl)) (xt := 3) (kk := .i64) (by kernel_rfl) (by kernel_rfl) (by kernel_rfl) (by decide) (by decide) (by kernel_rfl)
  exact h

/-! reredos/store.End -/
noncomputable def r20_L0 (a : ((List ((Int × (Int × Int))) × (List (((Int × Int) × (Int × (Bool × (Int × Int))))) × (List (((Int × Int) × Int)) × List ((Int × Int))))) × ((Int × Int) × Bool))) (d44 : (Unit × (Int × (List ((Int × (Int × Int))) × (List (((Int × Int) × (Int × (Bool × (Int × Int))))) × (List (((Int × Int) × Int)) × List ((Int × Int)))))))) : Option ((Unit × (Int × (List ((Int × (Int × Int))) × (List (((Int × Int) × (Int × (Bool × (Int × Int))))) × (List (((Int × Int) × Int)) × List ((Int × Int))))))) ⊕ (Unit × (List ((Int × (Int × Int))) × (List (((Int × Int) × (Int × (Bool × (Int × Int))))) × (List (((Int × Int) × Int)) × List ((Int × Int))))))) :=
  bif decide (d44.2.1 < (↑a.1.2.1.length : Int)) then
    Option.bind (
      Option.bind (idxI a.1.2.1 d44.2.1) fun (b71 : ((Int × Int) × (Int × (Bool × (Int × Int))))) =>
        Option.bind (
          Option.bind (
            bif !(!((decide (b71.1.1 = a.2.1.1) && (decide (b71.1.2 = a.2.1.2) && true)))) then
              some !(b71.2.2.1)
            else
              some true) fun (g74 : Bool) =>
            bif !(g74) then
              some !(a.2.2)
            else
              some true) fun (d75 : Bool) =>
          bif d75 then
            some ((), d44.2.2)
          else
            Option.bind (r36 (d44.2.2.1, b71.2.1)) fun (y76 : (Int × Bool)) =>
              Option.bind (
                bif !(y76.2) then
                  Option.bind (r37 (d44.2.2.1, y76.1, [(b71.2.1, ((0 : Int), (0 : Int)))])) fun (y79 : List ((Int × (Int × Int)))) =>
                    some ((), (y79, d44.2.2.2))
                else
                  some ((), d44.2.2)) fun (d80 : (Unit × (List ((Int × (Int × Int))) × (List (((Int × Int) × (Int × (Bool × (Int × Int))))) × (List (((Int × Int) × Int)) × List ((Int × Int))))))) =>
                bif inB y76.1 d80.2.1.length then
                  Option.bind (idxN d80.2.1 (Int.toNat y76.1)) fun (x81 : (Int × (Int × Int))) =>
                    bif inB y76.1 ((List.set d80.2.1 (Int.toNat y76.1) (x81.1, (b71.2.2.2.1, x81.2.2))).length) then
                      Option.bind (idxN (List.set d80.2.1 (Int.toNat y76.1) (x81.1, (b71.2.2.2.1, x81.2.2))) (Int.toNat y76.1)) fun (x82 : (Int × (Int × Int))) =>
                        bif inB y76.1 ((List.set d80.2.1 (Int.toNat y76.1) (x81.1, (b71.2.2.2.1, x81.2.2))).length) then
                          Option.bind (idxN (List.set d80.2.1 (Int.toNat y76.1) (x81.1, (b71.2.2.2.1, x81.2.2))) (Int.toNat y76.1)) fun (x83 : (Int × (Int × Int))) =>
                            some ((), (List.set (List.set d80.2.1 (Int.toNat y76.1) (x81.1, (b71.2.2.2.1, x81.2.2))) (Int.toNat y76.1) (x83.1, (x83.2.1, (Go.IntKind.wrap .i64 (x82.2.2 + (1 : Int))))), d80.2.2))
                        else
                          none
                    else
                      none
                else
                  none) fun (d84 : (Unit × (List ((Int × (Int × Int))) × (List (((Int × Int) × (Int × (Bool × (Int × Int))))) × (List (((Int × Int) × Int)) × List ((Int × Int))))))) =>
      some (Sum.inl ((), ((Go.IntKind.wrap .i64 (d44.2.1 + (1 : Int))), d84.2)))
  else
    some (Sum.inr ((), d44.2.2))
noncomputable def r20_L1 (q85 : (Unit × (List ((Int × (Int × Int))) × (List (((Int × Int) × (Int × (Bool × (Int × Int))))) × (List (((Int × Int) × Int)) × List ((Int × Int))))))) (a : ((List ((Int × (Int × Int))) × (List (((Int × Int) × (Int × (Bool × (Int × Int))))) × (List (((Int × Int) × Int)) × List ((Int × Int))))) × ((Int × Int) × Bool))) (d162 : Int) : Option (Int ⊕ (Unit ⊕ Int)) :=
  bif decide (d162 < (↑q85.2.2.1.length : Int)) then
    bif inB d162 q85.2.2.1.length then
      Option.bind (idxN q85.2.2.1 (Int.toNat d162)) fun (x163 : ((Int × Int) × (Int × (Bool × (Int × Int))))) =>
        bif (decide (x163.1.1 = a.2.1.1) && (decide (x163.1.2 = a.2.1.2) && true)) then
          some (Sum.inr (Sum.inr d162))
        else
          some (Sum.inl (Go.IntKind.wrap .i64 (d162 + (1 : Int))))
    else
      none
  else
    some (Sum.inr (Sum.inl ()))
noncomputable def r20_L2 (a : ((List ((Int × (Int × Int))) × (List (((Int × Int) × (Int × (Bool × (Int × Int))))) × (List (((Int × Int) × Int)) × List ((Int × Int))))) × ((Int × Int) × Bool))) (d176 : (Unit × (Unit × (Int × (Int × (List ((Int × (Int × Int))) × (List (((Int × Int) × (Int × (Bool × (Int × Int))))) × (List (((Int × Int) × Int)) × List ((Int × Int)))))))))) : Option ((Unit × (Unit × (Int × (Int × (List ((Int × (Int × Int))) × (List (((Int × Int) × (Int × (Bool × (Int × Int))))) × (List (((Int × Int) × Int)) × List ((Int × Int))))))))) ⊕ (Unit × (Unit × (Int × (List ((Int × (Int × Int))) × (List (((Int × Int) × (Int × (Bool × (Int × Int))))) × (List (((Int × Int) × Int)) × List ((Int × Int))))))))) :=
  bif decide (d176.2.2.2.1 < (↑d176.2.2.2.2.2.1.length : Int)) then
    Option.bind (
      bif inB d176.2.2.2.1 d176.2.2.2.2.2.1.length then
        Option.bind (idxN d176.2.2.2.2.2.1 (Int.toNat d176.2.2.2.1)) fun (x181 : ((Int × Int) × (Int × (Bool × (Int × Int))))) =>
          bif !((decide (x181.1.1 = a.2.1.1) && (decide (x181.1.2 = a.2.1.2) && true))) then
            bif inB d176.2.2.1 d176.2.2.2.2.2.1.length then
              Option.bind (idxN d176.2.2.2.2.2.1 (Int.toNat d176.2.2.1)) fun (_ : ((Int × Int) × (Int × (Bool × (Int × Int))))) =>
                some ((), ((), ((Go.IntKind.wrap .i64 (d176.2.2.1 + (1 : Int))), (d176.2.2.2.2.1, (List.set d176.2.2.2.2.2.1 (Int.toNat d176.2.2.1) x181, d176.2.2.2.2.2.2)))))
            else
              none
          else
            some ((), ((), (d176.2.2.1, d176.2.2.2.2)))
      else
        none) fun (d183 : (Unit × (Unit × (Int × (List ((Int × (Int × Int))) × (List (((Int × Int) × (Int × (Bool × (Int × Int))))) × (List (((Int × Int) × Int)) × List ((Int × Int))))))))) =>
      some (Sum.inl ((), ((), (d183.2.2.1, ((Go.IntKind.wrap .i64 (d176.2.2.2.1 + (1 : Int))), d183.2.2.2)))))
  else
    some (Sum.inr ((), ((), (d176.2.2.1, d176.2.2.2.2))))
noncomputable def r20_L3 (d185 : (Unit × (Unit × ((List ((Int × (Int × Int))) × (Unit × (List (((Int × Int) × Int)) × List ((Int × Int))))) × List (((Int × Int) × (Int × (Bool × (Int × Int))))))))) (a : ((List ((Int × (Int × Int))) × (List (((Int × Int) × (Int × (Bool × (Int × Int))))) × (List (((Int × Int) × Int)) × List ((Int × Int))))) × ((Int × Int) × Bool))) (d262 : Int) : Option (Int ⊕ (Unit ⊕ Int)) :=
  bif decide (d262 < (↑d185.2.2.1.2.2.1.length : Int)) then
    bif inB d262 d185.2.2.1.2.2.1.length then
      Option.bind (idxN d185.2.2.1.2.2.1 (Int.toNat d262)) fun (x263 : ((Int × Int) × Int)) =>
        bif (decide (x263.1.1 = a.2.1.1) && (decide (x263.1.2 = a.2.1.2) && true)) then
          some (Sum.inr (Sum.inr d262))
        else
          some (Sum.inl (Go.IntKind.wrap .i64 (d262 + (1 : Int))))
    else
      none
  else
    some (Sum.inr (Sum.inl ()))
noncomputable def r20_L4 (a : ((List ((Int × (Int × Int))) × (List (((Int × Int) × (Int × (Bool × (Int × Int))))) × (List (((Int × Int) × Int)) × List ((Int × Int))))) × ((Int × Int) × Bool))) (d276 : (Unit × (Unit × (Int × (Int × (List ((Int × (Int × Int))) × (List (((Int × Int) × (Int × (Bool × (Int × Int))))) × (List (((Int × Int) × Int)) × List ((Int × Int)))))))))) : Option ((Unit × (Unit × (Int × (Int × (List ((Int × (Int × Int))) × (List (((Int × Int) × (Int × (Bool × (Int × Int))))) × (List (((Int × Int) × Int)) × List ((Int × Int))))))))) ⊕ (Unit × (Unit × (Int × (List ((Int × (Int × Int))) × (List (((Int × Int) × (Int × (Bool × (Int × Int))))) × (List (((Int × Int) × Int)) × List ((Int × Int))))))))) :=
  bif decide (d276.2.2.2.1 < (↑d276.2.2.2.2.2.2.1.length : Int)) then
    Option.bind (
      bif inB d276.2.2.2.1 d276.2.2.2.2.2.2.1.length then
        Option.bind (idxN d276.2.2.2.2.2.2.1 (Int.toNat d276.2.2.2.1)) fun (x281 : ((Int × Int) × Int)) =>
          bif !((decide (x281.1.1 = a.2.1.1) && (decide (x281.1.2 = a.2.1.2) && true))) then
            bif inB d276.2.2.1 d276.2.2.2.2.2.2.1.length then
              Option.bind (idxN d276.2.2.2.2.2.2.1 (Int.toNat d276.2.2.1)) fun (_ : ((Int × Int) × Int)) =>
                some ((), ((), ((Go.IntKind.wrap .i64 (d276.2.2.1 + (1 : Int))), (d276.2.2.2.2.1, (d276.2.2.2.2.2.1, (List.set d276.2.2.2.2.2.2.1 (Int.toNat d276.2.2.1) x281, d276.2.2.2.2.2.2.2))))))
            else
              none
          else
            some ((), ((), (d276.2.2.1, d276.2.2.2.2)))
      else
        none) fun (d283 : (Unit × (Unit × (Int × (List ((Int × (Int × Int))) × (List (((Int × Int) × (Int × (Bool × (Int × Int))))) × (List (((Int × Int) × Int)) × List ((Int × Int))))))))) =>
      some (Sum.inl ((), ((), (d283.2.2.1, ((Go.IntKind.wrap .i64 (d276.2.2.2.1 + (1 : Int))), d283.2.2.2)))))
  else
    some (Sum.inr ((), ((), (d276.2.2.1, d276.2.2.2.2))))
def sg20 : Sig := ⟨[⟨true, .bo, (.pair (.sl (.pair (.int .i64) (.pair (.int .i64) (.int .i64)))) (.pair (.sl (.pair (.pair (.int .i64) (.int .i64)) (.pair (.int .i64) (.pair .bool (.pair (.int .i64) (.int .i64)))))) (.pair (.sl (.pair (.pair (.int .i64) (.int .i64)) (.int .i64))) (.sl (.pair (.int .i64) (.int .i64))))))⟩, ⟨true, .bo, (.pair (.int .i64) (.int .i64))⟩, ⟨false, .bo, .bool⟩], [⟨true, .own, (.pair (.sl (.pair (.int .i64) (.pair (.int .i64) (.int .i64)))) (.pair (.sl (.pair (.pair (.int .i64) (.int .i64)) (.pair (.int .i64) (.pair .bool (.pair (.int .i64) (.int .i64)))))) (.pair (.sl (.pair (.pair (.int .i64) (.int .i64)) (.int .i64))) (.sl (.pair (.int .i64) (.int .i64))))))⟩, ⟨false, .own, (.int .i64)⟩]⟩
noncomputable def r20 (a : ((List ((Int × (Int × Int))) × (List (((Int × Int) × (Int × (Bool × (Int × Int))))) × (List (((Int × Int) × Int)) × List ((Int × Int))))) × ((Int × Int) × Bool))) : Option ((List ((Int × (Int × Int))) × (List (((Int × Int) × (Int × (Bool × (Int × Int))))) × (List (((Int × Int) × Int)) × List ((Int × Int))))) × Int) :=
  Option.bind (r26 (a.1, a.2.1, (0 : Int))) fun (y1 : Int) =>
    bif !(decide (y1 = (0 : Int))) then
      some (([], ([], ([], []))), y1)
    else
      Option.bind (r31 a.1) fun (y2 : (List ((Int × (Int × Int))) × (List (((Int × Int) × (Int × (Bool × (Int × Int))))) × (List (((Int × Int) × Int)) × List ((Int × Int)))))) =>
        Option.bind (loopR (r20_L0 a) ((), ((0 : Int), y2))) fun (q85 : (Unit × (List ((Int × (Int × Int))) × (List (((Int × Int) × (Int × (Bool × (Int × Int))))) × (List (((Int × Int) × Int)) × List ((Int × Int))))))) =>
          Option.bind (
            Option.bind (
              Option.bind (loopR (r20_L1 q85 a) (0 : Int)) fun (q164 : (Unit ⊕ Int)) =>
                Sum.elim (fun (_ : Unit) =>
                    some (-1 : Int))
                  (fun (v166 : Int) =>
                    some v166) q164) fun (d167 : Int) =>
              bif decide (d167 = (-1 : Int)) then
                some ((), ((), ((q85.2.1, ((), q85.2.2.2)), q85.2.2.1)))
              else
                Option.bind (loopR (r20_L2 a) ((), ((), (d167, ((Go.IntKind.wrap .i64 (d167 + (1 : Int))), q85.2))))) fun (q184 : (Unit × (Unit × (Int × (List ((Int × (Int × Int))) × (List (((Int × Int) × (Int × (Bool × (Int × Int))))) × (List (((Int × Int) × Int)) × List ((Int × Int))))))))) =>
                  bif okB (some q184.2.2.1) none none q184.2.2.2.2.1.length then
                    bif okB none (some q184.2.2.1) none ((app (List.take (Int.toNat q184.2.2.1) q184.2.2.2.2.1) (app (List.replicate (q184.2.2.2.2.1.length - (Int.toNat q184.2.2.1)) (((0 : Int), (0 : Int)), ((0 : Int), (false, ((0 : Int), (0 : Int)))))) (List.drop ((Int.toNat q184.2.2.1) + (q184.2.2.2.2.1.length - (Int.toNat q184.2.2.1))) q184.2.2.2.2.1))).length) then
                      some ((), ((), ((q184.2.2.2.1, ((), q184.2.2.2.2.2)), midL (app (List.take (Int.toNat q184.2.2.1) q184.2.2.2.2.1) (app (List.replicate (q184.2.2.2.2.1.length - (Int.toNat q184.2.2.1)) (((0 : Int), (0 : Int)), ((0 : Int), (false, ((0 : Int), (0 : Int)))))) (List.drop ((Int.toNat q184.2.2.1) + (q184.2.2.2.2.1.length - (Int.toNat q184.2.2.1))) q184.2.2.2.2.1))) 0 (Int.toNat q184.2.2.1))))
                    else
                      none
                  else
                    none) fun (d185 : (Unit × (Unit × ((List ((Int × (Int × Int))) × (Unit × (List (((Int × Int) × Int)) × List ((Int × Int))))) × List (((Int × Int) × (Int × (Bool × (Int × Int))))))))) =>
            Option.bind (
              Option.bind (
                Option.bind (loopR (r20_L3 d185 a) (0 : Int)) fun (q264 : (Unit ⊕ Int)) =>
                  Sum.elim (fun (_ : Unit) =>
                      some (-1 : Int))
                    (fun (v266 : Int) =>
                      some v266) q264) fun (d267 : Int) =>
                bif decide (d267 = (-1 : Int)) then
                  some ((), ((), ((d185.2.2.1.1, (d185.2.2.2, ((), d185.2.2.1.2.2.2))), d185.2.2.1.2.2.1)))
                else
                  Option.bind (loopR (r20_L4 a) ((), ((), (d267, ((Go.IntKind.wrap .i64 (d267 + (1 : Int))), (d185.2.2.1.1, (d185.2.2.2, d185.2.2.1.2.2))))))) fun (q284 : (Unit × (Unit × (Int × (List ((Int × (Int × Int))) × (List (((Int × Int) × (Int × (Bool × (Int × Int))))) × (List (((Int × Int) × Int)) × List ((Int × Int))))))))) =>
                    bif okB (some q284.2.2.1) none none q284.2.2.2.2.2.1.length then
                      bif okB none (some q284.2.2.1) none ((app (List.take (Int.toNat q284.2.2.1) q284.2.2.2.2.2.1) (app (List.replicate (q284.2.2.2.2.2.1.length - (Int.toNat q284.2.2.1)) (((0 : Int), (0 : Int)), (0 : Int))) (List.drop ((Int.toNat q284.2.2.1) + (q284.2.2.2.2.2.1.length - (Int.toNat q284.2.2.1))) q284.2.2.2.2.2.1))).length) then
                        some ((), ((), ((q284.2.2.2.1, (q284.2.2.2.2.1, ((), q284.2.2.2.2.2.2))), midL (app (List.take (Int.toNat q284.2.2.1) q284.2.2.2.2.2.1) (app (List.replicate (q284.2.2.2.2.2.1.length - (Int.toNat q284.2.2.1)) (((0 : Int), (0 : Int)), (0 : Int))) (List.drop ((Int.toNat q284.2.2.1) + (q284.2.2.2.2.2.1.length - (Int.toNat q284.2.2.1))) q284.2.2.2.2.2.1))) 0 (Int.toNat q284.2.2.1))))
                      else
                        none
                    else
                      none) fun (d285 : (Unit × (Unit × ((List ((Int × (Int × Int))) × (List (((Int × Int) × (Int × (Bool × (Int × Int))))) × (Unit × List ((Int × Int))))) × List (((Int × Int) × Int)))))) =>
              Option.bind (
                Option.bind (r28 (d285.2.2.1.2.2.2, a.2.1)) fun (y288 : Bool) =>
                  bif !(y288) then
                    bif roomOk false d285.2.2.1.2.2.2.length 1 16 then
                      some ((), (d285.2.2.1.1, (d285.2.2.1.2.1, (d285.2.2.2, app d285.2.2.1.2.2.2 [a.2.1]))))
                    else
                      none
                  else
                    some ((), (d285.2.2.1.1, (d285.2.2.1.2.1, (d285.2.2.2, d285.2.2.1.2.2.2))))) fun (d289 : (Unit × (List ((Int × (Int × Int))) × (List (((Int × Int) × (Int × (Bool × (Int × Int))))) × (List (((Int × Int) × Int)) × List ((Int × Int))))))) =>
                some (d289.2, (0 : Int))
def an20 : Ann := .two (.leaf) (.two (.two (.leaf) (.two (.leaf) (.two (.two (.leaf) (.leaf)) (.leaf)))) (.two (.leaf) (.two (.two (.leaf) (.one (.loop [2, 4, 6, 24, 25] [4, 6] [] [.tmp 9 (.pt 9 [(0, 0)] 0 0 4), .tmp 26 (.int .i64), .box 9 [.sl .own (.pair (.int .i64) (.pair (.int .i64) (.int .i64))), .sl .own (.pair (.pair (.int .i64) (.int .i64)) (.pair (.int .i64) (.pair .bool (.pair (.int .i64) (.int .i64))))), .sl .own (.pair (.pair (.int .i64) (.int .i64)) (.int .i64)), .sl .own (.pair (.int .i64) (.int .i64))]] [⟨.exit 0, [], [.tmp 9 (.pt 9 [(0, 0)] 0 0 4), .box 9 [.sl .own (.pair (.int .i64) (.pair (.int .i64) (.int .i64))), .sl .own (.pair (.pair (.int .i64) (.int .i64)) (.pair (.int .i64) (.pair .bool (.pair (.int .i64) (.int .i64))))), .sl .own (.pair (.pair (.int .i64) (.int .i64)) (.int .i64)), .sl .own (.pair (.int .i64) (.int .i64))]]⟩] (.two (.leaf) (.two (.two (.leaf) (.leaf)) (.two (.join [2, 4, 6, 24, 25, 26] [4, 6] [⟨.normal, [], [.tmp 9 (.pt 9 [(0, 0)] 0 0 4), .box 9 [.sl .own (.pair (.int .i64) (.pair (.int .i64) (.int .i64))), .sl .own (.pair (.pair (.int .i64) (.int .i64)) (.pair (.int .i64) (.pair .bool (.pair (.int .i64) (.int .i64))))), .sl .own (.pair (.pair (.int .i64) (.int .i64)) (.int .i64)), .sl .own (.pair (.int .i64) (.int .i64))]]⟩] (.one (.two (.leaf) (.two (.two (.join [2, 4, 6, 9, 11, 24, 25, 26] [4, 6, 9, 11] [⟨.normal, [], [.tmp 42 (.bool)]⟩] (.segs [(9, ([2, 4, 6, 9, 11, 24, 25, 26], ([4, 6, 9, 11], [.tmp 38 (.bool)])))])) (.two (.leaf) (.leaf))) (.two (.leaf) (.two (.join [2, 4, 6, 11, 12, 24, 25, 26] [4, 6, 11] [⟨.normal, [], [.tmp 9 (.pt 9 [(0, 0)] 0 0 4), .box 9 [.sl .own (.pair (.int .i64) (.pair (.int .i64) (.int .i64))), .sl .own (.pair (.pair (.int .i64) (.int .i64)) (.pair (.int .i64) (.pair .bool (.pair (.int .i64) (.int .i64))))), .sl .own (.pair (.pair (.int .i64) (.int .i64)) (.int .i64)), .sl .own (.pair (.int .i64) (.int .i64))]]⟩] (.two (.leaf) (.two (.leaf) (.leaf)))) (.two (.leaf) (.leaf)))))))) (.leaf))))))) (.two (.inl 3 101 (.join [4, 6] [4, 6] [⟨.ret, [(105, (.pair (.pair (.int .i64) (.int .i64)) (.pair (.int .i64) (.pair .bool (.pair (.int .i64) (.int .i64))))))], [.tmp 9 (.pt 9 [(0, 0)] 0 0 4), .tmp 105 (.own 105 [(0, 0)] (.pair (.pair (.int .i64) (.int .i64)) (.pair (.int .i64) (.pair .bool (.pair (.int .i64) (.int .i64)))))), .box 9 [.sl .own (.pair (.int .i64) (.pair (.int .i64) (.int .i64))), .dead, .sl .own (.pair (.pair (.int .i64) (.int .i64)) (.int .i64)), .sl .own (.pair (.int .i64) (.int .i64))], .row 105 [.sl .own (.pair (.pair (.int .i64) (.int .i64)) (.pair (.int .i64) (.pair .bool (.pair (.int .i64) (.int .i64)))))]]⟩] (.two (.leaf) (.two (.inl 2 143 (.join [4, 6, 9, 101, 102] [4, 6, 9] [⟨.ret, [], [.tmp 147 (.int .i64)]⟩] (.two (.leaf) (.two (.two (.leaf) (.one (.loop [4, 6, 9, 101, 102, 143, 144, 150] [4, 6, 9] [] [.tmp 151 (.int .i64)] [⟨.exit 0, [], []⟩, ⟨.ret, [], [.tmp 147 (.int .i64)]⟩] (.two (.leaf) (.two (.two (.leaf) (.leaf)) (.two (.one (.two (.leaf) (.two (.inl 5 162 (.two (.leaf) (.two (.leaf) (.leaf))) (.leaf)) (.two (.two (.leaf) (.leaf)) (.leaf))))) (.leaf))))))) (.two (.leaf) (.leaf))))) (.leaf)) (.two (.two (.leaf) (.two (.two (.leaf) (.leaf)) (.leaf))) (.two (.two (.leaf) (.one (.loop [4, 6, 102] [4, 6] [] [.tmp 9 (.pt 9 [(0, 0)] 0 0 4), .tmp 101 (.own 9 [(0, 0), (0, 1)] (.pair (.pair (.int .i64) (.int .i64)) (.pair (.int .i64) (.pair .bool (.pair (.int .i64) (.int .i64)))))), .tmp 106 (.int .i64), .tmp 107 (.int .i64), .box 9 [.sl .own (.pair (.int .i64) (.pair (.int .i64) (.int .i64))), .sl .own (.pair (.pair (.int .i64) (.int .i64)) (.pair (.int .i64) (.pair .bool (.pair (.int .i64) (.int .i64))))), .sl .own (.pair (.pair (.int .i64) (.int .i64)) (.int .i64)), .sl .own (.pair (.int .i64) (.int .i64))]] [⟨.exit 0, [], [.tmp 9 (.pt 9 [(0, 0)] 0 0 4), .tmp 101 (.own 9 [(0, 0), (0, 1)] (.pair (.pair (.int .i64) (.int .i64)) (.pair (.int .i64) (.pair .bool (.pair (.int .i64) (.int .i64)))))), .tmp 106 (.int .i64), .box 9 [.sl .own (.pair (.int .i64) (.pair (.int .i64) (.int .i64))), .sl .own (.pair (.pair (.int .i64) (.int .i64)) (.pair (.int .i64) (.pair .bool (.pair (.int .i64) (.int .i64))))), .sl .own (.pair (.pair (.int .i64) (.int .i64)) (.int .i64)), .sl .own (.pair (.int .i64) (.int .i64))]]⟩] (.two (.two (.leaf) (.two (.leaf) (.leaf))) (.two (.join [4, 6, 102, 107] [4, 6] [⟨.normal, [], [.tmp 9 (.pt 9 [(0, 0)] 0 0 4), .tmp 101 (.own 9 [(0, 0), (0, 1)] (.pair (.pair (.int .i64) (.int .i64)) (.pair (.int .i64) (.pair .bool (.pair (.int .i64) (.int .i64)))))), .tmp 106 (.int .i64), .box 9 [.sl .own (.pair (.int .i64) (.pair (.int .i64) (.int .i64))), .sl .own (.pair (.pair (.int .i64) (.int .i64)) (.pair (.int .i64) (.pair .bool (.pair (.int .i64) (.int .i64))))), .sl .own (.pair (.pair (.int .i64) (.int .i64)) (.int .i64)), .sl .own (.pair (.int .i64) (.int .i64))]]⟩] (.one (.two (.leaf) (.two (.inl 2 170 (.two (.leaf) (.two (.leaf) (.leaf))) (.leaf)) (.two (.two (.leaf) (.leaf)) (.leaf)))))) (.leaf)))))) (.two (.leaf) (.two (.leaf) (.leaf)))))))) (.leaf)) (.two (.inl 3 178 (.join [4, 6] [4, 6] [⟨.ret, [(182, (.pair (.pair (.int .i64) (.int .i64)) (.int .i64)))], [.tmp 9 (.pt 9 [(0, 0)] 0 0 4), .tmp 182 (.own 182 [(0, 0)] (.pair (.pair (.int .i64) (.int .i64)) (.int .i64))), .box 9 [.sl .own (.pair (.int .i64) (.pair (.int .i64) (.int .i64))), .sl .own (.pair (.pair (.int .i64) (.int .i64)) (.pair (.int .i64) (.pair .bool (.pair (.int .i64) (.int .i64))))), .dead, .sl .own (.pair (.int .i64) (.int .i64))], .row 182 [.sl .own (.pair (.pair (.int .i64) (.int .i64)) (.int .i64))]]⟩] (.two (.leaf) (.two (.inl 2 220 (.join [4, 6, 9, 178, 179] [4, 6, 9] [⟨.ret, [], [.tmp 224 (.int .i64)]⟩] (.two (.leaf) (.two (.two (.leaf) (.one (.loop [4, 6, 9, 178, 179, 220, 221, 227] [4, 6, 9] [] [.tmp 228 (.int .i64)] [⟨.exit 0, [], []⟩, ⟨.ret, [], [.tmp 224 (.int .i64)]⟩] (.two (.leaf) (.two (.two (.leaf) (.leaf)) (.two (.one (.two (.leaf) (.two (.inl 5 239 (.two (.leaf) (.two (.leaf) (.leaf))) (.leaf)) (.two (.two (.leaf) (.leaf)) (.leaf))))) (.leaf))))))) (.two (.leaf) (.leaf))))) (.leaf)) (.two (.two (.leaf) (.two (.two (.leaf) (.leaf)) (.leaf))) (.two (.two (.leaf) (.one (.loop [4, 6, 179] [4, 6] [] [.tmp 9 (.pt 9 [(0, 0)] 0 0 4), .tmp 178 (.own 9 [(0, 0), (0, 2)] (.pair (.pair (.int .i64) (.int .i64)) (.int .i64))), .tmp 183 (.int .i64), .tmp 184 (.int .i64), .box 9 [.sl .own (.pair (.int .i64) (.pair (.int .i64) (.int .i64))), .sl .own (.pair (.pair (.int .i64) (.int .i64)) (.pair (.int .i64) (.pair .bool (.pair (.int .i64) (.int .i64))))), .sl .own (.pair (.pair (.int .i64) (.int .i64)) (.int .i64)), .sl .own (.pair (.int .i64) (.int .i64))]] [⟨.exit 0, [], [.tmp 9 (.pt 9 [(0, 0)] 0 0 4), .tmp 178 (.own 9 [(0, 0), (0, 2)] (.pair (.pair (.int .i64) (.int .i64)) (.int .i64))), .tmp 183 (.int .i64), .box 9 [.sl .own (.pair (.int .i64) (.pair (.int .i64) (.int .i64))), .sl .own (.pair (.pair (.int .i64) (.int .i64)) (.pair (.int .i64) (.pair .bool (.pair (.int .i64) (.int .i64))))), .sl .own (.pair (.pair (.int .i64) (.int .i64)) (.int .i64)), .sl .own (.pair (.int .i64) (.int .i64))]]⟩] (.two (.two (.leaf) (.two (.leaf) (.leaf))) (.two (.join [4, 6, 179, 184] [4, 6] [⟨.normal, [], [.tmp 9 (.pt 9 [(0, 0)] 0 0 4), .tmp 178 (.own 9 [(0, 0), (0, 2)] (.pair (.pair (.int .i64) (.int .i64)) (.int .i64))), .tmp 183 (.int .i64), .box 9 [.sl .own (.pair (.int .i64) (.pair (.int .i64) (.int .i64))), .sl .own (.pair (.pair (.int .i64) (.int .i64)) (.pair (.int .i64) (.pair .bool (.pair (.int .i64) (.int .i64))))), .sl .own (.pair (.pair (.int .i64) (.int .i64)) (.int .i64)), .sl .own (.pair (.int .i64) (.int .i64))]]⟩] (.one (.two (.leaf) (.two (.inl 2 247 (.two (.leaf) (.two (.leaf) (.leaf))) (.leaf)) (.two (.two (.leaf) (.leaf)) (.leaf)))))) (.leaf)))))) (.two (.leaf) (.two (.leaf) (.leaf)))))))) (.leaf)) (.two (.join [6] [6] [⟨.normal, [], [.tmp 9 (.pt 9 [(0, 0)] 0 0 4), .box 9 [.sl .own (.pair (.int .i64) (.pair (.int .i64) (.int .i64))), .sl .own (.pair (.pair (.int .i64) (.int .i64)) (.pair (.int .i64) (.pair .bool (.pair (.int .i64) (.int .i64))))), .sl .own (.pair (.pair (.int .i64) (.int .i64)) (.int .i64)), .sl .own (.pair (.int .i64) (.int .i64))]]⟩] (.two (.leaf) (.two (.leaf) (.leaf)))) (.two (.leaf) (.leaf))))))))
theorem s20 : SoundF cx.P cx.G 20 sg20 r20 := by
  have e : denF cx [(26, ⟨sg26, r26⟩), (28, ⟨sg28, r28⟩), (31, ⟨sg31, r31⟩), (36, ⟨sg36, r36⟩), (37, ⟨sg37, r37⟩)] an20 Try.f20.ntmps (Try.f20.body.getD .skip) Try.f20.results.toList sg20 = r20 := by kernel_rfl
  rw [← e]
  exact sound_of_den (c := cx) (Known.cons (.ofF s26 (by kernel_rfl)) Try.func26 (by kernel_rfl) (by kernel_rfl) (Known.cons (.ofF s28 (by kernel_rfl)) Try.func28 (by kernel_rfl) (by kernel_rfl) (Known.cons (.ofF s31 (by kernel_rfl)) Try.func31 (by kernel_rfl) (by kernel_rfl) (Known.cons (.ofF s36 (by kernel_rfl)) Try.func36 (by kernel_rfl) (by kernel_rfl) (Known.cons (.ofD s37 (by kernel_rfl)) Try.func37 (by kernel_rfl) (by kernel_rfl) (Known.nil)))))) Try.func20 (by kernel_rfl) (Nat.le_of_ble_eq_true (by kernel_rfl)) rfl

/-! reredos/reredoskeep.Store -/
noncomputable def r16_L0 (a : (List ((Int × (Int × (Int × (Int × (Int × Int)))))) × Int)) (d127 : (Unit × (Int × (List ((Int × (Int × Int))) × (List (((Int × Int) × (Int × (Bool × (Int × Int))))) × (List (((Int × Int) × Int)) × List ((Int × Int)))))))) : Option ((Unit × (Int × (List ((Int × (Int × Int))) × (List (((Int × Int) × (Int × (Bool × (Int × Int))))) × (List (((Int × Int) × Int)) × List ((Int × Int))))))) ⊕ (Unit × (List ((Int × (Int × Int))) × (List (((Int × Int) × (Int × (Bool × (Int × Int))))) × (List (((Int × Int) × Int)) × List ((Int × Int))))))) :=
  Option.bind (
    bif decide (d127.2.1 < (↑a.1.length : Int)) then
      some (decide (d127.2.1 < a.2))
    else
      some false) fun (d128 : Bool) =>
    bif d128 then
      Option.bind (
        Option.bind (idxI a.1 d127.2.1) fun (b215 : (Int × (Int × (Int × (Int × (Int × Int)))))) =>
          Option.bind (r13 (b215.2.1, (2 : Int))) fun (y216 : Int) =>
            Option.bind (idxI a.1 d127.2.1) fun (b217 : (Int × (Int × (Int × (Int × (Int × Int)))))) =>
              Option.bind (r13 (b217.2.2.1, (2 : Int))) fun (y218 : Int) =>
                Option.bind (idxI a.1 d127.2.1) fun (b219 : (Int × (Int × (Int × (Int × (Int × Int)))))) =>
                  Option.bind (r13 (b219.2.2.2.1, (5 : Int))) fun (y220 : Int) =>
                    Option.bind (idxI a.1 d127.2.1) fun (b221 : (Int × (Int × (Int × (Int × (Int × Int)))))) =>
                      Option.bind (r13 (b221.1, (5 : Int))) fun (y222 : Int) =>
                        Option.bind (
                          bif decide (y222 = (0 : Int)) then
                            some (decide (y222 = (0 : Int)))
                          else
                            some (decide (y222 = (1 : Int)))) fun (d223 : Bool) =>
                          bif d223 then
                            Option.bind (r17 (d127.2.2, (y216, (Go.IntKind.wrap .i64 ((1 : Int) + y218))), y220)) fun (y224 : ((List ((Int × (Int × Int))) × (List (((Int × Int) × (Int × (Bool × (Int × Int))))) × (List (((Int × Int) × Int)) × List ((Int × Int))))) × (Int × (Int × Int)))) =>
                              bif decide (y224.2.2.2 = (0 : Int)) then
                                some ((), y224.1)
                              else
                                some ((), d127.2.2)
                          else
                            Option.bind (
                              bif decide (y222 = (2 : Int)) then
                                some (decide (y222 = (2 : Int)))
                              else
                                some (decide (y222 = (3 : Int)))) fun (d225 : Bool) =>
                              bif d225 then
                                Option.bind (
                                  Option.bind (idxI a.1 d127.2.1) fun (b236 : (Int × (Int × (Int × (Int × (Int × Int)))))) =>
                                    Option.bind (r13 (b236.2.2.2.2.1, (100 : Int))) fun (y237 : Int) =>
                                      Option.bind (idxI a.1 d127.2.1) fun (b238 : (Int × (Int × (Int × (Int × (Int × Int)))))) =>
                                        Option.bind (r13 (b238.2.2.2.2.2, (5 : Int))) fun (y239 : Int) =>
                                          Option.bind (r14 (d127.2.2, (y216, (Go.IntKind.wrap .i64 ((1 : Int) + y218))), y220, y237, y239)) fun (y240 : ((List ((Int × (Int × Int))) × (List (((Int × Int) × (Int × (Bool × (Int × Int))))) × (List (((Int × Int) × Int)) × List ((Int × Int))))) × Int)) =>
                                            
                                              some ((), (y240.2, y240.1))) fun (d241 : (Unit × (Int × (List ((Int × (Int × Int))) × (List (((Int × Int) × (Int × (Bool × (Int × Int))))) × (List (((Int × Int) × Int)) × List ((Int × Int)))))))) =>
                                  bif decide (d241.2.1 = (0 : Int)) then
                                    some ((), d241.2.2)
                                  else
                                    some ((), d127.2.2)
                              else
                                Option.bind (
                                  Option.bind (idxI a.1 d127.2.1) fun (b248 : (Int × (Int × (Int × (Int × (Int × Int)))))) =>
                                    Option.bind (r13 (b248.2.2.2.2.1, (2 : Int))) fun (y249 : Int) =>
                                      Option.bind (r20 (d127.2.2, (y216, (Go.IntKind.wrap .i64 ((1 : Int) + y218))), decide (y249 = (1 : Int)))) fun (y250 : ((List ((Int × (Int × Int))) × (List (((Int × Int) × (Int × (Bool × (Int × Int))))) × (List (((Int × Int) × Int)) × List ((Int × Int))))) × Int)) =>
                                        
                                          some ((), (y250.2, y250.1))) fun (d251 : (Unit × (Int × (List ((Int × (Int × Int))) × (List (((Int × Int) × (Int × (Bool × (Int × Int))))) × (List (((Int × Int) × Int)) × List ((Int × Int)))))))) =>
                                  bif decide (d251.2.1 = (0 : Int)) then
                                    some ((), d251.2.2)
                                  else
                                    some ((), d127.2.2)) fun (d252 : (Unit × (List ((Int × (Int × Int))) × (List (((Int × Int) × (Int × (Bool × (Int × Int))))) × (List (((Int × Int) × Int)) × List ((Int × Int))))))) =>
        some (Sum.inl ((), ((Go.IntKind.wrap .i64 (d127.2.1 + (1 : Int))), d252.2)))
    else
      some (Sum.inr ((), d127.2.2))
noncomputable def r16_L0q (a : (List ((Int × (Int × (Int × (Int × (Int × Int)))))) × Int)) : (Unit × (Int × (List ((Int × (Int × Int))) × (List (((Int × Int) × (Int × (Bool × (Int × Int))))) × (List (((Int × Int) × Int)) × List ((Int × Int))))))) → Option ((Unit × (Int × (List ((Int × (Int × Int))) × (List (((Int × Int) × (Int × (Bool × (Int × Int))))) × (List (((Int × Int) × Int)) × List ((Int × Int))))))) ⊕ (Unit × (List ((Int × (Int × Int))) × (List (((Int × Int) × (Int × (Bool × (Int × Int))))) × (List (((Int × Int) × Int)) × List ((Int × Int))))))) := fun d127 =>
  Option.bind (
    bif decide (d127.2.1 < (↑a.1.length : Int)) then
      some (decide (d127.2.1 < a.2))
    else
      some false) fun (d128 : Bool) =>
    bif d128 then
      Option.bind (
        Option.bind (idxI a.1 d127.2.1) fun (b215 : (Int × (Int × (Int × (Int × (Int × Int)))))) =>
          Option.bind (r13 (b215.2.1, (2 : Int))) fun (y216 : Int) =>
            Option.bind (idxI a.1 d127.2.1) fun (b217 : (Int × (Int × (Int × (Int × (Int × Int)))))) =>
              Option.bind (r13 (b217.2.2.1, (2 : Int))) fun (y218 : Int) =>
                Option.bind (idxI a.1 d127.2.1) fun (b219 : (Int × (Int × (Int × (Int × (Int × Int)))))) =>
                  Option.bind (r13 (b219.2.2.2.1, (5 : Int))) fun (y220 : Int) =>
                    Option.bind (idxI a.1 d127.2.1) fun (b221 : (Int × (Int × (Int × (Int × (Int × Int)))))) =>
                      Option.bind (r13 (b221.1, (5 : Int))) fun (y222 : Int) =>
                        Option.bind (
                          bif decide (y222 = (0 : Int)) then
                            some (decide (y222 = (0 : Int)))
                          else
                            some (decide (y222 = (1 : Int)))) fun (d223 : Bool) =>
                          bif d223 then
                            Option.bind (r17 (d127.2.2, (y216, (Go.IntKind.wrap .i64 ((1 : Int) + y218))), y220)) fun (y224 : ((List ((Int × (Int × Int))) × (List (((Int × Int) × (Int × (Bool × (Int × Int))))) × (List (((Int × Int) × Int)) × List ((Int × Int))))) × (Int × (Int × Int)))) =>
                              bif decide (y224.2.2.2 = (0 : Int)) then
                                some ((), y224.1)
                              else
                                some ((), d127.2.2)
                          else
                            Option.bind (
                              bif decide (y222 = (2 : Int)) then
                                some (decide (y222 = (2 : Int)))
                              else
                                some (decide (y222 = (3 : Int)))) fun (d225 : Bool) =>
                              bif d225 then
                                Option.bind (
                                  Option.bind (idxI a.1 d127.2.1) fun (b236 : (Int × (Int × (Int × (Int × (Int × Int)))))) =>
                                    Option.bind (r13 (b236.2.2.2.2.1, (100 : Int))) fun (y237 : Int) =>
                                      Option.bind (idxI a.1 d127.2.1) fun (b238 : (Int × (Int × (Int × (Int × (Int × Int)))))) =>
                                        Option.bind (r13 (b238.2.2.2.2.2, (5 : Int))) fun (y239 : Int) =>
                                          Option.bind (r14 (d127.2.2, (y216, (Go.IntKind.wrap .i64 ((1 : Int) + y218))), y220, y237, y239)) fun (y240 : ((List ((Int × (Int × Int))) × (List (((Int × Int) × (Int × (Bool × (Int × Int))))) × (List (((Int × Int) × Int)) × List ((Int × Int))))) × Int)) =>
                                            sameR (
                                              some ((), (y240.2, y240.1)))
 (
                                              sameR (
                                                some ((), (y240.2, y240.1)))
 (
                                                some ((), (y240.2, y240.1))))) fun (d241 : (Unit × (Int × (List ((Int × (Int × Int))) × (List (((Int × Int) × (Int × (Bool × (Int × Int))))) × (List (((Int × Int) × Int)) × List ((Int × Int)))))))) =>
                                  bif decide (d241.2.1 = (0 : Int)) then
                                    some ((), d241.2.2)
                                  else
                                    some ((), d127.2.2)
                              else
                                Option.bind (
                                  Option.bind (idxI a.1 d127.2.1) fun (b248 : (Int × (Int × (Int × (Int × (Int × Int)))))) =>
                                    Option.bind (r13 (b248.2.2.2.2.1, (2 : Int))) fun (y249 : Int) =>
                                      Option.bind (r20 (d127.2.2, (y216, (Go.IntKind.wrap .i64 ((1 : Int) + y218))), decide (y249 = (1 : Int)))) fun (y250 : ((List ((Int × (Int × Int))) × (List (((Int × Int) × (Int × (Bool × (Int × Int))))) × (List (((Int × Int) × Int)) × List ((Int × Int))))) × Int)) =>
                                        sameR (
                                          some ((), (y250.2, y250.1)))
 (
                                          sameR (
                                            some ((), (y250.2, y250.1)))
 (
                                            some ((), (y250.2, y250.1))))) fun (d251 : (Unit × (Int × (List ((Int × (Int × Int))) × (List (((Int × Int) × (Int × (Bool × (Int × Int))))) × (List (((Int × Int) × Int)) × List ((Int × Int)))))))) =>
                                  bif decide (d251.2.1 = (0 : Int)) then
                                    some ((), d251.2.2)
                                  else
                                    some ((), d127.2.2)) fun (d252 : (Unit × (List ((Int × (Int × Int))) × (List (((Int × Int) × (Int × (Bool × (Int × Int))))) × (List (((Int × Int) × Int)) × List ((Int × Int))))))) =>
        some (Sum.inl ((), ((Go.IntKind.wrap .i64 (d127.2.1 + (1 : Int))), d252.2)))
    else
      some (Sum.inr ((), d127.2.2))
theorem r16_L0e (a : (List ((Int × (Int × (Int × (Int × (Int × Int)))))) × Int)) : r16_L0q a = r16_L0 a := by unfold r16_L0q r16_L0; simp only [sameR_self]
def sg16 : Sig := ⟨[⟨false, .bo, (.sl (.pair (.int .i64) (.pair (.int .i64) (.pair (.int .i64) (.pair (.int .i64) (.pair (.int .i64) (.int .i64)))))))⟩, ⟨false, .bo, (.int .i64)⟩], [⟨true, .own, (.pair (.sl (.pair (.int .i64) (.pair (.int .i64) (.int .i64)))) (.pair (.sl (.pair (.pair (.int .i64) (.int .i64)) (.pair (.int .i64) (.pair .bool (.pair (.int .i64) (.int .i64)))))) (.pair (.sl (.pair (.pair (.int .i64) (.int .i64)) (.int .i64))) (.sl (.pair (.int .i64) (.int .i64))))))⟩]⟩
noncomputable def r16 (a : (List ((Int × (Int × (Int × (Int × (Int × Int)))))) × Int)) : Option (List ((Int × (Int × Int))) × (List (((Int × Int) × (Int × (Bool × (Int × Int))))) × (List (((Int × Int) × Int)) × List ((Int × Int))))) :=
  Option.bind (loopR (r16_L0 a) ((), ((0 : Int), ([], ([], ([], [])))))) fun (q253 : (Unit × (List ((Int × (Int × Int))) × (List (((Int × Int) × (Int × (Bool × (Int × Int))))) × (List (((Int × Int) × Int)) × List ((Int × Int))))))) =>
    some q253.2
noncomputable def r16q : (List ((Int × (Int × (Int × (Int × (Int × Int)))))) × Int) → Option (List ((Int × (Int × Int))) × (List (((Int × Int) × (Int × (Bool × (Int × Int))))) × (List (((Int × Int) × Int)) × List ((Int × Int))))) := fun a =>
  Option.bind (loopR (r16_L0q a) ((), ((0 : Int), ([], ([], ([], [])))))) fun (q253 : (Unit × (List ((Int × (Int × Int))) × (List (((Int × Int) × (Int × (Bool × (Int × Int))))) × (List (((Int × Int) × Int)) × List ((Int × Int))))))) =>
    some q253.2
theorem r16e : r16q = r16 := by unfold r16q r16; simp only [r16_L0e]
def an16 : Ann := .two (.leaf) (.two (.leaf) (.two (.two (.leaf) (.one (.loop [0, 1, 4] [4] [] [.tmp 5 (.pt 5 [(0, 0)] 0 0 4), .tmp 6 (.int .i64), .box 5 [.sl .own (.pair (.int .i64) (.pair (.int .i64) (.int .i64))), .sl .own (.pair (.pair (.int .i64) (.int .i64)) (.pair (.int .i64) (.pair .bool (.pair (.int .i64) (.int .i64))))), .sl .own (.pair (.pair (.int .i64) (.int .i64)) (.int .i64)), .sl .own (.pair (.int .i64) (.int .i64))]] [⟨.exit 0, [], [.tmp 5 (.pt 5 [(0, 0)] 0 0 4), .box 5 [.sl .own (.pair (.int .i64) (.pair (.int .i64) (.int .i64))), .sl .own (.pair (.pair (.int .i64) (.int .i64)) (.pair (.int .i64) (.pair .bool (.pair (.int .i64) (.int .i64))))), .sl .own (.pair (.pair (.int .i64) (.int .i64)) (.int .i64)), .sl .own (.pair (.int .i64) (.int .i64))]]⟩] (.two (.two (.join [0, 1, 4, 5, 6] [4, 5] [⟨.normal, [], [.tmp 25 (.bool)]⟩] (.leaf)) (.two (.leaf) (.leaf))) (.two (.join [0, 1, 4, 6] [4] [⟨.normal, [], [.tmp 5 (.pt 5 [(0, 0)] 0 0 4), .box 5 [.sl .own (.pair (.int .i64) (.pair (.int .i64) (.int .i64))), .sl .own (.pair (.pair (.int .i64) (.int .i64)) (.pair (.int .i64) (.pair .bool (.pair (.int .i64) (.int .i64))))), .sl .own (.pair (.pair (.int .i64) (.int .i64)) (.int .i64)), .sl .own (.pair (.int .i64) (.int .i64))]]⟩] (.one (.two (.draw 15) (.two (.leaf) (.two (.leaf) (.one (.two (.join [0, 1, 4, 5, 6, 7, 8, 53] [4, 5, 7] [⟨.normal, [], [.tmp 70 (.bool)]⟩] (.two (.leaf) (.two (.leaf) (.leaf)))) (.two (.two (.leaf) (.two (.leaf) (.two (.leaf) (.leaf)))) (.two (.join [0, 1, 4, 5, 6, 7, 8] [4, 5, 7] [⟨.normal, [], [.tmp 85 (.bool)]⟩] (.two (.leaf) (.two (.leaf) (.leaf)))) (.two (.two (.join [0, 1, 4, 5, 6] [4, 5] [⟨.normal, [], [.tmp 13 (.pt 13 [(0, 0)] 0 0 4), .tmp 14 (.int .i64), .box 13 [.sl .own (.pair (.int .i64) (.pair (.int .i64) (.int .i64))), .sl .own (.pair (.pair (.int .i64) (.int .i64)) (.pair (.int .i64) (.pair .bool (.pair (.int .i64) (.int .i64))))), .sl .own (.pair (.pair (.int .i64) (.int .i64)) (.int .i64)), .sl .own (.pair (.int .i64) (.int .i64))]]⟩] (.drawT [0, 1, 2, 3, 4, 5, 6, 7, 8, 9, 10, 11, 12, 13, 14, 15, 16, 17, 18, 19] [18])) (.two (.leaf) (.two (.leaf) (.leaf)))) (.two (.join [0, 1, 4, 5, 6] [4, 5] [⟨.normal, [], [.tmp 15 (.pt 15 [(0, 0)] 0 0 4), .tmp 16 (.int .i64), .box 15 [.sl .own (.pair (.int .i64) (.pair (.int .i64) (.int .i64))), .sl .own (.pair (.pair (.int .i64) (.int .i64)) (.pair (.int .i64) (.pair .bool (.pair (.int .i64) (.int .i64))))), .sl .own (.pair (.pair (.int .i64) (.int .i64)) (.int .i64)), .sl .own (.pair (.int .i64) (.int .i64))]]⟩] (.drawT [0, 1, 2, 3, 4, 5, 6, 7, 8, 9, 10, 11, 12, 13] [12])) (.two (.leaf) (.two (.leaf) (.leaf)))))))))))))) (.leaf)))))) (.two (.leaf) (.leaf))))
theorem s16 : SoundF cx.P cx.G 16 sg16 r16 := by
  have e : denF cx [(13, ⟨sg13, r13⟩), (14, ⟨sg14, r14⟩), (17, ⟨sg17, r17⟩), (20, ⟨sg20, r20⟩)] an16 Try.f16.ntmps (Try.f16.body.getD .skip) Try.f16.results.toList sg16 = r16q := by kernel_rfl
  rw [← r16e, ← e]
  exact sound_of_den (c := cx) (Known.cons (.ofF s13 (by kernel_rfl)) Try.func13 (by kernel_rfl) (by kernel_rfl) (Known.cons (.ofF s14 (by kernel_rfl)) Try.func14 (by kernel_rfl) (by kernel_rfl) (Known.cons (.ofF s17 (by kernel_rfl)) Try.func17 (by kernel_rfl) (by kernel_rfl) (Known.cons (.ofF s20 (by kernel_rfl)) Try.func20 (by kernel_rfl) (by kernel_rfl) (Known.nil))))) Try.func16 (by kernel_rfl) (Nat.le_of_ble_eq_true (by kernel_rfl)) rfl

/-! reredos/reredoskeep.StoreGood -/
def sg4 : Sig := ⟨[⟨false, .bo, (.sl (.pair (.int .i64) (.pair (.int .i64) (.pair (.int .i64) (.pair (.int .i64) (.pair (.int .i64) (.int .i64)))))))⟩], [⟨false, .own, .bool⟩]⟩
noncomputable def r4 (a : List ((Int × (Int × (Int × (Int × (Int × Int))))))) : Option Bool :=
  Option.bind (r16 (a, (40 : Int))) fun (y1 : (List ((Int × (Int × Int))) × (List (((Int × Int) × (Int × (Bool × (Int × Int))))) × (List (((Int × Int) × Int)) × List ((Int × Int)))))) =>
    Option.bind (r17 (y1, ((3 : Int), (9 : Int)), (7 : Int))) fun (y2 : ((List ((Int × (Int × Int))) × (List (((Int × Int) × (Int × (Bool × (Int × Int))))) × (List (((Int × Int) × Int)) × List ((Int × Int))))) × (Int × (Int × Int)))) =>
      Option.bind (
        Option.bind (r18 y1) fun (y3 : Int) =>
          bif decide (y3 = (0 : Int)) then
            some (decide (y2.2.2.2 = (0 : Int)))
          else
            some false) fun (g4 : Bool) =>
        Option.bind (
          bif g4 then
            some (decide ((Go.IntKind.wrap .i64 (y2.2.1 + y2.2.2.1)) = (0 : Int)))
          else
            some false) fun (g5 : Bool) =>
          Option.bind (
            bif g5 then
              Option.bind (r18 y2.1) fun (y6 : Int) =>
                some (decide (y6 = (0 : Int)))
            else
              some false) fun (g7 : Bool) =>
            bif g7 then
              some (decide ((↑y2.1.2.1.length : Int) = (Go.IntKind.wrap .i64 ((↑y1.2.1.length : Int) + (1 : Int)))))
            else
              some false
def an4 : Ann := .two (.leaf) (.two (.leaf) (.two (.leaf) (.two (.segs [(7, ([3, 4, 5, 6], ([3, 4], [.tmp 24 (.bool)]))), (6, ([3, 4], ([3, 4], [.tmp 30 (.bool)]))), (5, ([3, 4], ([3, 4], [.tmp 35 (.bool)])))]) (.leaf))))
theorem s4 : SoundF cx.P cx.G 4 sg4 r4 := by
  have e : denF cx [(16, ⟨sg16, r16⟩), (17, ⟨sg17, r17⟩), (18, ⟨sg18, r18⟩)] an4 Try.f4.ntmps (Try.f4.body.getD .skip) Try.f4.results.toList sg4 = r4 := by kernel_rfl
  rw [← e]
  exact sound_of_den (c := cx) (Known.cons (.ofF s16 (by kernel_rfl)) Try.func16 (by kernel_rfl) (by kernel_rfl) (Known.cons (.ofF s17 (by kernel_rfl)) Try.func17 (by kernel_rfl) (by kernel_rfl) (Known.cons (.ofF s18 (by kernel_rfl)) Try.func18 (by kernel_rfl) (by kernel_rfl) (Known.nil)))) Try.func4 (by kernel_rfl) (Nat.le_of_ble_eq_true (by kernel_rfl)) rfl

/-! reredos/reredoskeep.WriteLater -/
def sg5 : Sig := ⟨[⟨false, .bo, (.sl (.pair (.int .i64) (.pair (.int .i64) (.pair (.int .i64) (.pair (.int .i64) (.pair (.int .i64) (.int .i64)))))))⟩, ⟨false, .bo, (.int .i64)⟩, ⟨false, .bo, (.int .i64)⟩, ⟨false, .bo, (.int .i64)⟩, ⟨false, .bo, (.int .i64)⟩, ⟨false, .bo, (.int .i64)⟩, ⟨false, .bo, (.int .i64)⟩], [⟨false, .own, .bool⟩]⟩
noncomputable def r5 (a : (List ((Int × (Int × (Int × (Int × (Int × Int)))))) × (Int × (Int × (Int × (Int × (Int × Int))))))) : Option Bool :=
  Option.bind (r16 (a.1, (20 : Int))) fun (y1 : (List ((Int × (Int × Int))) × (List (((Int × Int) × (Int × (Bool × (Int × Int))))) × (List (((Int × Int) × Int)) × List ((Int × Int)))))) =>
    Option.bind (r13 (a.2.1, (9 : Int))) fun (y2 : Int) =>
      Option.bind (r13 (a.2.2.1, (8 : Int))) fun (y3 : Int) =>
        Option.bind (r13 (a.2.2.2.2.2.1, (100 : Int))) fun (y4 : Int) =>
          Option.bind (r13 (a.2.2.2.2.2.2, (100 : Int))) fun (y5 : Int) =>
            Option.bind (
              Option.bind (r13 (a.2.2.2.1, (99 : Int))) fun (y10 : Int) =>
                Option.bind (r14 (y1, ((2 : Int), (Go.IntKind.wrap .i64 ((1 : Int) + y2))), y3, y10, (Go.IntKind.wrap .i64 ((Go.IntKind.wrap .i64 (y4 + (1 : Int))) + y5)))) fun (y11 : ((List ((Int × (Int × Int))) × (List (((Int × Int) × (Int × (Bool × (Int × Int))))) × (List (((Int × Int) × Int)) × List ((Int × Int))))) × Int)) =>
                  
                    some ((), (y11.2, y11.1))) fun (d12 : (Unit × (Int × (List ((Int × (Int × Int))) × (List (((Int × Int) × (Int × (Bool × (Int × Int))))) × (List (((Int × Int) × Int)) × List ((Int × Int)))))))) =>
              Option.bind (
                Option.bind (r18 y1) fun (y15 : Int) =>
                  bif !(!(decide (y15 = (0 : Int)))) then
                    bif !(decide (d12.2.1 = (0 : Int))) then
                      some (!(decide (d12.2.1 = (11 : Int))))
                    else
                      some false
                  else
                    some true) fun (d16 : Bool) =>
                bif d16 then
                  some false
                else
                  bif decide (d12.2.1 = (11 : Int)) then
                    some true
                  else
                    Option.bind (
                      Option.bind (r13 (a.2.2.2.2.1, (99 : Int))) fun (y21 : Int) =>
                        Option.bind (r14 (d12.2.2, ((2 : Int), (Go.IntKind.wrap .i64 ((1 : Int) + y2))), y3, y21, y4)) fun (y22 : ((List ((Int × (Int × Int))) × (List (((Int × Int) × (Int × (Bool × (Int × Int))))) × (List (((Int × Int) × Int)) × List ((Int × Int))))) × Int)) =>
                          
                            some y22.2) fun (d23 : Int) =>
                      Option.bind (r17 (d12.2.2, ((2 : Int), (Go.IntKind.wrap .i64 ((1 : Int) + y2))), y3)) fun (y24 : ((List ((Int × (Int × Int))) × (List (((Int × Int) × (Int × (Bool × (Int × Int))))) × (List (((Int × Int) × Int)) × List ((Int × Int))))) × (Int × (Int × Int)))) =>
                        Option.bind (
                          Option.bind (r13 (a.2.2.2.2.1, (99 : Int))) fun (y29 : Int) =>
                            Option.bind (r14 (d12.2.2, ((2 : Int), (Go.IntKind.wrap .i64 ((1 : Int) + y2))), y3, y29, (Go.IntKind.wrap .i64 ((Go.IntKind.wrap .i64 ((Go.IntKind.wrap .i64 (y4 + (1 : Int))) + y5)) + (1 : Int))))) fun (y30 : ((List ((Int × (Int × Int))) × (List (((Int × Int) × (Int × (Bool × (Int × Int))))) × (List (((Int × Int) × Int)) × List ((Int × Int))))) × Int)) =>
                              
                                some y30.2) fun (d31 : Int) =>
                          Option.bind (
                            bif decide (d23 = (13 : Int)) then
                              some (decide (y24.2.2.2 = (0 : Int)))
                            else
                              some false) fun (g32 : Bool) =>
                            Option.bind (
                              bif g32 then
                                some (decide (d31 = (0 : Int)))
                              else
                                some false) fun (g33 : Bool) =>
                              bif g33 then
                                Option.bind (r13 (a.2.2.2.1, (99 : Int))) fun (y34 : Int) =>
                                  some (decide (y24.2.1 = y34))
                              else
                                some false
noncomputable def r5q : (List ((Int × (Int × (Int × (Int × (Int × Int)))))) × (Int × (Int × (Int × (Int × (Int × Int)))))) → Option Bool := fun a =>
  Option.bind (r16 (a.1, (20 : Int))) fun (y1 : (List ((Int × (Int × Int))) × (List (((Int × Int) × (Int × (Bool × (Int × Int))))) × (List (((Int × Int) × Int)) × List ((Int × Int)))))) =>
    Option.bind (r13 (a.2.1, (9 : Int))) fun (y2 : Int) =>
      Option.bind (r13 (a.2.2.1, (8 : Int))) fun (y3 : Int) =>
        Option.bind (r13 (a.2.2.2.2.2.1, (100 : Int))) fun (y4 : Int) =>
          Option.bind (r13 (a.2.2.2.2.2.2, (100 : Int))) fun (y5 : Int) =>
            Option.bind (
              Option.bind (r13 (a.2.2.2.1, (99 : Int))) fun (y10 : Int) =>
                Option.bind (r14 (y1, ((2 : Int), (Go.IntKind.wrap .i64 ((1 : Int) + y2))), y3, y10, (Go.IntKind.wrap .i64 ((Go.IntKind.wrap .i64 (y4 + (1 : Int))) + y5)))) fun (y11 : ((List ((Int × (Int × Int))) × (List (((Int × Int) × (Int × (Bool × (Int × Int))))) × (List (((Int × Int) × Int)) × List ((Int × Int))))) × Int)) =>
                  sameR (
                    some ((), (y11.2, y11.1)))
 (
                    sameR (
                      some ((), (y11.2, y11.1)))
 (
                      some ((), (y11.2, y11.1))))) fun (d12 : (Unit × (Int × (List ((Int × (Int × Int))) × (List (((Int × Int) × (Int × (Bool × (Int × Int))))) × (List (((Int × Int) × Int)) × List ((Int × Int)))))))) =>
              Option.bind (
                Option.bind (r18 y1) fun (y15 : Int) =>
                  bif !(!(decide (y15 = (0 : Int)))) then
                    bif !(decide (d12.2.1 = (0 : Int))) then
                      some (!(decide (d12.2.1 = (11 : Int))))
                    else
                      some false
                  else
                    some true) fun (d16 : Bool) =>
                bif d16 then
                  some false
                else
                  bif decide (d12.2.1 = (11 : Int)) then
                    some true
                  else
                    Option.bind (
                      Option.bind (r13 (a.2.2.2.2.1, (99 : Int))) fun (y21 : Int) =>
                        Option.bind (r14 (d12.2.2, ((2 : Int), (Go.IntKind.wrap .i64 ((1 : Int) + y2))), y3, y21, y4)) fun (y22 : ((List ((Int × (Int × Int))) × (List (((Int × Int) × (Int × (Bool × (Int × Int))))) × (List (((Int × Int) × Int)) × List ((Int × Int))))) × Int)) =>
                          sameR (
                            some y22.2)
 (
                            sameR (
                              some y22.2)
 (
                              some y22.2))) fun (d23 : Int) =>
                      Option.bind (r17 (d12.2.2, ((2 : Int), (Go.IntKind.wrap .i64 ((1 : Int) + y2))), y3)) fun (y24 : ((List ((Int × (Int × Int))) × (List (((Int × Int) × (Int × (Bool × (Int × Int))))) × (List (((Int × Int) × Int)) × List ((Int × Int))))) × (Int × (Int × Int)))) =>
                        Option.bind (
                          Option.bind (r13 (a.2.2.2.2.1, (99 : Int))) fun (y29 : Int) =>
                            Option.bind (r14 (d12.2.2, ((2 : Int), (Go.IntKind.wrap .i64 ((1 : Int) + y2))), y3, y29, (Go.IntKind.wrap .i64 ((Go.IntKind.wrap .i64 ((Go.IntKind.wrap .i64 (y4 + (1 : Int))) + y5)) + (1 : Int))))) fun (y30 : ((List ((Int × (Int × Int))) × (List (((Int × Int) × (Int × (Bool × (Int × Int))))) × (List (((Int × Int) × Int)) × List ((Int × Int))))) × Int)) =>
                              sameR (
                                some y30.2)
 (
                                sameR (
                                  some y30.2)
 (
                                  some y30.2))) fun (d31 : Int) =>
                          Option.bind (
                            bif decide (d23 = (13 : Int)) then
                              some (decide (y24.2.2.2 = (0 : Int)))
                            else
                              some false) fun (g32 : Bool) =>
                            Option.bind (
                              bif g32 then
                                some (decide (d31 = (0 : Int)))
                              else
                                some false) fun (g33 : Bool) =>
                              bif g33 then
                                Option.bind (r13 (a.2.2.2.1, (99 : Int))) fun (y34 : Int) =>
                                  some (decide (y24.2.1 = y34))
                              else
                                some false
theorem r5e : r5q = r5 := by unfold r5q r5; simp only [sameR_self]
def an5 : Ann := .two (.leaf) (.two (.leaf) (.two (.leaf) (.two (.leaf) (.two (.leaf) (.two (.leaf) (.two (.join [3, 4, 15, 16, 17, 18, 19] [15, 16] [⟨.normal, [], [.tmp 20 (.pt 20 [(0, 0)] 0 0 4), .tmp 21 (.int .i64), .box 20 [.sl .own (.pair (.int .i64) (.pair (.int .i64) (.int .i64))), .sl .own (.pair (.pair (.int .i64) (.int .i64)) (.pair (.int .i64) (.pair .bool (.pair (.int .i64) (.int .i64))))), .sl .own (.pair (.pair (.int .i64) (.int .i64)) (.int .i64)), .sl .own (.pair (.int .i64) (.int .i64))]]⟩] (.drawT [0, 1, 2, 3, 4, 5, 6, 7, 8, 9, 10] [9])) (.two (.two (.join [3, 4, 16, 17, 18, 19, 20, 21] [16, 20] [⟨.normal, [], [.tmp 65 (.bool)]⟩] (.leaf)) (.two (.two (.leaf) (.leaf)) (.leaf))) (.two (.two (.leaf) (.two (.two (.leaf) (.leaf)) (.leaf))) (.two (.join [3, 4, 16, 17, 19, 20] [16, 20] [⟨.normal, [], [.tmp 23 (.int .i64)]⟩] (.drawT [0, 1, 2, 3, 4, 5, 6, 7, 8, 9, 10] [9])) (.two (.leaf) (.two (.join [3, 23, 25, 27] [] [⟨.normal, [], [.tmp 29 (.int .i64)]⟩] (.drawT [0, 1, 2, 3, 4, 5, 6, 7, 8, 9, 10, 11] [10])) (.two (.segs [(6, ([3, 25, 29], ([], [.tmp 103 (.bool)]))), (4, ([3, 25], ([], [.tmp 107 (.bool)])))]) (.leaf)))))))))))))
theorem s5 : SoundF cx.P cx.G 5 sg5 r5 := by
  have e : denF cx [(13, ⟨sg13, r13⟩), (14, ⟨sg14, r14⟩), (16, ⟨sg16, r16⟩), (17, ⟨sg17, r17⟩), (18, ⟨sg18, r18⟩)] an5 Try.f5.ntmps (Try.f5.body.getD .skip) Try.f5.results.toList sg5 = r5q := by kernel_rfl
  rw [← r5e, ← e]
  exact sound_of_den (c := cx) (Known.cons (.ofF s13 (by kernel_rfl)) Try.func13 (by kernel_rfl) (by kernel_rfl) (Known.cons (.ofF s14 (by kernel_rfl)) Try.func14 (by kernel_rfl) (by kernel_rfl) (Known.cons (.ofF s16 (by kernel_rfl)) Try.func16 (by kernel_rfl) (by kernel_rfl) (Known.cons (.ofF s17 (by kernel_rfl)) Try.func17 (by kernel_rfl) (by kernel_rfl) (Known.cons (.ofF s18 (by kernel_rfl)) Try.func18 (by kernel_rfl) (by kernel_rfl) (Known.nil)))))) Try.func5 (by kernel_rfl) (Nat.le_of_ble_eq_true (by kernel_rfl)) rfl

/-! reredos/reredoskeep.storeTells -/
def sg19 : Sig := ⟨[], [⟨false, .own, .bool⟩]⟩
noncomputable def r19 (_a : Unit) : Option Bool :=
  Option.bind (r17 (([], ([], ([], []))), ((3 : Int), (9 : Int)), (7 : Int))) fun (y1 : ((List ((Int × (Int × Int))) × (List (((Int × Int) × (Int × (Bool × (Int × Int))))) × (List (((Int × Int) × Int)) × List ((Int × Int))))) × (Int × (Int × Int)))) =>
    bif decide (y1.2.2.2 = (0 : Int)) then
      some (decide ((↑y1.1.2.1.length : Int) = (1 : Int)))
    else
      some false
def an19 : Ann := .two (.leaf) (.two (.leaf) (.two (.leaf) (.leaf)))
theorem s19 : SoundF cx.P cx.G 19 sg19 r19 := by
  have e : denF cx [(17, ⟨sg17, r17⟩)] an19 Try.f19.ntmps (Try.f19.body.getD .skip) Try.f19.results.toList sg19 = r19 := by kernel_rfl
  rw [← e]
  exact sound_of_den (c := cx) (Known.cons (.ofF s17 (by kernel_rfl)) Try.func17 (by kernel_rfl) (by kernel_rfl) (Known.nil)) Try.func19 (by kernel_rfl) (Nat.le_of_ble_eq_true (by kernel_rfl)) rfl

/-! reredos/reredoskeep.EndOthers -/
noncomputable def r6_L0 (y2 : (List ((Int × (Int × Int))) × (List (((Int × Int) × (Int × (Bool × (Int × Int))))) × (List (((Int × Int) × Int)) × List ((Int × Int)))))) (y3 : Int) (y4 : Int) (d11 : (Unit × (Int × List (((Int × Int) × (Int × (Bool × (Int × Int)))))))) : Option ((Unit × (Int × List (((Int × Int) × (Int × (Bool × (Int × Int))))))) ⊕ (Unit × List (((Int × Int) × (Int × (Bool × (Int × Int))))))) :=
  bif decide (d11.2.1 < (↑y2.2.1.length : Int)) then
    Option.bind (
      bif inB d11.2.1 y2.2.1.length then
        Option.bind (idxN y2.2.1 (Int.toNat d11.2.1)) fun (x14 : ((Int × Int) × (Int × (Bool × (Int × Int))))) =>
          bif !((decide (x14.1.1 = y3) && (decide (x14.1.2 = (Go.IntKind.wrap .i64 ((1 : Int) + y4))) && true))) then
            bif roomOk false d11.2.2.length 1 48 then
              some ((), app d11.2.2 [x14])
            else
              none
          else
            some ((), d11.2.2)
      else
        none) fun (d15 : (Unit × List (((Int × Int) × (Int × (Bool × (Int × Int))))))) =>
      some (Sum.inl ((), ((Go.IntKind.wrap .i64 (d11.2.1 + (1 : Int))), d15.2)))
  else
    some (Sum.inr ((), d11.2.2))
noncomputable def r6_L1 (q16 : (Unit × List (((Int × Int) × (Int × (Bool × (Int × Int))))))) (y5 : ((List ((Int × (Int × Int))) × (List (((Int × Int) × (Int × (Bool × (Int × Int))))) × (List (((Int × Int) × Int)) × List ((Int × Int))))) × Int)) (d18 : Int) : Option (Int ⊕ (Unit ⊕ Bool)) :=
  bif decide (d18 < (↑q16.2.length : Int)) then
    bif inB d18 q16.2.length then
      Option.bind (idxN q16.2 (Int.toNat d18)) fun (x21 : ((Int × Int) × (Int × (Bool × (Int × Int))))) =>
        bif inB d18 y5.1.2.1.length then
          Option.bind (idxN y5.1.2.1 (Int.toNat d18)) fun (x22 : ((Int × Int) × (Int × (Bool × (Int × Int))))) =>
            bif !(((decide (x21.1.1 = x22.1.1) && (decide (x21.1.2 = x22.1.2) && true)) && (decide (x21.2.1 = x22.2.1) && (decide (x21.2.2.1 = x22.2.2.1) && (decide (x21.2.2.2.1 = x22.2.2.2.1) && (decide (x21.2.2.2.2 = x22.2.2.2.2) && true)))))) then
              some (Sum.inr (Sum.inr false))
            else
              some (Sum.inl (Go.IntKind.wrap .i64 (d18 + (1 : Int))))
        else
          none
    else
      none
  else
    some (Sum.inr (Sum.inl ()))
def sg6 : Sig := ⟨[⟨false, .bo, (.sl (.pair (.int .i64) (.pair (.int .i64) (.pair (.int .i64) (.pair (.int .i64) (.pair (.int .i64) (.int .i64)))))))⟩, ⟨false, .bo, (.int .i64)⟩, ⟨false, .bo, (.int .i64)⟩, ⟨false, .bo, .bool⟩], [⟨false, .own, .bool⟩]⟩
noncomputable def r6 (a : (List ((Int × (Int × (Int × (Int × (Int × Int)))))) × (Int × (Int × Bool)))) : Option Bool :=
  Option.bind (r19 ()) fun (y1 : Bool) =>
    bif !(y1) then
      some false
    else
      Option.bind (r16 (a.1, (30 : Int))) fun (y2 : (List ((Int × (Int × Int))) × (List (((Int × Int) × (Int × (Bool × (Int × Int))))) × (List (((Int × Int) × Int)) × List ((Int × Int)))))) =>
        Option.bind (r13 (a.2.1, (2 : Int))) fun (y3 : Int) =>
          Option.bind (r13 (a.2.2.1, (5 : Int))) fun (y4 : Int) =>
            Option.bind (r20 (y2, (y3, (Go.IntKind.wrap .i64 ((1 : Int) + y4))), a.2.2.2)) fun (y5 : ((List ((Int × (Int × Int))) × (List (((Int × Int) × (Int × (Bool × (Int × Int))))) × (List (((Int × Int) × Int)) × List ((Int × Int))))) × Int)) =>
              Option.bind (loopR (r6_L0 y2 y3 y4) ((), ((0 : Int), []))) fun (q16 : (Unit × List (((Int × Int) × (Int × (Bool × (Int × Int))))))) =>
                Option.bind (
                  bif !(!(decide (y5.2 = (0 : Int)))) then
                    some (!(decide ((↑q16.2.length : Int) = (↑y5.1.2.1.length : Int))))
                  else
                    some true) fun (d17 : Bool) =>
                  bif d17 then
                    some false
                  else
                    Option.bind (loopR (r6_L1 q16 y5) (0 : Int)) fun (q23 : (Unit ⊕ Bool)) =>
                      Sum.elim (fun (_ : Unit) =>
                          some true)
                        (fun (v25 : Bool) =>
                          some v25) q23
def an6 : Ann := .two (.leaf) (.two (.two (.leaf) (.two (.two (.leaf) (.leaf)) (.leaf))) (.two (.leaf) (.two (.leaf) (.two (.leaf) (.two (.leaf) (.two (.two (.leaf) (.one (.loop [10, 11, 12, 35, 36] [9, 10, 11] [(13, (.pair (.pair (.int .i64) (.int .i64)) (.pair (.int .i64) (.pair .bool (.pair (.int .i64) (.int .i64))))))] [.tmp 13 (.own 13 [(0, 0)] (.pair (.pair (.int .i64) (.int .i64)) (.pair (.int .i64) (.pair .bool (.pair (.int .i64) (.int .i64)))))), .tmp 37 (.int .i64), .row 13 [.sl .own (.pair (.pair (.int .i64) (.int .i64)) (.pair (.int .i64) (.pair .bool (.pair (.int .i64) (.int .i64)))))]] [⟨.exit 0, [], [.tmp 13 (.own 13 [(0, 0)] (.pair (.pair (.int .i64) (.int .i64)) (.pair (.int .i64) (.pair .bool (.pair (.int .i64) (.int .i64)))))), .row 13 [.sl .own (.pair (.pair (.int .i64) (.int .i64)) (.pair (.int .i64) (.pair .bool (.pair (.int .i64) (.int .i64)))))]]⟩] (.two (.leaf) (.two (.two (.leaf) (.leaf)) (.two (.join [10, 11, 12, 35, 36, 37] [9, 10, 11] [⟨.normal, [(13, (.pair (.pair (.int .i64) (.int .i64)) (.pair (.int .i64) (.pair .bool (.pair (.int .i64) (.int .i64))))))], [.tmp 13 (.own 13 [(0, 0)] (.pair (.pair (.int .i64) (.int .i64)) (.pair (.int .i64) (.pair .bool (.pair (.int .i64) (.int .i64)))))), .row 13 [.sl .own (.pair (.pair (.int .i64) (.int .i64)) (.pair (.int .i64) (.pair .bool (.pair (.int .i64) (.int .i64)))))]]⟩] (.one (.two (.leaf) (.two (.leaf) (.two (.leaf) (.leaf)))))) (.leaf))))))) (.two (.two (.join [11, 13] [11, 13] [⟨.normal, [], [.tmp 59 (.bool)]⟩] (.leaf)) (.two (.two (.leaf) (.leaf)) (.leaf))) (.two (.two (.leaf) (.one (.loop [11, 13, 61] [11, 13] [] [.tmp 62 (.int .i64)] [⟨.exit 2, [], []⟩, ⟨.ret, [], [.tmp 8 (.bool)]⟩] (.two (.leaf) (.two (.two (.leaf) (.leaf)) (.two (.one (.two (.leaf) (.two (.draw 9) (.two (.two (.leaf) (.leaf)) (.leaf))))) (.leaf))))))) (.two (.leaf) (.leaf))))))))))
theorem s6 : SoundF cx.P cx.G 6 sg6 r6 := by
  have e : denF cx [(13, ⟨sg13, r13⟩), (16, ⟨sg16, r16⟩), (19, ⟨sg19, r19⟩), (20, ⟨sg20, r20⟩)] an6 Try.f6.ntmps (Try.f6.body.getD .skip) Try.f6.results.toList sg6 = r6 := by kernel_rfl
  rw [← e]
  exact sound_of_den (c := cx) (Known.cons (.ofF s13 (by kernel_rfl)) Try.func13 (by kernel_rfl) (by kernel_rfl) (Known.cons (.ofF s16 (by kernel_rfl)) Try.func16 (by kernel_rfl) (by kernel_rfl) (Known.cons (.ofF s19 (by kernel_rfl)) Try.func19 (by kernel_rfl) (by kernel_rfl) (Known.cons (.ofF s20 (by kernel_rfl)) Try.func20 (by kernel_rfl) (by kernel_rfl) (Known.nil))))) Try.func6 (by kernel_rfl) (Nat.le_of_ble_eq_true (by kernel_rfl)) rfl

/-! reredos/store.Peek -/
def sg21 : Sig := ⟨[⟨true, .bo, (.pair (.sl (.pair (.int .i64) (.pair (.int .i64) (.int .i64)))) (.pair (.sl (.pair (.pair (.int .i64) (.int .i64)) (.pair (.int .i64) (.pair .bool (.pair (.int .i64) (.int .i64)))))) (.pair (.sl (.pair (.pair (.int .i64) (.int .i64)) (.int .i64))) (.sl (.pair (.int .i64) (.int .i64))))))⟩, ⟨false, .bo, (.int .i64)⟩], [⟨false, .own, (.int .i64)⟩, ⟨false, .own, (.int .i64)⟩, ⟨false, .own, (.int .i64)⟩]⟩
noncomputable def r21 (a : ((List ((Int × (Int × Int))) × (List (((Int × Int) × (Int × (Bool × (Int × Int))))) × (List (((Int × Int) × Int)) × List ((Int × Int))))) × Int)) : Option (Int × (Int × Int)) :=
  Option.bind (r26 (a.1, ((0 : Int), (1 : Int)), a.2)) fun (y1 : Int) =>
    bif !(decide (y1 = (0 : Int))) then
      some ((0 : Int), ((0 : Int), y1))
    else
      Option.bind (r29 (a.1, ((0 : Int), (0 : Int)), a.2, false)) fun (y2 : Bool) =>
        bif y2 then
          some ((0 : Int), ((0 : Int), (11 : Int)))
        else
          Option.bind (r30 (a.1, a.2)) fun (y3 : (Int × (Int × Int))) =>
            some (y3.2.1, (y3.2.2, (0 : Int)))
def an21 : Ann := .two (.leaf) (.two (.two (.leaf) (.two (.leaf) (.two (.two (.leaf) (.leaf)) (.leaf)))) (.two (.two (.leaf) (.two (.two (.leaf) (.leaf)) (.leaf))) (.two (.leaf) (.two (.draw 5) (.leaf)))))
theorem s21 : SoundF cx.P cx.G 21 sg21 r21 := by
  have e : denF cx [(26, ⟨sg26, r26⟩), (29, ⟨sg29, r29⟩), (30, ⟨sg30, r30⟩)] an21 Try.f21.ntmps (Try.f21.body.getD .skip) Try.f21.results.toList sg21 = r21 := by kernel_rfl
  rw [← e]
  exact sound_of_den (c := cx) (Known.cons (.ofF s26 (by kernel_rfl)) Try.func26 (by kernel_rfl) (by kernel_rfl) (Known.cons (.ofF s29 (by kernel_rfl)) Try.func29 (by kernel_rfl) (by kernel_rfl) (Known.cons (.ofF s30 (by kernel_rfl)) Try.func30 (by kernel_rfl) (by kernel_rfl) (Known.nil)))) Try.func21 (by kernel_rfl) (Nat.le_of_ble_eq_true (by kernel_rfl)) rfl

/-! reredos/reredoskeep.EndApplies -/
def sg7 : Sig := ⟨[⟨false, .bo, (.sl (.pair (.int .i64) (.pair (.int .i64) (.pair (.int .i64) (.pair (.int .i64) (.pair (.int .i64) (.int .i64)))))))⟩, ⟨false, .bo, (.int .i64)⟩, ⟨false, .bo, (.int .i64)⟩, ⟨false, .bo, (.int .i64)⟩, ⟨false, .bo, .bool⟩], [⟨false, .own, .bool⟩]⟩
noncomputable def r7 (a : (List ((Int × (Int × (Int × (Int × (Int × Int)))))) × (Int × (Int × (Int × Bool))))) : Option Bool :=
  Option.bind (r16 (a.1, (30 : Int))) fun (y1 : (List ((Int × (Int × Int))) × (List (((Int × Int) × (Int × (Bool × (Int × Int))))) × (List (((Int × Int) × Int)) × List ((Int × Int)))))) =>
    Option.bind (r13 (a.2.1, (9 : Int))) fun (y2 : Int) =>
      Option.bind (r13 (a.2.2.1, (8 : Int))) fun (y3 : Int) =>
        Option.bind (r21 (y1, y3)) fun (y4 : (Int × (Int × Int))) =>
          Option.bind (
            Option.bind (r13 (a.2.2.2.1, (99 : Int))) fun (y9 : Int) =>
              Option.bind (r14 (y1, ((2 : Int), (Go.IntKind.wrap .i64 ((1 : Int) + y2))), y3, y9, (0 : Int))) fun (y10 : ((List ((Int × (Int × Int))) × (List (((Int × Int) × (Int × (Bool × (Int × Int))))) × (List (((Int × Int) × Int)) × List ((Int × Int))))) × Int)) =>
                
                  some ((), (y10.2, y10.1))) fun (d11 : (Unit × (Int × (List ((Int × (Int × Int))) × (List (((Int × Int) × (Int × (Bool × (Int × Int))))) × (List (((Int × Int) × Int)) × List ((Int × Int)))))))) =>
            Option.bind (r18 y1) fun (y12 : Int) =>
              bif !(decide (y12 = (0 : Int))) then
                some false
              else
                bif !(decide (d11.2.1 = (0 : Int))) then
                  some (decide (d11.2.1 = (11 : Int)))
                else
                  Option.bind (r20 (d11.2.2, ((2 : Int), (Go.IntKind.wrap .i64 ((1 : Int) + y2))), a.2.2.2.2)) fun (y13 : ((List ((Int × (Int × Int))) × (List (((Int × Int) × (Int × (Bool × (Int × Int))))) × (List (((Int × Int) × Int)) × List ((Int × Int))))) × Int)) =>
                    Option.bind (r21 (y13.1, y3)) fun (y14 : (Int × (Int × Int))) =>
                      Option.bind (
                        Option.bind (
                          bif !(!(decide (y4.2.2 = (0 : Int)))) then
                            some (!(decide (y13.2 = (0 : Int))))
                          else
                            some true) fun (g21 : Bool) =>
                          Option.bind (
                            bif !(g21) then
                              some (!(decide (y14.2.2 = (0 : Int))))
                            else
                              some true) fun (g22 : Bool) =>
                            bif !(g22) then
                              Option.bind (r18 y13.1) fun (y23 : Int) =>
                                some (!(decide (y23 = (0 : Int))))
                            else
                              some true) fun (d24 : Bool) =>
                        bif d24 then
                          some false
                        else
                          bif a.2.2.2.2 then
                            Option.bind (r13 (a.2.2.2.1, (99 : Int))) fun (y25 : Int) =>
                              bif decide (y14.1 = y25) then
                                some (decide (y14.2.1 = (Go.IntKind.wrap .i64 (y4.2.1 + (1 : Int)))))
                              else
                                some false
                          else
                            bif decide (y14.1 = y4.1) then
                              some (decide (y14.2.1 = y4.2.1))
                            else
                              some false
noncomputable def r7q : (List ((Int × (Int × (Int × (Int × (Int × Int)))))) × (Int × (Int × (Int × Bool)))) → Option Bool := fun a =>
  Option.bind (r16 (a.1, (30 : Int))) fun (y1 : (List ((Int × (Int × Int))) × (List (((Int × Int) × (Int × (Bool × (Int × Int))))) × (List (((Int × Int) × Int)) × List ((Int × Int)))))) =>
    Option.bind (r13 (a.2.1, (9 : Int))) fun (y2 : Int) =>
      Option.bind (r13 (a.2.2.1, (8 : Int))) fun (y3 : Int) =>
        Option.bind (r21 (y1, y3)) fun (y4 : (Int × (Int × Int))) =>
          Option.bind (
            Option.bind (r13 (a.2.2.2.1, (99 : Int))) fun (y9 : Int) =>
              Option.bind (r14 (y1, ((2 : Int), (Go.IntKind.wrap .i64 ((1 : Int) + y2))), y3, y9, (0 : Int))) fun (y10 : ((List ((Int × (Int × Int))) × (List (((Int × Int) × (Int × (Bool × (Int × Int))))) × (List (((Int × Int) × Int)) × List ((Int × Int))))) × Int)) =>
                sameR (
                  some ((), (y10.2, y10.1)))
 (
                  sameR (
                    some ((), (y10.2, y10.1)))
 (
                    some ((), (y10.2, y10.1))))) fun (d11 : (Unit × (Int × (List ((Int × (Int × Int))) × (List (((Int × Int) × (Int × (Bool × (Int × Int))))) × (List (((Int × Int) × Int)) × List ((Int × Int)))))))) =>
            Option.bind (r18 y1) fun (y12 : Int) =>
              bif !(decide (y12 = (0 : Int))) then
                some false
              else
                bif !(decide (d11.2.1 = (0 : Int))) then
                  some (decide (d11.2.1 = (11 : Int)))
                else
                  Option.bind (r20 (d11.2.2, ((2 : Int), (Go.IntKind.wrap .i64 ((1 : Int) + y2))), a.2.2.2.2)) fun (y13 : ((List ((Int × (Int × Int))) × (List (((Int × Int) × (Int × (Bool × (Int × Int))))) × (List (((Int × Int) × Int)) × List ((Int × Int))))) × Int)) =>
                    Option.bind (r21 (y13.1, y3)) fun (y14 : (Int × (Int × Int))) =>
                      Option.bind (
                        Option.bind (
                          bif !(!(decide (y4.2.2 = (0 : Int)))) then
                            some (!(decide (y13.2 = (0 : Int))))
                          else
                            some true) fun (g21 : Bool) =>
                          Option.bind (
                            bif !(g21) then
                              some (!(decide (y14.2.2 = (0 : Int))))
                            else
                              some true) fun (g22 : Bool) =>
                            bif !(g22) then
                              Option.bind (r18 y13.1) fun (y23 : Int) =>
                                some (!(decide (y23 = (0 : Int))))
                            else
                              some true) fun (d24 : Bool) =>
                        bif d24 then
                          some false
                        else
                          bif a.2.2.2.2 then
                            Option.bind (r13 (a.2.2.2.1, (99 : Int))) fun (y25 : Int) =>
                              bif decide (y14.1 = y25) then
                                some (decide (y14.2.1 = (Go.IntKind.wrap .i64 (y4.2.1 + (1 : Int)))))
                              else
                                some false
                          else
                            bif decide (y14.1 = y4.1) then
                              some (decide (y14.2.1 = y4.2.1))
                            else
                              some false
theorem r7e : r7q = r7 := by unfold r7q r7; simp only [sameR_self]
def an7 : Ann := .two (.leaf) (.two (.leaf) (.two (.leaf) (.two (.leaf) (.two (.leaf) (.two (.join [3, 4, 11, 12, 13, 14, 15, 16] [11, 12] [⟨.normal, [], [.tmp 17 (.pt 17 [(0, 0)] 0 0 4), .tmp 18 (.int .i64), .box 17 [.sl .own (.pair (.int .i64) (.pair (.int .i64) (.int .i64))), .sl .own (.pair (.pair (.int .i64) (.int .i64)) (.pair (.int .i64) (.pair .bool (.pair (.int .i64) (.int .i64))))), .sl .own (.pair (.pair (.int .i64) (.int .i64)) (.int .i64)), .sl .own (.pair (.int .i64) (.int .i64))]]⟩] (.drawT [0, 1, 2, 3, 4, 5, 6, 7, 8, 9] [8])) (.two (.two (.leaf) (.two (.two (.leaf) (.leaf)) (.leaf))) (.two (.two (.leaf) (.two (.two (.leaf) (.leaf)) (.leaf))) (.two (.leaf) (.two (.leaf) (.two (.two (.join [3, 4, 14, 15, 21, 22] [] [⟨.normal, [], [.tmp 83 (.bool)]⟩] (.segs [(6, ([3, 4, 14, 15, 19, 21, 22, 23], ([19], [.tmp 74 (.bool)]))), (4, ([3, 4, 14, 15, 19, 21, 22], ([19], [.tmp 78 (.bool)])))])) (.two (.two (.leaf) (.leaf)) (.leaf))) (.two (.two (.leaf) (.two (.two (.leaf) (.leaf)) (.leaf))) (.two (.leaf) (.leaf)))))))))))))
theorem s7 : SoundF cx.P cx.G 7 sg7 r7 := by
  have e : denF cx [(13, ⟨sg13, r13⟩), (14, ⟨sg14, r14⟩), (16, ⟨sg16, r16⟩), (18, ⟨sg18, r18⟩), (20, ⟨sg20, r20⟩), (21, ⟨sg21, r21⟩)] an7 Try.f7.ntmps (Try.f7.body.getD .skip) Try.f7.results.toList sg7 = r7q := by kernel_rfl
  rw [← r7e, ← e]
  exact sound_of_den (c := cx) (Known.cons (.ofF s13 (by kernel_rfl)) Try.func13 (by kernel_rfl) (by kernel_rfl) (Known.cons (.ofF s14 (by kernel_rfl)) Try.func14 (by kernel_rfl) (by kernel_rfl) (Known.cons (.ofF s16 (by kernel_rfl)) Try.func16 (by kernel_rfl) (by kernel_rfl) (Known.cons (.ofF s18 (by kernel_rfl)) Try.func18 (by kernel_rfl) (by kernel_rfl) (Known.cons (.ofF s20 (by kernel_rfl)) Try.func20 (by kernel_rfl) (by kernel_rfl) (Known.cons (.ofF s21 (by kernel_rfl)) Try.func21 (by kernel_rfl) (by kernel_rfl) (Known.nil))))))) Try.func7 (by kernel_rfl) (Nat.le_of_ble_eq_true (by kernel_rfl)) rfl

/-! reredos/reredoskeep.PeekNothing -/
def sg8 : Sig := ⟨[⟨false, .bo, (.sl (.pair (.int .i64) (.pair (.int .i64) (.pair (.int .i64) (.pair (.int .i64) (.pair (.int .i64) (.int .i64)))))))⟩, ⟨false, .bo, (.int .i64)⟩, ⟨false, .bo, (.int .i64)⟩], [⟨false, .own, .bool⟩]⟩
noncomputable def r8 (a : (List ((Int × (Int × (Int × (Int × (Int × Int)))))) × (Int × Int))) : Option Bool :=
  Option.bind (r19 ()) fun (y1 : Bool) =>
    bif !(y1) then
      some false
    else
      Option.bind (r16 (a.1, (30 : Int))) fun (y2 : (List ((Int × (Int × Int))) × (List (((Int × Int) × (Int × (Bool × (Int × Int))))) × (List (((Int × Int) × Int)) × List ((Int × Int)))))) =>
        Option.bind (r13 (a.2.2, (8 : Int))) fun (y3 : Int) =>
          Option.bind (r21 (y2, y3)) fun (y4 : (Int × (Int × Int))) =>
            Option.bind (
              Option.bind (r13 (a.2.1, (9 : Int))) fun (y13 : Int) =>
                Option.bind (r17 (y2, ((3 : Int), (Go.IntKind.wrap .i64 ((1 : Int) + y13))), y3)) fun (y14 : ((List ((Int × (Int × Int))) × (List (((Int × Int) × (Int × (Bool × (Int × Int))))) × (List (((Int × Int) × Int)) × List ((Int × Int))))) × (Int × (Int × Int)))) =>
                  
                    some ((), (y14.2.2.2, y14.1))) fun (d15 : (Unit × (Int × (List ((Int × (Int × Int))) × (List (((Int × Int) × (Int × (Bool × (Int × Int))))) × (List (((Int × Int) × Int)) × List ((Int × Int)))))))) =>
              Option.bind (r18 y2) fun (y16 : Int) =>
                bif !(decide (y16 = (0 : Int))) then
                  some false
                else
                  bif !(decide (y4.2.2 = (0 : Int))) then
                    bif decide (y4.2.2 = (11 : Int)) then
                      some (decide (d15.2.1 = (11 : Int)))
                    else
                      some false
                  else
                    Option.bind (r21 (d15.2.2, y3)) fun (y17 : (Int × (Int × Int))) =>
                      Option.bind (
                        bif decide (d15.2.1 = (0 : Int)) then
                          some (decide (y17.2.2 = (0 : Int)))
                        else
                          some false) fun (g18 : Bool) =>
                        Option.bind (
                          bif g18 then
                            some (decide (y4.1 = y17.1))
                          else
                            some false) fun (g19 : Bool) =>
                          bif g19 then
                            some (decide (y4.2.1 = y17.2.1))
                          else
                            some false
noncomputable def r8q : (List ((Int × (Int × (Int × (Int × (Int × Int)))))) × (Int × Int)) → Option Bool := fun a =>
  Option.bind (r19 ()) fun (y1 : Bool) =>
    bif !(y1) then
      some false
    else
      Option.bind (r16 (a.1, (30 : Int))) fun (y2 : (List ((Int × (Int × Int))) × (List (((Int × Int) × (Int × (Bool × (Int × Int))))) × (List (((Int × Int) × Int)) × List ((Int × Int)))))) =>
        Option.bind (r13 (a.2.2, (8 : Int))) fun (y3 : Int) =>
          Option.bind (r21 (y2, y3)) fun (y4 : (Int × (Int × Int))) =>
            Option.bind (
              Option.bind (r13 (a.2.1, (9 : Int))) fun (y13 : Int) =>
                Option.bind (r17 (y2, ((3 : Int), (Go.IntKind.wrap .i64 ((1 : Int) + y13))), y3)) fun (y14 : ((List ((Int × (Int × Int))) × (List (((Int × Int) × (Int × (Bool × (Int × Int))))) × (List (((Int × Int) × Int)) × List ((Int × Int))))) × (Int × (Int × Int)))) =>
                  sameR (
                    some ((), (y14.2.2.2, y14.1)))
 (
                    sameR (
                      sameR (
                        some ((), (y14.2.2.2, y14.1)))
 (
                        sameR (
                          some ((), (y14.2.2.2, y14.1)))
 (
                          some ((), (y14.2.2.2, y14.1)))))
 (
                      sameR (
                        sameR (
                          some ((), (y14.2.2.2, y14.1)))
 (
                          some ((), (y14.2.2.2, y14.1))))
 (
                        sameR (
                          sameR (
                            some ((), (y14.2.2.2, y14.1)))
 (
                            sameR (
                              sameR (
                                some ((), (y14.2.2.2, y14.1)))
 (
                                some ((), (y14.2.2.2, y14.1))))
 (
                              sameR (
                                some ((), (y14.2.2.2, y14.1)))
 (
                                sameR (
                                  some ((), (y14.2.2.2, y14.1)))
 (
                                  some ((), (y14.2.2.2, y14.1)))))))
 (
                          sameR (
                            some ((), (y14.2.2.2, y14.1)))
 (
                            sameR (
                              sameR (
                                some ((), (y14.2.2.2, y14.1)))
 (
                                sameR (
                                  some ((), (y14.2.2.2, y14.1)))
 (
                                  some ((), (y14.2.2.2, y14.1)))))
 (
                              sameR (
                                sameR (
                                  some ((), (y14.2.2.2, y14.1)))
 (
                                  some ((), (y14.2.2.2, y14.1))))
 (
                                sameR (
                                  some ((), (y14.2.2.2, y14.1)))
 (
                                  sameR (
                                    sameR (
                                      some ((), (y14.2.2.2, y14.1)))
 (
                                      some ((), (y14.2.2.2, y14.1))))
 (
                                    sameR (
                                      some ((), (y14.2.2.2, y14.1)))
 (
                                      sameR (
                                        some ((), (y14.2.2.2, y14.1)))
 (
                                        some ((), (y14.2.2.2, y14.1)))))))))))))) fun (d15 : (Unit × (Int × (List ((Int × (Int × Int))) × (List (((Int × Int) × (Int × (Bool × (Int × Int))))) × (List (((Int × Int) × Int)) × List ((Int × Int)))))))) =>
              Option.bind (r18 y2) fun (y16 : Int) =>
                bif !(decide (y16 = (0 : Int))) then
                  some false
                else
                  bif !(decide (y4.2.2 = (0 : Int))) then
                    bif decide (y4.2.2 = (11 : Int)) then
                      some (decide (d15.2.1 = (11 : Int)))
                    else
                      some false
                  else
                    Option.bind (r21 (d15.2.2, y3)) fun (y17 : (Int × (Int × Int))) =>
                      Option.bind (
                        bif decide (d15.2.1 = (0 : Int)) then
                          some (decide (y17.2.2 = (0 : Int)))
                        else
                          some false) fun (g18 : Bool) =>
                        Option.bind (
                          bif g18 then
                            some (decide (y4.1 = y17.1))
                          else
                            some false) fun (g19 : Bool) =>
                          bif g19 then
                            some (decide (y4.2.1 = y17.2.1))
                          else
                            some false
theorem r8e : r8q = r8 := by unfold r8q r8; simp only [sameR_self]
def an8 : Ann := .two (.leaf) (.two (.two (.leaf) (.two (.two (.leaf) (.leaf)) (.leaf))) (.two (.leaf) (.two (.leaf) (.two (.leaf) (.two (.join [7, 8, 9, 10, 11] [7] [⟨.normal, [], [.tmp 12 (.pt 12 [(0, 0)] 0 0 4), .tmp 15 (.int .i64), .box 12 [.sl .own (.pair (.int .i64) (.pair (.int .i64) (.int .i64))), .sl .own (.pair (.pair (.int .i64) (.int .i64)) (.pair (.int .i64) (.pair .bool (.pair (.int .i64) (.int .i64))))), .sl .own (.pair (.pair (.int .i64) (.int .i64)) (.int .i64)), .sl .own (.pair (.int .i64) (.int .i64))]]⟩] (.stages [0, 1, 2, 3, 4, 5, 6, 7, 8, 9, 10, 11, 12])) (.two (.two (.leaf) (.two (.two (.leaf) (.leaf)) (.leaf))) (.two (.two (.leaf) (.two (.two (.leaf) (.leaf)) (.leaf))) (.two (.leaf) (.two (.segs [(6, ([9, 10, 16, 17], ([], [.tmp 67 (.bool)]))), (5, ([10, 17], ([], [.tmp 72 (.bool)])))]) (.leaf))))))))))
theorem s8 : SoundF cx.P cx.G 8 sg8 r8 := by
  have e : denF cx [(13, ⟨sg13, r13⟩), (16, ⟨sg16, r16⟩), (17, ⟨sg17, r17⟩), (18, ⟨sg18, r18⟩), (19, ⟨sg19, r19⟩), (21, ⟨sg21, r21⟩)] an8 Try.f8.ntmps (Try.f8.body.getD .skip) Try.f8.results.toList sg8 = r8q := by kernel_rfl
  rw [← r8e, ← e]
  exact sound_of_den (c := cx) (Known.cons (.ofF s13 (by kernel_rfl)) Try.func13 (by kernel_rfl) (by kernel_rfl) (Known.cons (.ofF s16 (by kernel_rfl)) Try.func16 (by kernel_rfl) (by kernel_rfl) (Known.cons (.ofF s17 (by kernel_rfl)) Try.func17 (by kernel_rfl) (by kernel_rfl) (Known.cons (.ofF s18 (by kernel_rfl)) Try.func18 (by kernel_rfl) (by kernel_rfl) (Known.cons (.ofF s19 (by kernel_rfl)) Try.func19 (by kernel_rfl) (by kernel_rfl) (Known.cons (.ofF s21 (by kernel_rfl)) Try.func21 (by kernel_rfl) (by kernel_rfl) (Known.nil))))))) Try.func8 (by kernel_rfl) (Nat.le_of_ble_eq_true (by kernel_rfl)) rfl

/-! reredos/store.Writes -/
noncomputable def r22_L0 (a : ((List ((Int × (Int × Int))) × (List (((Int × Int) × (Int × (Bool × (Int × Int))))) × (List (((Int × Int) × Int)) × List ((Int × Int))))) × (Int × Int))) (d2 : (Int × Int)) : Option ((Int × Int) ⊕ Int) :=
  bif decide (d2.2 < (↑a.1.2.1.length : Int)) then
    Option.bind (
      Option.bind (idxI a.1.2.1 d2.2) fun (b7 : ((Int × Int) × (Int × (Bool × (Int × Int))))) =>
        Option.bind (
          bif (decide (b7.1.1 = a.2.1) && (decide (b7.1.2 = a.2.2) && true)) then
            some b7.2.2.1
          else
            some false) fun (d8 : Bool) =>
          bif d8 then
            some (Go.IntKind.wrap .i64 (d2.1 + (1 : Int)))
          else
            some d2.1) fun (d9 : Int) =>
      some (Sum.inl (d9, (Go.IntKind.wrap .i64 (d2.2 + (1 : Int)))))
  else
    some (Sum.inr d2.1)
def sg22 : Sig := ⟨[⟨true, .bo, (.pair (.sl (.pair (.int .i64) (.pair (.int .i64) (.int .i64)))) (.pair (.sl (.pair (.pair (.int .i64) (.int .i64)) (.pair (.int .i64) (.pair .bool (.pair (.int .i64) (.int .i64)))))) (.pair (.sl (.pair (.pair (.int .i64) (.int .i64)) (.int .i64))) (.sl (.pair (.int .i64) (.int .i64))))))⟩, ⟨true, .bo, (.pair (.int .i64) (.int .i64))⟩], [⟨false, .own, (.int .i64)⟩, ⟨false, .own, (.int .i64)⟩]⟩
noncomputable def r22 (a : ((List ((Int × (Int × Int))) × (List (((Int × Int) × (Int × (Bool × (Int × Int))))) × (List (((Int × Int) × Int)) × List ((Int × Int))))) × (Int × Int))) : Option (Int × Int) :=
  Option.bind (r26 (a.1, a.2, (0 : Int))) fun (y1 : Int) =>
    bif !(decide (y1 = (0 : Int))) then
      some ((0 : Int), y1)
    else
      Option.bind (loopR (r22_L0 a) ((0 : Int), (0 : Int))) fun (q10 : Int) =>
        some (q10, (0 : Int))
def an22 : Ann := .two (.leaf) (.two (.two (.leaf) (.two (.leaf) (.two (.two (.leaf) (.leaf)) (.leaf)))) (.two (.leaf) (.two (.two (.leaf) (.one (.loop [3, 17, 18] [3] [] [.tmp 7 (.int .i64), .tmp 19 (.int .i64)] [⟨.exit 0, [], [.tmp 7 (.int .i64)]⟩] (.two (.leaf) (.two (.two (.leaf) (.leaf)) (.two (.join [3, 17, 18, 19] [3] [⟨.normal, [], [.tmp 7 (.int .i64)]⟩] (.one (.two (.leaf) (.two (.join [3, 7, 17, 18, 19] [3] [⟨.normal, [], [.tmp 30 (.bool)]⟩] (.leaf)) (.two (.leaf) (.leaf)))))) (.leaf))))))) (.two (.leaf) (.leaf)))))
theorem s22 : SoundF cx.P cx.G 22 sg22 r22 := by
  have e : denF cx [(26, ⟨sg26, r26⟩)] an22 Try.f22.ntmps (Try.f22.body.getD .skip) Try.f22.results.toList sg22 = r22 := by kernel_rfl
  rw [← e]
  exact sound_of_den (c := cx) (Known.cons (.ofF s26 (by kernel_rfl)) Try.func26 (by kernel_rfl) (by kernel_rfl) (Known.nil)) Try.func22 (by kernel_rfl) (Nat.le_of_ble_eq_true (by kernel_rfl)) rfl

/-! reredos/reredoskeep.sameStore -/
noncomputable def r23_L0 (a : ((List ((Int × (Int × Int))) × (List (((Int × Int) × (Int × (Bool × (Int × Int))))) × (List (((Int × Int) × Int)) × List ((Int × Int))))) × (List ((Int × (Int × Int))) × (List (((Int × Int) × (Int × (Bool × (Int × Int))))) × (List (((Int × Int) × Int)) × List ((Int × Int))))))) (d8 : Int) : Option (Int ⊕ (Unit ⊕ Bool)) :=
  bif decide (d8 < (↑a.1.1.length : Int)) then
    Option.bind (idxI a.1.1 d8) fun (b11 : (Int × (Int × Int))) =>
      Option.bind (idxI a.2.1 d8) fun (b12 : (Int × (Int × Int))) =>
        bif !((decide (b11.1 = b12.1) && (decide (b11.2.1 = b12.2.1) && (decide (b11.2.2 = b12.2.2) && true)))) then
          some (Sum.inr (Sum.inr false))
        else
          some (Sum.inl (Go.IntKind.wrap .i64 (d8 + (1 : Int))))
  else
    some (Sum.inr (Sum.inl ()))
noncomputable def r23_L1 (a : ((List ((Int × (Int × Int))) × (List (((Int × Int) × (Int × (Bool × (Int × Int))))) × (List (((Int × Int) × Int)) × List ((Int × Int))))) × (List ((Int × (Int × Int))) × (List (((Int × Int) × (Int × (Bool × (Int × Int))))) × (List (((Int × Int) × Int)) × List ((Int × Int))))))) (d16 : Int) : Option (Int ⊕ (Unit ⊕ Bool)) :=
  bif decide (d16 < (↑a.1.2.1.length : Int)) then
    Option.bind (idxI a.1.2.1 d16) fun (b19 : ((Int × Int) × (Int × (Bool × (Int × Int))))) =>
      Option.bind (idxI a.2.2.1 d16) fun (b20 : ((Int × Int) × (Int × (Bool × (Int × Int))))) =>
        bif !(((decide (b19.1.1 = b20.1.1) && (decide (b19.1.2 = b20.1.2) && true)) && (decide (b19.2.1 = b20.2.1) && (decide (b19.2.2.1 = b20.2.2.1) && (decide (b19.2.2.2.1 = b20.2.2.2.1) && (decide (b19.2.2.2.2 = b20.2.2.2.2) && true)))))) then
          some (Sum.inr (Sum.inr false))
        else
          some (Sum.inl (Go.IntKind.wrap .i64 (d16 + (1 : Int))))
  else
    some (Sum.inr (Sum.inl ()))
noncomputable def r23_L2 (a : ((List ((Int × (Int × Int))) × (List (((Int × Int) × (Int × (Bool × (Int × Int))))) × (List (((Int × Int) × Int)) × List ((Int × Int))))) × (List ((Int × (Int × Int))) × (List (((Int × Int) × (Int × (Bool × (Int × Int))))) × (List (((Int × Int) × Int)) × List ((Int × Int))))))) (d24 : Int) : Option (Int ⊕ (Unit ⊕ Bool)) :=
  bif decide (d24 < (↑a.1.2.2.1.length : Int)) then
    Option.bind (idxI a.1.2.2.1 d24) fun (b27 : ((Int × Int) × Int)) =>
      Option.bind (idxI a.2.2.2.1 d24) fun (b28 : ((Int × Int) × Int)) =>
        bif !(((decide (b27.1.1 = b28.1.1) && (decide (b27.1.2 = b28.1.2) && true)) && (decide (b27.2 = b28.2) && true))) then
          some (Sum.inr (Sum.inr false))
        else
          some (Sum.inl (Go.IntKind.wrap .i64 (d24 + (1 : Int))))
  else
    some (Sum.inr (Sum.inl ()))
noncomputable def r23_L3 (a : ((List ((Int × (Int × Int))) × (List (((Int × Int) × (Int × (Bool × (Int × Int))))) × (List (((Int × Int) × Int)) × List ((Int × Int))))) × (List ((Int × (Int × Int))) × (List (((Int × Int) × (Int × (Bool × (Int × Int))))) × (List (((Int × Int) × Int)) × List ((Int × Int))))))) (d32 : Int) : Option (Int ⊕ (Unit ⊕ Bool)) :=
  bif decide (d32 < (↑a.1.2.2.2.length : Int)) then
    Option.bind (idxI a.1.2.2.2 d32) fun (b35 : (Int × Int)) =>
      Option.bind (idxI a.2.2.2.2 d32) fun (b36 : (Int × Int)) =>
        bif !((decide (b35.1 = b36.1) && (decide (b35.2 = b36.2) && true))) then
          some (Sum.inr (Sum.inr false))
        else
          some (Sum.inl (Go.IntKind.wrap .i64 (d32 + (1 : Int))))
  else
    some (Sum.inr (Sum.inl ()))
def sg23 : Sig := ⟨[⟨true, .bo, (.pair (.sl (.pair (.int .i64) (.pair (.int .i64) (.int .i64)))) (.pair (.sl (.pair (.pair (.int .i64) (.int .i64)) (.pair (.int .i64) (.pair .bool (.pair (.int .i64) (.int .i64)))))) (.pair (.sl (.pair (.pair (.int .i64) (.int .i64)) (.int .i64))) (.sl (.pair (.int .i64) (.int .i64))))))⟩, ⟨true, .bo, (.pair (.sl (.pair (.int .i64) (.pair (.int .i64) (.int .i64)))) (.pair (.sl (.pair (.pair (.int .i64) (.int .i64)) (.pair (.int .i64) (.pair .bool (.pair (.int .i64) (.int .i64)))))) (.pair (.sl (.pair (.pair (.int .i64) (.int .i64)) (.int .i64))) (.sl (.pair (.int .i64) (.int .i64))))))⟩], [⟨false, .own, .bool⟩]⟩
noncomputable def r23 (a : ((List ((Int × (Int × Int))) × (List (((Int × Int) × (Int × (Bool × (Int × Int))))) × (List (((Int × Int) × Int)) × List ((Int × Int))))) × (List ((Int × (Int × Int))) × (List (((Int × Int) × (Int × (Bool × (Int × Int))))) × (List (((Int × Int) × Int)) × List ((Int × Int))))))) : Option Bool :=
  Option.bind (
    Option.bind (
      bif !(!(decide ((↑a.1.1.length : Int) = (↑a.2.1.length : Int)))) then
        some (!(decide ((↑a.1.2.1.length : Int) = (↑a.2.2.1.length : Int))))
      else
        some true) fun (g5 : Bool) =>
      Option.bind (
        bif !(g5) then
          some (!(decide ((↑a.1.2.2.1.length : Int) = (↑a.2.2.2.1.length : Int))))
        else
          some true) fun (g6 : Bool) =>
        bif !(g6) then
          some (!(decide ((↑a.1.2.2.2.length : Int) = (↑a.2.2.2.2.length : Int))))
        else
          some true) fun (d7 : Bool) =>
    bif d7 then
      some false
    else
      Option.bind (loopR (r23_L0 a) (0 : Int)) fun (q13 : (Unit ⊕ Bool)) =>
        Sum.elim (fun (_ : Unit) =>
            Option.bind (loopR (r23_L1 a) (0 : Int)) fun (q21 : (Unit ⊕ Bool)) =>
              Sum.elim (fun (_ : Unit) =>
                  Option.bind (loopR (r23_L2 a) (0 : Int)) fun (q29 : (Unit ⊕ Bool)) =>
                    Sum.elim (fun (_ : Unit) =>
                        Option.bind (loopR (r23_L3 a) (0 : Int)) fun (q37 : (Unit ⊕ Bool)) =>
                          Sum.elim (fun (_ : Unit) =>
                              some true)
                            (fun (v39 : Bool) =>
                              some v39) q37)
                      (fun (v31 : Bool) =>
                        some v31) q29)
                (fun (v23 : Bool) =>
                  some v23) q21)
          (fun (v15 : Bool) =>
            some v15) q13
def an23 : Ann := .two (.leaf) (.two (.two (.join [2, 3] [2, 3] [⟨.normal, [], [.tmp 42 (.bool)]⟩] (.segs [(16, ([2, 3], ([2, 3], [.tmp 24 (.bool)]))), (9, ([2, 3], ([2, 3], [.tmp 33 (.bool)])))])) (.two (.two (.leaf) (.leaf)) (.leaf))) (.two (.two (.leaf) (.one (.loop [2, 3] [2, 3] [] [.tmp 5 (.int .i64)] [⟨.exit 0, [], []⟩, ⟨.ret, [], [.tmp 4 (.bool)]⟩] (.two (.two (.leaf) (.two (.leaf) (.leaf))) (.two (.one (.two (.draw 10) (.two (.two (.leaf) (.leaf)) (.leaf)))) (.leaf)))))) (.two (.two (.leaf) (.one (.loop [2, 3] [2, 3] [] [.tmp 6 (.int .i64)] [⟨.exit 2, [], []⟩, ⟨.ret, [], [.tmp 4 (.bool)]⟩] (.two (.two (.leaf) (.two (.leaf) (.leaf))) (.two (.one (.two (.draw 10) (.two (.two (.leaf) (.leaf)) (.leaf)))) (.leaf)))))) (.two (.two (.leaf) (.one (.loop [2, 3] [2, 3] [] [.tmp 7 (.int .i64)] [⟨.exit 4, [], []⟩, ⟨.ret, [], [.tmp 4 (.bool)]⟩] (.two (.two (.leaf) (.two (.leaf) (.leaf))) (.two (.one (.two (.draw 10) (.two (.two (.leaf) (.leaf)) (.leaf)))) (.leaf)))))) (.two (.two (.leaf) (.one (.loop [2, 3] [2, 3] [] [.tmp 8 (.int .i64)] [⟨.exit 6, [], []⟩, ⟨.ret, [], [.tmp 4 (.bool)]⟩] (.two (.two (.leaf) (.two (.leaf) (.leaf))) (.two (.one (.two (.draw 10) (.two (.two (.leaf) (.leaf)) (.leaf)))) (.leaf)))))) (.two (.leaf) (.leaf)))))))
theorem s23 : SoundF cx.P cx.G 23 sg23 r23 := by
  have e : denF cx [] an23 Try.f23.ntmps (Try.f23.body.getD .skip) Try.f23.results.toList sg23 = r23 := by kernel_rfl
  rw [← e]
  exact sound_of_den (c := cx) (Known.nil) Try.func23 (by kernel_rfl) (Nat.le_of_ble_eq_true (by kernel_rfl)) rfl

/-! reredos/reredoskeep.EndAll -/
noncomputable def r9_L0 (y4 : ((List ((Int × (Int × Int))) × (List (((Int × Int) × (Int × (Bool × (Int × Int))))) × (List (((Int × Int) × Int)) × List ((Int × Int))))) × Int)) (y2 : Int) (y3 : Int) (d9 : Int) : Option (Int ⊕ (Unit ⊕ Bool)) :=
  bif decide (d9 < (↑y4.1.2.1.length : Int)) then
    bif inB d9 y4.1.2.1.length then
      Option.bind (idxN y4.1.2.1 (Int.toNat d9)) fun (x10 : ((Int × Int) × (Int × (Bool × (Int × Int))))) =>
        bif (decide (x10.1.1 = y2) && (decide (x10.1.2 = (Go.IntKind.wrap .i64 ((1 : Int) + y3))) && true)) then
          some (Sum.inr (Sum.inr false))
        else
          some (Sum.inl (Go.IntKind.wrap .i64 (d9 + (1 : Int))))
    else
      none
  else
    some (Sum.inr (Sum.inl ()))
def sg9 : Sig := ⟨[⟨false, .bo, (.sl (.pair (.int .i64) (.pair (.int .i64) (.pair (.int .i64) (.pair (.int .i64) (.pair (.int .i64) (.int .i64)))))))⟩, ⟨false, .bo, (.int .i64)⟩, ⟨false, .bo, (.int .i64)⟩, ⟨false, .bo, .bool⟩], [⟨false, .own, .bool⟩]⟩
noncomputable def r9 (a : (List ((Int × (Int × (Int × (Int × (Int × Int)))))) × (Int × (Int × Bool)))) : Option Bool :=
  Option.bind (r16 (a.1, (30 : Int))) fun (y1 : (List ((Int × (Int × Int))) × (List (((Int × Int) × (Int × (Bool × (Int × Int))))) × (List (((Int × Int) × Int)) × List ((Int × Int)))))) =>
    Option.bind (r13 (a.2.1, (2 : Int))) fun (y2 : Int) =>
      Option.bind (r13 (a.2.2.1, (5 : Int))) fun (y3 : Int) =>
        Option.bind (r20 (y1, (y2, (Go.IntKind.wrap .i64 ((1 : Int) + y3))), a.2.2.2)) fun (y4 : ((List ((Int × (Int × Int))) × (List (((Int × Int) × (Int × (Bool × (Int × Int))))) × (List (((Int × Int) × Int)) × List ((Int × Int))))) × Int)) =>
          Option.bind (r20 (y4.1, (y2, (Go.IntKind.wrap .i64 ((1 : Int) + y3))), !(a.2.2.2))) fun (y5 : ((List ((Int × (Int × Int))) × (List (((Int × Int) × (Int × (Bool × (Int × Int))))) × (List (((Int × Int) × Int)) × List ((Int × Int))))) × Int)) =>
            Option.bind (r17 (y4.1, (y2, (Go.IntKind.wrap .i64 ((1 : Int) + y3))), (7 : Int))) fun (y6 : ((List ((Int × (Int × Int))) × (List (((Int × Int) × (Int × (Bool × (Int × Int))))) × (List (((Int × Int) × Int)) × List ((Int × Int))))) × (Int × (Int × Int)))) =>
              Option.bind (r14 (y4.1, (y2, (Go.IntKind.wrap .i64 ((1 : Int) + y3))), (7 : Int), (1 : Int), (1 : Int))) fun (y7 : ((List ((Int × (Int × Int))) × (List (((Int × Int) × (Int × (Bool × (Int × Int))))) × (List (((Int × Int) × Int)) × List ((Int × Int))))) × Int)) =>
                Option.bind (r22 (y4.1, (y2, (Go.IntKind.wrap .i64 ((1 : Int) + y3))))) fun (y8 : (Int × Int)) =>
                  Option.bind (loopR (r9_L0 y4 y2 y3) (0 : Int)) fun (q11 : (Unit ⊕ Bool)) =>
                    Sum.elim (fun (_ : Unit) =>
                        Option.bind (
                          bif decide (y4.2 = (0 : Int)) then
                            some (decide (y5.2 = (0 : Int)))
                          else
                            some false) fun (g14 : Bool) =>
                          Option.bind (
                            bif g14 then
                              some (decide (y6.2.2.2 = (13 : Int)))
                            else
                              some false) fun (g15 : Bool) =>
                            Option.bind (
                              bif g15 then
                                some (decide (y7.2 = (13 : Int)))
                              else
                                some false) fun (g16 : Bool) =>
                              Option.bind (
                                bif g16 then
                                  some (decide (y8.2 = (0 : Int)))
                                else
                                  some false) fun (g17 : Bool) =>
                                Option.bind (
                                  bif g17 then
                                    some (decide (y8.1 = (0 : Int)))
                                  else
                                    some false) fun (g18 : Bool) =>
                                  Option.bind (
                                    bif g18 then
                                      Option.bind (r23 (y4.1, y5.1)) fun (y19 : Bool) =>
                                        some y19
                                    else
                                      some false) fun (g20 : Bool) =>
                                    bif g20 then
                                      Option.bind (r18 y4.1) fun (y21 : Int) =>
                                        some (decide (y21 = (0 : Int)))
                                    else
                                      some false)
                      (fun (v13 : Bool) =>
                        some v13) q11
def an9 : Ann := .two (.leaf) (.two (.leaf) (.two (.leaf) (.two (.leaf) (.two (.leaf) (.two (.leaf) (.two (.leaf) (.two (.leaf) (.two (.two (.leaf) (.one (.loop [10, 11, 12, 13, 14, 18, 20, 21, 22, 69, 70] [10, 11, 13] [] [.tmp 71 (.int .i64)] [⟨.exit 0, [], []⟩, ⟨.ret, [], [.tmp 8 (.bool)]⟩] (.two (.leaf) (.two (.two (.leaf) (.leaf)) (.two (.one (.two (.leaf) (.two (.leaf) (.two (.two (.leaf) (.leaf)) (.leaf))))) (.leaf))))))) (.two (.segs [(6, ([11, 13, 18, 20, 21, 22], ([11, 13], [.tmp 85 (.bool)]))), (4, ([11, 13, 20, 21, 22], ([11, 13], [.tmp 89 (.bool)]))), (4, ([11, 13, 21, 22], ([11, 13], [.tmp 93 (.bool)]))), (4, ([11, 13, 21], ([11, 13], [.tmp 97 (.bool)]))), (4, ([11, 13], ([11, 13], [.tmp 101 (.bool)]))), (5, ([11], ([11], [.tmp 106 (.bool)])))]) (.leaf))))))))))
theorem s9 : SoundF cx.P cx.G 9 sg9 r9 := by
  have e : denF cx [(13, ⟨sg13, r13⟩), (14, ⟨sg14, r14⟩), (16, ⟨sg16, r16⟩), (17, ⟨sg17, r17⟩), (18, ⟨sg18, r18⟩), (20, ⟨sg20, r20⟩), (22, ⟨sg22, r22⟩), (23, ⟨sg23, r23⟩)] an9 Try.f9.ntmps (Try.f9.body.getD .skip) Try.f9.results.toList sg9 = r9 := by kernel_rfl
  rw [← e]
  exact sound_of_den (c := cx) (Known.cons (.ofF s13 (by kernel_rfl)) Try.func13 (by kernel_rfl) (by kernel_rfl) (Known.cons (.ofF s14 (by kernel_rfl)) Try.func14 (by kernel_rfl) (by kernel_rfl) (Known.cons (.ofF s16 (by kernel_rfl)) Try.func16 (by kernel_rfl) (by kernel_rfl) (Known.cons (.ofF s17 (by kernel_rfl)) Try.func17 (by kernel_rfl) (by kernel_rfl) (Known.cons (.ofF s18 (by kernel_rfl)) Try.func18 (by kernel_rfl) (by kernel_rfl) (Known.cons (.ofF s20 (by kernel_rfl)) Try.func20 (by kernel_rfl) (by kernel_rfl) (Known.cons (.ofF s22 (by kernel_rfl)) Try.func22 (by kernel_rfl) (by kernel_rfl) (Known.cons (.ofF s23 (by kernel_rfl)) Try.func23 (by kernel_rfl) (by kernel_rfl) (Known.nil))))))))) Try.func9 (by kernel_rfl) (Nat.le_of_ble_eq_true (by kernel_rfl)) rfl

/-! reredos/store.Forget$1 -/
def sg42 : Sig := ⟨[⟨true, .bo, (.pair (.pair (.int .i64) (.int .i64)) (.pair (.int .i64) (.pair .bool (.pair (.int .i64) (.int .i64)))))⟩], [⟨false, .own, .bool⟩]⟩
noncomputable def r42 (a : ((Int × Int) × (Int × (Bool × (Int × Int))))) : Option Bool :=
  some !(a.2.2.1)
def an42 : Ann := .two (.leaf) (.two (.leaf) (.leaf))
theorem s42 : SoundF cx.P cx.G 42 sg42 r42 := by
  have e : denF cx [] an42 Try.f42.ntmps (Try.f42.body.getD .skip) Try.f42.results.toList sg42 = r42 := by kernel_rfl
  rw [← e]
  exact sound_of_den (c := cx) (Known.nil) Try.func42 (by kernel_rfl) (Nat.le_of_ble_eq_true (by kernel_rfl)) rfl

/-! reredos/store.Forget -/
noncomputable def r24_L0 (y2 : (List ((Int × (Int × Int))) × (List (((Int × Int) × (Int × (Bool × (Int × Int))))) × (List (((Int × Int) × Int)) × List ((Int × Int)))))) (d79 : Int) : Option (Int ⊕ (Unit ⊕ Int)) :=
  bif decide (d79 < (↑y2.2.1.length : Int)) then
    bif inB d79 y2.2.1.length then
      Option.bind (idxN y2.2.1 (Int.toNat d79)) fun (x80 : ((Int × Int) × (Int × (Bool × (Int × Int))))) =>
        bif !(x80.2.2.1) then
          some (Sum.inr (Sum.inr d79))
        else
          some (Sum.inl (Go.IntKind.wrap .i64 (d79 + (1 : Int))))
    else
      none
  else
    some (Sum.inr (Sum.inl ()))
noncomputable def r24_L1 (d93 : (Unit × (Unit × (Int × (Int × (List ((Int × (Int × Int))) × (List (((Int × Int) × (Int × (Bool × (Int × Int))))) × (List (((Int × Int) × Int)) × List ((Int × Int)))))))))) : Option ((Unit × (Unit × (Int × (Int × (List ((Int × (Int × Int))) × (List (((Int × Int) × (Int × (Bool × (Int × Int))))) × (List (((Int × Int) × Int)) × List ((Int × Int))))))))) ⊕ (Unit × (Unit × (Int × (List ((Int × (Int × Int))) × (List (((Int × Int) × (Int × (Bool × (Int × Int))))) × (List (((Int × Int) × Int)) × List ((Int × Int))))))))) :=
  bif decide (d93.2.2.2.1 < (↑d93.2.2.2.2.2.1.length : Int)) then
    Option.bind (
      bif inB d93.2.2.2.1 d93.2.2.2.2.2.1.length then
        Option.bind (idxN d93.2.2.2.2.2.1 (Int.toNat d93.2.2.2.1)) fun (x98 : ((Int × Int) × (Int × (Bool × (Int × Int))))) =>
          bif !(!(x98.2.2.1)) then
            bif inB d93.2.2.1 d93.2.2.2.2.2.1.length then
              Option.bind (idxN d93.2.2.2.2.2.1 (Int.toNat d93.2.2.1)) fun (_ : ((Int × Int) × (Int × (Bool × (Int × Int))))) =>
                some ((), ((), ((Go.IntKind.wrap .i64 (d93.2.2.1 + (1 : Int))), (d93.2.2.2.2.1, (List.set d93.2.2.2.2.2.1 (Int.toNat d93.2.2.1) x98, d93.2.2.2.2.2.2)))))
            else
              none
          else
            some ((), ((), (d93.2.2.1, d93.2.2.2.2)))
      else
        none) fun (d100 : (Unit × (Unit × (Int × (List ((Int × (Int × Int))) × (List (((Int × Int) × (Int × (Bool × (Int × Int))))) × (List (((Int × Int) × Int)) × List ((Int × Int))))))))) =>
      some (Sum.inl ((), ((), (d100.2.2.1, ((Go.IntKind.wrap .i64 (d93.2.2.2.1 + (1 : Int))), d100.2.2.2)))))
  else
    some (Sum.inr ((), ((), (d93.2.2.1, d93.2.2.2.2))))
noncomputable def r24_L2 (d102 : (Unit × (Unit × ((List ((Int × (Int × Int))) × (Unit × (List (((Int × Int) × Int)) × List ((Int × Int))))) × List (((Int × Int) × (Int × (Bool × (Int × Int))))))))) (x500 : ((Int × Int) × Int)) (d511 : Int) : Option (Int ⊕ (Unit ⊕ Int)) :=
  bif decide (d511 < (↑d102.2.2.2.length : Int)) then
    bif inB d511 d102.2.2.2.length then
      Option.bind (idxN d102.2.2.2 (Int.toNat d511)) fun (x512 : ((Int × Int) × (Int × (Bool × (Int × Int))))) =>
        bif (decide (x512.1.1 = x500.1.1) && (decide (x512.1.2 = x500.1.2) && true)) then
          some (Sum.inr (Sum.inr d511))
        else
          some (Sum.inl (Go.IntKind.wrap .i64 (d511 + (1 : Int))))
    else
      none
  else
    some (Sum.inr (Sum.inl ()))
noncomputable def r24_L3 (d102 : (Unit × (Unit × ((List ((Int × (Int × Int))) × (Unit × (List (((Int × Int) × Int)) × List ((Int × Int))))) × List (((Int × Int) × (Int × (Bool × (Int × Int))))))))) (d499 : Int) : Option (Int ⊕ (Unit ⊕ Int)) :=
  bif decide (d499 < (↑d102.2.2.1.2.2.1.length : Int)) then
    bif inB d499 d102.2.2.1.2.2.1.length then
      Option.bind (idxN d102.2.2.1.2.2.1 (Int.toNat d499)) fun (x500 : ((Int × Int) × Int)) =>
        Option.bind (
          Option.bind (loopR (r24_L2 d102 x500) (0 : Int)) fun (q513 : (Unit ⊕ Int)) =>
            Sum.elim (fun (_ : Unit) =>
                some (-1 : Int))
              (fun (v515 : Int) =>
                some v515) q513) fun (d516 : Int) =>
          bif !(decide ((0 : Int) ≤ d516)) then
            some (Sum.inr (Sum.inr d499))
          else
            some (Sum.inl (Go.IntKind.wrap .i64 (d499 + (1 : Int))))
    else
      none
  else
    some (Sum.inr (Sum.inl ()))
noncomputable def r24_L4 (d577 : (Unit × (Unit × (Unit × (Int × (Int × (List ((Int × (Int × Int))) × (List (((Int × Int) × (Int × (Bool × (Int × Int))))) × (List (((Int × Int) × Int)) × List ((Int × Int))))))))))) (x614 : ((Int × Int) × Int)) (d625 : Int) : Option (Int ⊕ (Unit ⊕ Int)) :=
  bif decide (d625 < (↑d577.2.2.2.2.2.2.1.length : Int)) then
    bif inB d625 d577.2.2.2.2.2.2.1.length then
      Option.bind (idxN d577.2.2.2.2.2.2.1 (Int.toNat d625)) fun (x626 : ((Int × Int) × (Int × (Bool × (Int × Int))))) =>
        bif (decide (x626.1.1 = x614.1.1) && (decide (x626.1.2 = x614.1.2) && true)) then
          some (Sum.inr (Sum.inr d625))
        else
          some (Sum.inl (Go.IntKind.wrap .i64 (d625 + (1 : Int))))
    else
      none
  else
    some (Sum.inr (Sum.inl ()))
noncomputable def r24_L5 (d577 : (Unit × (Unit × (Unit × (Int × (Int × (List ((Int × (Int × Int))) × (List (((Int × Int) × (Int × (Bool × (Int × Int))))) × (List (((Int × Int) × Int)) × List ((Int × Int))))))))))) : Option ((Unit × (Unit × (Unit × (Int × (Int × (List ((Int × (Int × Int))) × (List (((Int × Int) × (Int × (Bool × (Int × Int))))) × (List (((Int × Int) × Int)) × List ((Int × Int)))))))))) ⊕ (Unit × (Unit × (Int × (List ((Int × (Int × Int))) × (List (((Int × Int) × (Int × (Bool × (Int × Int))))) × (List (((Int × Int) × Int)) × List ((Int × Int))))))))) :=
  bif decide (d577.2.2.2.2.1 < (↑d577.2.2.2.2.2.2.2.1.length : Int)) then
    Option.bind (
      bif inB d577.2.2.2.2.1 d577.2.2.2.2.2.2.2.1.length then
        Option.bind (idxN d577.2.2.2.2.2.2.2.1 (Int.toNat d577.2.2.2.2.1)) fun (x614 : ((Int × Int) × Int)) =>
          Option.bind (
            Option.bind (loopR (r24_L4 d577 x614) (0 : Int)) fun (q627 : (Unit ⊕ Int)) =>
              Sum.elim (fun (_ : Unit) =>
                  some (-1 : Int))
                (fun (v629 : Int) =>
                  some v629) q627) fun (d630 : Int) =>
            bif !(!(decide ((0 : Int) ≤ d630))) then
              bif inB d577.2.2.2.1 d577.2.2.2.2.2.2.2.1.length then
                Option.bind (idxN d577.2.2.2.2.2.2.2.1 (Int.toNat d577.2.2.2.1)) fun (_ : ((Int × Int) × Int)) =>
                  some ((), ((), ((), ((Go.IntKind.wrap .i64 (d577.2.2.2.1 + (1 : Int))), (d577.2.2.2.2.2.1, (d577.2.2.2.2.2.2.1, (List.set d577.2.2.2.2.2.2.2.1 (Int.toNat d577.2.2.2.1) x614, d577.2.2.2.2.2.2.2.2)))))))
              else
                none
            else
              some ((), ((), ((), (d577.2.2.2.1, d577.2.2.2.2.2))))
      else
        none) fun (d632 : (Unit × (Unit × (Unit × (Int × (List ((Int × (Int × Int))) × (List (((Int × Int) × (Int × (Bool × (Int × Int))))) × (List (((Int × Int) × Int)) × List ((Int × Int)))))))))) =>
      some (Sum.inl ((), ((), ((), (d632.2.2.2.1, ((Go.IntKind.wrap .i64 (d577.2.2.2.2.1 + (1 : Int))), d632.2.2.2.2))))))
  else
    some (Sum.inr ((), ((), (d577.2.2.2.1, d577.2.2.2.2.2))))
noncomputable def r24_L6 (d634 : (Unit × (Unit × ((List ((Int × (Int × Int))) × (List (((Int × Int) × (Int × (Bool × (Int × Int))))) × (Unit × List ((Int × Int))))) × List (((Int × Int) × Int)))))) (d637 : (Unit × (Int × (List ((Int × (Int × Int))) × (List (((Int × Int) × (Int × (Bool × (Int × Int))))) × (List (((Int × Int) × Int)) × List ((Int × Int)))))))) : Option ((Unit × (Int × (List ((Int × (Int × Int))) × (List (((Int × Int) × (Int × (Bool × (Int × Int))))) × (List (((Int × Int) × Int)) × List ((Int × Int))))))) ⊕ (Unit × (List ((Int × (Int × Int))) × (List (((Int × Int) × (Int × (Bool × (Int × Int))))) × (List (((Int × Int) × Int)) × List ((Int × Int))))))) :=
  bif decide (d637.2.1 < (↑d634.2.2.2.length : Int)) then
    bif inB d637.2.1 d637.2.2.2.2.1.length then
      Option.bind (idxN d637.2.2.2.2.1 (Int.toNat d637.2.1)) fun (x638 : ((Int × Int) × Int)) =>
        some (Sum.inl ((), ((Go.IntKind.wrap .i64 (d637.2.1 + (1 : Int))), (d637.2.2.1, (d637.2.2.2.1, (List.set d637.2.2.2.2.1 (Int.toNat d637.2.1) (x638.1, (0 : Int)), d637.2.2.2.2.2))))))
    else
      none
  else
    some (Sum.inr ((), d637.2.2))
def sg24 : Sig := ⟨[⟨true, .bo, (.pair (.sl (.pair (.int .i64) (.pair (.int .i64) (.int .i64)))) (.pair (.sl (.pair (.pair (.int .i64) (.int .i64)) (.pair (.int .i64) (.pair .bool (.pair (.int .i64) (.int .i64)))))) (.pair (.sl (.pair (.pair (.int .i64) (.int .i64)) (.int .i64))) (.sl (.pair (.int .i64) (.int .i64))))))⟩], [⟨true, .own, (.pair (.sl (.pair (.int .i64) (.pair (.int .i64) (.int .i64)))) (.pair (.sl (.pair (.pair (.int .i64) (.int .i64)) (.pair (.int .i64) (.pair .bool (.pair (.int .i64) (.int .i64)))))) (.pair (.sl (.pair (.pair (.int .i64) (.int .i64)) (.int .i64))) (.sl (.pair (.int .i64) (.int .i64))))))⟩, ⟨false, .own, (.int .i64)⟩]⟩
noncomputable def r24 (a : (List ((Int × (Int × Int))) × (List (((Int × Int) × (Int × (Bool × (Int × Int))))) × (List (((Int × Int) × Int)) × List ((Int × Int)))))) : Option ((List ((Int × (Int × Int))) × (List (((Int × Int) × (Int × (Bool × (Int × Int))))) × (List (((Int × Int) × Int)) × List ((Int × Int))))) × Int) :=
  Option.bind (r18 a) fun (y1 : Int) =>
    bif !(decide (y1 = (0 : Int))) then
      some (([], ([], ([], []))), y1)
    else
      Option.bind (r31 a) fun (y2 : (List ((Int × (Int × Int))) × (List (((Int × Int) × (Int × (Bool × (Int × Int))))) × (List (((Int × Int) × Int)) × List ((Int × Int)))))) =>
        Option.bind (
          Option.bind (
            Option.bind (loopR (r24_L0 y2) (0 : Int)) fun (q81 : (Unit ⊕ Int)) =>
              Sum.elim (fun (_ : Unit) =>
                  some (-1 : Int))
                (fun (v83 : Int) =>
                  some v83) q81) fun (d84 : Int) =>
            bif decide (d84 = (-1 : Int)) then
              some ((), ((), ((y2.1, ((), y2.2.2)), y2.2.1)))
            else
              Option.bind (loopR r24_L1 ((), ((), (d84, ((Go.IntKind.wrap .i64 (d84 + (1 : Int))), y2))))) fun (q101 : (Unit × (Unit × (Int × (List ((Int × (Int × Int))) × (List (((Int × Int) × (Int × (Bool × (Int × Int))))) × (List (((Int × Int) × Int)) × List ((Int × Int))))))))) =>
                bif okB (some q101.2.2.1) none none q101.2.2.2.2.1.length then
                  bif okB none (some q101.2.2.1) none ((app (List.take (Int.toNat q101.2.2.1) q101.2.2.2.2.1) (app (List.replicate (q101.2.2.2.2.1.length - (Int.toNat q101.2.2.1)) (((0 : Int), (0 : Int)), ((0 : Int), (false, ((0 : Int), (0 : Int)))))) (List.drop ((Int.toNat q101.2.2.1) + (q101.2.2.2.2.1.length - (Int.toNat q101.2.2.1))) q101.2.2.2.2.1))).length) then
                    some ((), ((), ((q101.2.2.2.1, ((), q101.2.2.2.2.2)), midL (app (List.take (Int.toNat q101.2.2.1) q101.2.2.2.2.1) (app (List.replicate (q101.2.2.2.2.1.length - (Int.toNat q101.2.2.1)) (((0 : Int), (0 : Int)), ((0 : Int), (false, ((0 : Int), (0 : Int)))))) (List.drop ((Int.toNat q101.2.2.1) + (q101.2.2.2.2.1.length - (Int.toNat q101.2.2.1))) q101.2.2.2.2.1))) 0 (Int.toNat q101.2.2.1))))
                  else
                    none
                else
                  none) fun (d102 : (Unit × (Unit × ((List ((Int × (Int × Int))) × (Unit × (List (((Int × Int) × Int)) × List ((Int × Int))))) × List (((Int × Int) × (Int × (Bool × (Int × Int))))))))) =>
          Option.bind (
            Option.bind (
              Option.bind (loopR (r24_L3 d102) (0 : Int)) fun (q517 : (Unit ⊕ Int)) =>
                Sum.elim (fun (_ : Unit) =>
                    some (-1 : Int))
                  (fun (v519 : Int) =>
                    some v519) q517) fun (d520 : Int) =>
              bif decide (d520 = (-1 : Int)) then
                some ((), ((), ((d102.2.2.1.1, (d102.2.2.2, ((), d102.2.2.1.2.2.2))), d102.2.2.1.2.2.1)))
              else
                Option.bind (loopR r24_L5 ((), ((), ((), (d520, ((Go.IntKind.wrap .i64 (d520 + (1 : Int))), (d102.2.2.1.1, (d102.2.2.2, d102.2.2.1.2.2)))))))) fun (q633 : (Unit × (Unit × (Int × (List ((Int × (Int × Int))) × (List (((Int × Int) × (Int × (Bool × (Int × Int))))) × (List (((Int × Int) × Int)) × List ((Int × Int))))))))) =>
                  bif okB (some q633.2.2.1) none none q633.2.2.2.2.2.1.length then
                    bif okB none (some q633.2.2.1) none ((app (List.take (Int.toNat q633.2.2.1) q633.2.2.2.2.2.1) (app (List.replicate (q633.2.2.2.2.2.1.length - (Int.toNat q633.2.2.1)) (((0 : Int), (0 : Int)), (0 : Int))) (List.drop ((Int.toNat q633.2.2.1) + (q633.2.2.2.2.2.1.length - (Int.toNat q633.2.2.1))) q633.2.2.2.2.2.1))).length) then
                      some ((), ((), ((q633.2.2.2.1, (q633.2.2.2.2.1, ((), q633.2.2.2.2.2.2))), midL (app (List.take (Int.toNat q633.2.2.1) q633.2.2.2.2.2.1) (app (List.replicate (q633.2.2.2.2.2.1.length - (Int.toNat q633.2.2.1)) (((0 : Int), (0 : Int)), (0 : Int))) (List.drop ((Int.toNat q633.2.2.1) + (q633.2.2.2.2.2.1.length - (Int.toNat q633.2.2.1))) q633.2.2.2.2.2.1))) 0 (Int.toNat q633.2.2.1))))
                    else
                      none
                  else
                    none) fun (d634 : (Unit × (Unit × ((List ((Int × (Int × Int))) × (List (((Int × Int) × (Int × (Bool × (Int × Int))))) × (Unit × List ((Int × Int))))) × List (((Int × Int) × Int)))))) =>
            Option.bind (loopR (r24_L6 d634) ((), ((0 : Int), (d634.2.2.1.1, (d634.2.2.1.2.1, (d634.2.2.2, d634.2.2.1.2.2.2)))))) fun (q639 : (Unit × (List ((Int × (Int × Int))) × (List (((Int × Int) × (Int × (Bool × (Int × Int))))) × (List (((Int × Int) × Int)) × List ((Int × Int))))))) =>
              some (q639.2, (0 : Int))
def an24 : Ann := .two (.leaf) (.two (.two (.leaf) (.two (.leaf) (.two (.two (.leaf) (.leaf)) (.leaf)))) (.two (.leaf) (.two (.inl 2 37 (.join [2] [2] [⟨.ret, [(41, (.pair (.pair (.int .i64) (.int .i64)) (.pair (.int .i64) (.pair .bool (.pair (.int .i64) (.int .i64))))))], [.tmp 5 (.pt 5 [(0, 0)] 0 0 4), .tmp 41 (.own 41 [(0, 0)] (.pair (.pair (.int .i64) (.int .i64)) (.pair (.int .i64) (.pair .bool (.pair (.int .i64) (.int .i64)))))), .box 5 [.sl .own (.pair (.int .i64) (.pair (.int .i64) (.int .i64))), .dead, .sl .own (.pair (.pair (.int .i64) (.int .i64)) (.int .i64)), .sl .own (.pair (.int .i64) (.int .i64))], .row 41 [.sl .own (.pair (.pair (.int .i64) (.int .i64)) (.pair (.int .i64) (.pair .bool (.pair (.int .i64) (.int .i64)))))]]⟩] (.two (.leaf) (.two (.inl 2 79 (.join [2, 5, 37, 38] [2, 5] [⟨.ret, [], [.tmp 83 (.int .i64)]⟩] (.two (.leaf) (.two (.two (.leaf) (.one (.loop [2, 5, 37, 38, 79, 80, 86] [2, 5] [] [.tmp 87 (.int .i64)] [⟨.exit 0, [], []⟩, ⟨.ret, [], [.tmp 83 (.int .i64)]⟩] (.two (.leaf) (.two (.two (.leaf) (.leaf)) (.two (.one (.two (.leaf) (.two (.inl 5 98 (.two (.leaf) (.two (.leaf) (.leaf))) (.leaf)) (.two (.two (.leaf) (.leaf)) (.leaf))))) (.leaf))))))) (.two (.leaf) (.leaf))))) (.leaf)) (.two (.two (.leaf) (.two (.two (.leaf) (.leaf)) (.leaf))) (.two (.two (.leaf) (.one (.loop [2, 38] [2] [] [.tmp 5 (.pt 5 [(0, 0)] 0 0 4), .tmp 37 (.own 5 [(0, 0), (0, 1)] (.pair (.pair (.int .i64) (.int .i64)) (.pair (.int .i64) (.pair .bool (.pair (.int .i64) (.int .i64)))))), .tmp 42 (.int .i64), .tmp 43 (.int .i64), .box 5 [.sl .own (.pair (.int .i64) (.pair (.int .i64) (.int .i64))), .sl .own (.pair (.pair (.int .i64) (.int .i64)) (.pair (.int .i64) (.pair .bool (.pair (.int .i64) (.int .i64))))), .sl .own (.pair (.pair (.int .i64) (.int .i64)) (.int .i64)), .sl .own (.pair (.int .i64) (.int .i64))]] [⟨.exit 0, [], [.tmp 5 (.pt 5 [(0, 0)] 0 0 4), .tmp 37 (.own 5 [(0, 0), (0, 1)] (.pair (.pair (.int .i64) (.int .i64)) (.pair (.int .i64) (.pair .bool (.pair (.int .i64) (.int .i64)))))), .tmp 42 (.int .i64), .box 5 [.sl .own (.pair (.int .i64) (.pair (.int .i64) (.int .i64))), .sl .own (.pair (.pair (.int .i64) (.int .i64)) (.pair (.int .i64) (.pair .bool (.pair (.int .i64) (.int .i64))))), .sl .own (.pair (.pair (.int .i64) (.int .i64)) (.int .i64)), .sl .own (.pair (.int .i64) (.int .i64))]]⟩] (.two (.two (.leaf) (.two (.leaf) (.leaf))) (.two (.join [2, 38, 43] [2] [⟨.normal, [], [.tmp 5 (.pt 5 [(0, 0)] 0 0 4), .tmp 37 (.own 5 [(0, 0), (0, 1)] (.pair (.pair (.int .i64) (.int .i64)) (.pair (.int .i64) (.pair .bool (.pair (.int .i64) (.int .i64)))))), .tmp 42 (.int .i64), .box 5 [.sl .own (.pair (.int .i64) (.pair (.int .i64) (.int .i64))), .sl .own (.pair (.pair (.int .i64) (.int .i64)) (.pair (.int .i64) (.pair .bool (.pair (.int .i64) (.int .i64))))), .sl .own (.pair (.pair (.int .i64) (.int .i64)) (.int .i64)), .sl .own (.pair (.int .i64) (.int .i64))]]⟩] (.one (.two (.leaf) (.two (.inl 2 104 (.two (.leaf) (.two (.leaf) (.leaf))) (.leaf)) (.two (.two (.leaf) (.leaf)) (.leaf)))))) (.leaf)))))) (.two (.leaf) (.two (.leaf) (.leaf)))))))) (.leaf)) (.two (.inl 3 110 (.join [2] [2] [⟨.ret, [(114, (.pair (.pair (.int .i64) (.int .i64)) (.int .i64)))], [.tmp 5 (.pt 5 [(0, 0)] 0 0 4), .tmp 114 (.own 114 [(0, 0)] (.pair (.pair (.int .i64) (.int .i64)) (.int .i64))), .box 5 [.sl .own (.pair (.int .i64) (.pair (.int .i64) (.int .i64))), .sl .own (.pair (.pair (.int .i64) (.int .i64)) (.pair (.int .i64) (.pair .bool (.pair (.int .i64) (.int .i64))))), .dead, .sl .own (.pair (.int .i64) (.int .i64))], .row 114 [.sl .own (.pair (.pair (.int .i64) (.int .i64)) (.int .i64))]]⟩] (.two (.leaf) (.two (.inl 2 152 (.join [2, 5, 110, 111] [2, 5] [⟨.ret, [], [.tmp 156 (.int .i64)]⟩] (.two (.leaf) (.two (.two (.leaf) (.one (.loop [2, 5, 110, 111, 152, 153, 159] [2, 5] [] [.tmp 160 (.int .i64)] [⟨.exit 0, [], []⟩, ⟨.ret, [], [.tmp 156 (.int .i64)]⟩] (.two (.leaf) (.two (.two (.leaf) (.leaf)) (.two (.one (.two (.leaf) (.two (.inl 5 171 (.two (.leaf) (.two (.inl 3 180 (.two (.leaf) (.two (.inl 2 189 (.join [2, 5, 110, 111, 152, 153, 157, 159, 160] [2, 5] [⟨.ret, [], [.tmp 193 (.int .i64)]⟩] (.two (.leaf) (.two (.two (.leaf) (.one (.loop [2, 5, 110, 111, 152, 153, 157, 159, 160, 189, 190, 196] [2, 5, 173] [] [.tmp 197 (.int .i64)] [⟨.exit 0, [], []⟩, ⟨.ret, [], [.tmp 193 (.int .i64)]⟩] (.two (.leaf) (.two (.two (.leaf) (.leaf)) (.two (.one (.two (.leaf) (.two (.inl 5 208 (.two (.leaf) (.two (.leaf) (.leaf))) (.leaf)) (.two (.two (.leaf) (.leaf)) (.leaf))))) (.leaf))))))) (.two (.leaf) (.leaf))))) (.leaf)) (.leaf))) (.leaf)) (.leaf))) (.leaf)) (.two (.two (.leaf) (.leaf)) (.leaf))))) (.leaf))))))) (.two (.leaf) (.leaf))))) (.leaf)) (.two (.two (.leaf) (.two (.two (.leaf) (.leaf)) (.leaf))) (.two (.two (.leaf) (.one (.loop [2] [2] [] [.tmp 5 (.pt 5 [(0, 0)] 0 0 4), .tmp 110 (.own 5 [(0, 0), (0, 2)] (.pair (.pair (.int .i64) (.int .i64)) (.int .i64))), .tmp 111 (.fnp 43 [(5, [(0, 0)])]), .tmp 115 (.int .i64), .tmp 116 (.int .i64), .box 5 [.sl .own (.pair (.int .i64) (.pair (.int .i64) (.int .i64))), .sl .own (.pair (.pair (.int .i64) (.int .i64)) (.pair (.int .i64) (.pair .bool (.pair (.int .i64) (.int .i64))))), .sl .own (.pair (.pair (.int .i64) (.int .i64)) (.int .i64)), .sl .own (.pair (.int .i64) (.int .i64))]] [⟨.exit 0, [], [.tmp 5 (.pt 5 [(0, 0)] 0 0 4), .tmp 110 (.own 5 [(0, 0), (0, 2)] (.pair (.pair (.int .i64) (.int .i64)) (.int .i64))), .tmp 115 (.int .i64), .box 5 [.sl .own (.pair (.int .i64) (.pair (.int .i64) (.int .i64))), .sl .own (.pair (.pair (.int .i64) (.int .i64)) (.pair (.int .i64) (.pair .bool (.pair (.int .i64) (.int .i64))))), .sl .own (.pair (.pair (.int .i64) (.int .i64)) (.int .i64)), .sl .own (.pair (.int .i64) (.int .i64))]]⟩] (.two (.two (.leaf) (.two (.leaf) (.leaf))) (.two (.join [2, 116] [2] [⟨.normal, [], [.tmp 5 (.pt 5 [(0, 0)] 0 0 4), .tmp 110 (.own 5 [(0, 0), (0, 2)] (.pair (.pair (.int .i64) (.int .i64)) (.int .i64))), .tmp 111 (.fnp 43 [(5, [(0, 0)])]), .tmp 115 (.int .i64), .box 5 [.sl .own (.pair (.int .i64) (.pair (.int .i64) (.int .i64))), .sl .own (.pair (.pair (.int .i64) (.int .i64)) (.pair (.int .i64) (.pair .bool (.pair (.int .i64) (.int .i64))))), .sl .own (.pair (.pair (.int .i64) (.int .i64)) (.int .i64)), .sl .own (.pair (.int .i64) (.int .i64))]]⟩] (.one (.two (.leaf) (.two (.inl 2 217 (.two (.leaf) (.two (.inl 3 226 (.two (.leaf) (.two (.inl 2 235 (.join [2, 5, 110, 111, 115, 116, 117] [2, 5, 117] [⟨.ret, [], [.tmp 239 (.int .i64)]⟩] (.two (.leaf) (.two (.two (.leaf) (.one (.loop [2, 5, 110, 111, 115, 116, 117, 235, 236, 242] [2, 5, 117, 219] [] [.tmp 243 (.int .i64)] [⟨.exit 0, [], []⟩, ⟨.ret, [], [.tmp 239 (.int .i64)]⟩] (.two (.leaf) (.two (.two (.leaf) (.leaf)) (.two (.one (.two (.leaf) (.two (.inl 5 254 (.two (.leaf) (.two (.leaf) (.leaf))) (.leaf)) (.two (.two (.leaf) (.leaf)) (.leaf))))) (.leaf))))))) (.two (.leaf) (.leaf))))) (.leaf)) (.leaf))) (.leaf)) (.leaf))) (.leaf)) (.two (.two (.leaf) (.leaf)) (.leaf)))))) (.leaf)))))) (.two (.leaf) (.two (.leaf) (.leaf)))))))) (.leaf)) (.two (.two (.leaf) (.one (.loop [2, 26] [2] [] [.tmp 5 (.pt 5 [(0, 0)] 0 0 4), .tmp 27 (.int .i64), .box 5 [.sl .own (.pair (.int .i64) (.pair (.int .i64) (.int .i64))), .sl .own (.pair (.pair (.int .i64) (.int .i64)) (.pair (.int .i64) (.pair .bool (.pair (.int .i64) (.int .i64))))), .sl .own (.pair (.pair (.int .i64) (.int .i64)) (.int .i64)), .sl .own (.pair (.int .i64) (.int .i64))]] [⟨.exit 0, [], [.tmp 5 (.pt 5 [(0, 0)] 0 0 4), .box 5 [.sl .own (.pair (.int .i64) (.pair (.int .i64) (.int .i64))), .sl .own (.pair (.pair (.int .i64) (.int .i64)) (.pair (.int .i64) (.pair .bool (.pair (.int .i64) (.int .i64))))), .sl .own (.pair (.pair (.int .i64) (.int .i64)) (.int .i64)), .sl .own (.pair (.int .i64) (.int .i64))]]⟩] (.two (.leaf) (.two (.two (.leaf) (.leaf)) (.two (.one (.two (.leaf) (.leaf))) (.leaf))))))) (.two (.leaf) (.leaf)))))))
theorem s24 : SoundF cx.P cx.G 24 sg24 r24 := by
  have e : denF cx [(18, ⟨sg18, r18⟩), (31, ⟨sg31, r31⟩)] an24 Try.f24.ntmps (Try.f24.body.getD .skip) Try.f24.results.toList sg24 = r24 := by kernel_rfl
  rw [← e]
  exact sound_of_den (c := cx) (Known.cons (.ofF s18 (by kernel_rfl)) Try.func18 (by kernel_rfl) (by kernel_rfl) (Known.cons (.ofF s31 (by kernel_rfl)) Try.func31 (by kernel_rfl) (by kernel_rfl) (Known.nil))) Try.func24 (by kernel_rfl) (Nat.le_of_ble_eq_true (by kernel_rfl)) rfl

/-! reredos/reredoskeep.ForgetReads -/
noncomputable def r10_L0 (y1 : (List ((Int × (Int × Int))) × (List (((Int × Int) × (Int × (Bool × (Int × Int))))) × (List (((Int × Int) × Int)) × List ((Int × Int)))))) (y2 : ((List ((Int × (Int × Int))) × (List (((Int × Int) × (Int × (Bool × (Int × Int))))) × (List (((Int × Int) × Int)) × List ((Int × Int))))) × Int)) (d10 : (Int × Int)) : Option ((Int × Int) ⊕ (Int ⊕ Bool)) :=
  bif decide (d10.2 < (↑y1.2.1.length : Int)) then
    Option.bind (
      bif inB d10.2 y1.2.1.length then
        Option.bind (idxN y1.2.1 (Int.toNat d10.2)) fun (x27 : ((Int × Int) × (Int × (Bool × (Int × Int))))) =>
          bif x27.2.2.1 then
            Option.bind (
              bif !(decide (d10.1 = (↑y2.1.2.1.length : Int))) then
                bif inB d10.1 y2.1.2.1.length then
                  Option.bind (idxN y2.1.2.1 (Int.toNat d10.1)) fun (x33 : ((Int × Int) × (Int × (Bool × (Int × Int))))) =>
                    some (!(((decide (x33.1.1 = x27.1.1) && (decide (x33.1.2 = x27.1.2) && true)) && (decide (x33.2.1 = x27.2.1) && (decide (x33.2.2.1 = x27.2.2.1) && (decide (x33.2.2.2.1 = x27.2.2.2.1) && (decide (x33.2.2.2.2 = x27.2.2.2.2) && true)))))))
                else
                  none
              else
                some true) fun (d34 : Bool) =>
              bif d34 then
                some (Sum.inr false)
              else
                some (Sum.inl (Go.IntKind.wrap .i64 (d10.1 + (1 : Int))))
          else
            some (Sum.inl d10.1)
      else
        none) fun (d35 : (Int ⊕ Bool)) =>
      Sum.elim (fun (v36 : Int) =>
          some (Sum.inl (v36, (Go.IntKind.wrap .i64 (d10.2 + (1 : Int))))))
        (fun (v37 : Bool) =>
          some (Sum.inr (Sum.inr v37))) d35
  else
    some (Sum.inr (Sum.inl d10.1))
def sg10 : Sig := ⟨[⟨false, .bo, (.sl (.pair (.int .i64) (.pair (.int .i64) (.pair (.int .i64) (.pair (.int .i64) (.pair (.int .i64) (.int .i64)))))))⟩], [⟨false, .own, .bool⟩]⟩
noncomputable def r10 (a : List ((Int × (Int × (Int × (Int × (Int × Int))))))) : Option Bool :=
  Option.bind (r16 (a, (40 : Int))) fun (y1 : (List ((Int × (Int × Int))) × (List (((Int × Int) × (Int × (Bool × (Int × Int))))) × (List (((Int × Int) × Int)) × List ((Int × Int)))))) =>
    Option.bind (r24 y1) fun (y2 : ((List ((Int × (Int × Int))) × (List (((Int × Int) × (Int × (Bool × (Int × Int))))) × (List (((Int × Int) × Int)) × List ((Int × Int))))) × Int)) =>
      Option.bind (
        Option.bind (
          bif !(!(decide (y2.2 = (0 : Int)))) then
            Option.bind (r18 y2.1) fun (y7 : Int) =>
              some (!(decide (y7 = (0 : Int))))
          else
            some true) fun (g8 : Bool) =>
          bif !(g8) then
            some (!(decide ((↑y2.1.1.length : Int) = (↑y1.1.length : Int))))
          else
            some true) fun (d9 : Bool) =>
        bif d9 then
          some false
        else
          Option.bind (loopR (r10_L0 y1 y2) ((0 : Int), (0 : Int))) fun (q38 : (Int ⊕ Bool)) =>
            Sum.elim (fun (v39 : Int) =>
                Option.bind (r24 ([], ([(((0 : Int), (0 : Int)), ((0 : Int), (false, ((0 : Int), (0 : Int)))))], ([], [])))) fun (y41 : ((List ((Int × (Int × Int))) × (List (((Int × Int) × (Int × (Bool × (Int × Int))))) × (List (((Int × Int) × Int)) × List ((Int × Int))))) × Int)) =>
                  bif decide (v39 = (↑y2.1.2.1.length : Int)) then
                    some (decide (y41.2 = (9 : Int)))
                  else
                    some false)
              (fun (v40 : Bool) =>
                some v40) q38
def an10 : Ann := .two (.leaf) (.two (.leaf) (.two (.leaf) (.two (.two (.join [3, 4] [3, 4] [⟨.normal, [], [.tmp 33 (.bool)]⟩] (.segs [(7, ([3, 4], ([3, 4], [.tmp 24 (.bool)])))])) (.two (.two (.leaf) (.leaf)) (.leaf))) (.two (.leaf) (.two (.two (.leaf) (.one (.loop [4, 35, 36] [3, 4] [] [.tmp 6 (.int .i64), .tmp 37 (.int .i64)] [⟨.exit 0, [], [.tmp 6 (.int .i64)]⟩, ⟨.ret, [], [.tmp 2 (.bool)]⟩] (.two (.leaf) (.two (.two (.leaf) (.leaf)) (.two (.join [4, 35, 36, 37] [3, 4] [⟨.normal, [], [.tmp 6 (.int .i64)]⟩, ⟨.ret, [], [.tmp 2 (.bool)]⟩] (.one (.two (.leaf) (.two (.leaf) (.two (.two (.two (.join [4, 6, 35, 36, 37] [3, 4] [⟨.normal, [], [.tmp 56 (.bool)]⟩] (.draw 12)) (.two (.two (.leaf) (.leaf)) (.leaf))) (.leaf)) (.leaf)))))) (.leaf))))))) (.two (.leaf) (.two (.leaf) (.leaf))))))))
theorem s10 : SoundF cx.P cx.G 10 sg10 r10 := by
  have e : denF cx [(16, ⟨sg16, r16⟩), (18, ⟨sg18, r18⟩), (24, ⟨sg24, r24⟩)] an10 Try.f10.ntmps (Try.f10.body.getD .skip) Try.f10.results.toList sg10 = r10 := by kernel_rfl
  rw [← e]
  exact sound_of_den (c := cx) (Known.cons (.ofF s16 (by kernel_rfl)) Try.func16 (by kernel_rfl) (by kernel_rfl) (Known.cons (.ofF s18 (by kernel_rfl)) Try.func18 (by kernel_rfl) (by kernel_rfl) (Known.cons (.ofF s24 (by kernel_rfl)) Try.func24 (by kernel_rfl) (by kernel_rfl) (Known.nil)))) Try.func10 (by kernel_rfl) (Nat.le_of_ble_eq_true (by kernel_rfl)) rfl

/-! reredos/store.Still -/
def sg25 : Sig := ⟨[⟨true, .bo, (.pair (.sl (.pair (.int .i64) (.pair (.int .i64) (.int .i64)))) (.pair (.sl (.pair (.pair (.int .i64) (.int .i64)) (.pair (.int .i64) (.pair .bool (.pair (.int .i64) (.int .i64)))))) (.pair (.sl (.pair (.pair (.int .i64) (.int .i64)) (.int .i64))) (.sl (.pair (.int .i64) (.int .i64))))))⟩, ⟨true, .bo, (.pair (.int .i64) (.int .i64))⟩, ⟨false, .bo, (.int .i64)⟩, ⟨false, .bo, (.int .i64)⟩], [⟨false, .own, .bool⟩, ⟨false, .own, (.int .i64)⟩]⟩
noncomputable def r25 (a : ((List ((Int × (Int × Int))) × (List (((Int × Int) × (Int × (Bool × (Int × Int))))) × (List (((Int × Int) × Int)) × List ((Int × Int))))) × ((Int × Int) × (Int × Int)))) : Option (Bool × Int) :=
  Option.bind (r26 (a.1, a.2.1, a.2.2.1)) fun (y1 : Int) =>
    bif !(decide (y1 = (0 : Int))) then
      some (false, y1)
    else
      Option.bind (
        Option.bind (r27 (a.1, a.2.1, a.2.2.1)) fun (y2 : Int) =>
          bif decide ((0 : Int) ≤ y2) then
            Option.bind (r30 (a.1, a.2.2.1)) fun (y3 : (Int × (Int × Int))) =>
              some (decide (y3.2.2 = a.2.2.2))
          else
            some false) fun (g4 : Bool) =>
        some (g4, (0 : Int))
def an25 : Ann := .two (.leaf) (.two (.two (.leaf) (.two (.leaf) (.two (.two (.leaf) (.leaf)) (.leaf)))) (.two (.segs [(13, ([], ([], [.tmp 30 (.bool)])))]) (.leaf)))
theorem s25 : SoundF cx.P cx.G 25 sg25 r25 := by
  have e : denF cx [(26, ⟨sg26, r26⟩), (27, ⟨sg27, r27⟩), (30, ⟨sg30, r30⟩)] an25 Try.f25.ntmps (Try.f25.body.getD .skip) Try.f25.results.toList sg25 = r25 := by kernel_rfl
  rw [← e]
  exact sound_of_den (c := cx) (Known.cons (.ofF s26 (by kernel_rfl)) Try.func26 (by kernel_rfl) (by kernel_rfl) (Known.cons (.ofF s27 (by kernel_rfl)) Try.func27 (by kernel_rfl) (by kernel_rfl) (Known.cons (.ofF s30 (by kernel_rfl)) Try.func30 (by kernel_rfl) (by kernel_rfl) (Known.nil)))) Try.func25 (by kernel_rfl) (Nat.le_of_ble_eq_true (by kernel_rfl)) rfl

/-! reredos/reredoskeep.ReadTells -/
def sg11 : Sig := ⟨[⟨false, .bo, (.sl (.pair (.int .i64) (.pair (.int .i64) (.pair (.int .i64) (.pair (.int .i64) (.pair (.int .i64) (.int .i64)))))))⟩, ⟨true, .bo, (.pair (.int .i64) (.pair (.int .i64) (.pair (.int .i64) (.pair (.int .i64) (.pair (.int .i64) (.int .i64))))))⟩, ⟨false, .bo, (.int .i64)⟩], [⟨false, .own, .bool⟩]⟩
noncomputable def r11 (a : (List ((Int × (Int × (Int × (Int × (Int × Int)))))) × ((Int × (Int × (Int × (Int × (Int × Int))))) × Int))) : Option Bool :=
  Option.bind (r16 (a.1, (30 : Int))) fun (y1 : (List ((Int × (Int × Int))) × (List (((Int × Int) × (Int × (Bool × (Int × Int))))) × (List (((Int × Int) × Int)) × List ((Int × Int)))))) =>
    Option.bind (r13 (a.2.1.2.1, (9 : Int))) fun (y2 : Int) =>
      Option.bind (r13 (a.2.2, (8 : Int))) fun (y3 : Int) =>
        Option.bind (r17 (y1, ((2 : Int), (Go.IntKind.wrap .i64 ((1 : Int) + y2))), y3)) fun (y4 : ((List ((Int × (Int × Int))) × (List (((Int × Int) × (Int × (Bool × (Int × Int))))) × (List (((Int × Int) × Int)) × List ((Int × Int))))) × (Int × (Int × Int)))) =>
          Option.bind (r21 (y1, y3)) fun (y5 : (Int × (Int × Int))) =>
            Option.bind (r18 y1) fun (y6 : Int) =>
              bif !(decide (y6 = (0 : Int))) then
                some false
              else
                bif !(decide (y4.2.2.2 = (0 : Int))) then
                  bif decide (y4.2.2.2 = (11 : Int)) then
                    some (decide (y5.2.2 = (11 : Int)))
                  else
                    some false
                else
                  Option.bind (r17 (y4.1, ((2 : Int), (Go.IntKind.wrap .i64 ((1 : Int) + y2))), y3)) fun (y7 : ((List ((Int × (Int × Int))) × (List (((Int × Int) × (Int × (Bool × (Int × Int))))) × (List (((Int × Int) × Int)) × List ((Int × Int))))) × (Int × (Int × Int)))) =>
                    Option.bind (r25 (y4.1, ((2 : Int), (Go.IntKind.wrap .i64 ((1 : Int) + y2))), y3, y4.2.2.1)) fun (y8 : (Bool × Int)) =>
                      Option.bind (
                        bif decide (y5.2.2 = (0 : Int)) then
                          some (decide (y7.2.2.2 = (0 : Int)))
                        else
                          some false) fun (g9 : Bool) =>
                        Option.bind (
                          bif g9 then
                            some (decide (y8.2 = (0 : Int)))
                          else
                            some false) fun (g10 : Bool) =>
                          Option.bind (
                            bif g10 then
                              some (decide (y4.2.1 = y5.1))
                            else
                              some false) fun (g11 : Bool) =>
                            Option.bind (
                              bif g11 then
                                some (decide (y4.2.2.1 = y5.2.1))
                              else
                                some false) fun (g12 : Bool) =>
                              Option.bind (
                                bif g12 then
                                  some (decide (y4.2.1 = y7.2.1))
                                else
                                  some false) fun (g13 : Bool) =>
                                Option.bind (
                                  bif g13 then
                                    some (decide (y4.2.2.1 = y7.2.2.1))
                                  else
                                    some false) fun (g14 : Bool) =>
                                  Option.bind (
                                    bif g14 then
                                      some y8.1
                                    else
                                      some false) fun (g15 : Bool) =>
                                    bif g15 then
                                      Option.bind (r23 (y4.1, y7.1)) fun (y16 : Bool) =>
                                        some y16
                                    else
                                      some false
def an11 : Ann := .two (.leaf) (.two (.leaf) (.two (.leaf) (.two (.leaf) (.two (.leaf) (.two (.leaf) (.two (.two (.leaf) (.two (.two (.leaf) (.leaf)) (.leaf))) (.two (.two (.leaf) (.two (.two (.leaf) (.leaf)) (.leaf))) (.two (.leaf) (.two (.leaf) (.two (.segs [(6, ([10, 11, 12, 14, 15, 17, 18, 19, 21, 22], ([10, 17], [.tmp 81 (.bool)]))), (4, ([10, 11, 12, 14, 15, 17, 18, 19, 21], ([10, 17], [.tmp 85 (.bool)]))), (5, ([10, 11, 12, 15, 17, 18, 19, 21], ([10, 17], [.tmp 90 (.bool)]))), (5, ([10, 11, 12, 17, 18, 19, 21], ([10, 17], [.tmp 95 (.bool)]))), (5, ([10, 12, 17, 19, 21], ([10, 17], [.tmp 100 (.bool)]))), (5, ([10, 17, 21], ([10, 17], [.tmp 105 (.bool)]))), (3, ([10, 17], ([10, 17], [.tmp 108 (.bool)])))]) (.leaf)))))))))))
theorem s11 : SoundF cx.P cx.G 11 sg11 r11 := by
  have e : denF cx [(13, ⟨sg13, r13⟩), (16, ⟨sg16, r16⟩), (17, ⟨sg17, r17⟩), (18, ⟨sg18, r18⟩), (21, ⟨sg21, r21⟩), (23, ⟨sg23, r23⟩), (25, ⟨sg25, r25⟩)] an11 Try.f11.ntmps (Try.f11.body.getD .skip) Try.f11.results.toList sg11 = r11 := by kernel_rfl
  rw [← e]
  exact sound_of_den (c := cx) (Known.cons (.ofF s13 (by kernel_rfl)) Try.func13 (by kernel_rfl) (by kernel_rfl) (Known.cons (.ofF s16 (by kernel_rfl)) Try.func16 (by kernel_rfl) (by kernel_rfl) (Known.cons (.ofF s17 (by kernel_rfl)) Try.func17 (by kernel_rfl) (by kernel_rfl) (Known.cons (.ofF s18 (by kernel_rfl)) Try.func18 (by kernel_rfl) (by kernel_rfl) (Known.cons (.ofF s21 (by kernel_rfl)) Try.func21 (by kernel_rfl) (by kernel_rfl) (Known.cons (.ofF s23 (by kernel_rfl)) Try.func23 (by kernel_rfl) (by kernel_rfl) (Known.cons (.ofF s25 (by kernel_rfl)) Try.func25 (by kernel_rfl) (by kernel_rfl) (Known.nil)))))))) Try.func11 (by kernel_rfl) (Nat.le_of_ble_eq_true (by kernel_rfl)) rfl

/-! reredos/reredoskeep.WriteAlone -/
noncomputable def r12_L0 (y1 : (List ((Int × (Int × Int))) × (List (((Int × Int) × (Int × (Bool × (Int × Int))))) × (List (((Int × Int) × Int)) × List ((Int × Int)))))) (y4 : Int) (d8 : (Int × Int)) : Option ((Int × Int) ⊕ Int) :=
  bif decide (d8.2 < (↑y1.2.1.length : Int)) then
    Option.bind (
      bif inB d8.2 y1.2.1.length then
        Option.bind (idxN y1.2.1 (Int.toNat d8.2)) fun (x11 : ((Int × Int) × (Int × (Bool × (Int × Int))))) =>
          bif decide (x11.2.1 = y4) then
            some (Go.IntKind.wrap .i64 (d8.1 + (1 : Int)))
          else
            some d8.1
      else
        none) fun (d12 : Int) =>
      some (Sum.inl (d12, (Go.IntKind.wrap .i64 (d8.2 + (1 : Int)))))
  else
    some (Sum.inr d8.1)
def sg12 : Sig := ⟨[⟨false, .bo, (.sl (.pair (.int .i64) (.pair (.int .i64) (.pair (.int .i64) (.pair (.int .i64) (.pair (.int .i64) (.int .i64)))))))⟩, ⟨false, .bo, (.int .i64)⟩, ⟨false, .bo, (.int .i64)⟩, ⟨false, .bo, (.int .i64)⟩, ⟨false, .bo, (.int .i64)⟩], [⟨false, .own, .bool⟩]⟩
noncomputable def r12 (a : (List ((Int × (Int × (Int × (Int × (Int × Int)))))) × (Int × (Int × (Int × Int))))) : Option Bool :=
  Option.bind (r16 (a.1, (30 : Int))) fun (y1 : (List ((Int × (Int × Int))) × (List (((Int × Int) × (Int × (Bool × (Int × Int))))) × (List (((Int × Int) × Int)) × List ((Int × Int)))))) =>
    Option.bind (r13 (a.2.1, (9 : Int))) fun (y2 : Int) =>
      Option.bind (r13 (a.2.2.1, (9 : Int))) fun (y3 : Int) =>
        Option.bind (r13 (a.2.2.2.1, (8 : Int))) fun (y4 : Int) =>
          Option.bind (r13 (a.2.2.2.2, (1073741824 : Int))) fun (y5 : Int) =>
            Option.bind (r14 (y1, ((2 : Int), (Go.IntKind.wrap .i64 ((1 : Int) + y2))), y4, y5, (1 : Int))) fun (y6 : ((List ((Int × (Int × Int))) × (List (((Int × Int) × (Int × (Bool × (Int × Int))))) × (List (((Int × Int) × Int)) × List ((Int × Int))))) × Int)) =>
              Option.bind (r18 y1) fun (y7 : Int) =>
                bif !(decide (y7 = (0 : Int))) then
                  some false
                else
                  bif !(decide (y6.2 = (0 : Int))) then
                    Option.bind (loopR (r12_L0 y1 y4) ((0 : Int), (0 : Int))) fun (q13 : Int) =>
                      bif decide (y6.2 = (11 : Int)) then
                        some (decide ((0 : Int) < q13))
                      else
                        some false
                  else
                    Option.bind (r17 (y6.1, ((3 : Int), (Go.IntKind.wrap .i64 ((1 : Int) + y3))), y4)) fun (y14 : ((List ((Int × (Int × Int))) × (List (((Int × Int) × (Int × (Bool × (Int × Int))))) × (List (((Int × Int) × Int)) × List ((Int × Int))))) × (Int × (Int × Int)))) =>
                      Option.bind (r14 (y6.1, ((3 : Int), (Go.IntKind.wrap .i64 ((1 : Int) + y3))), y4, y5, (1 : Int))) fun (y15 : ((List ((Int × (Int × Int))) × (List (((Int × Int) × (Int × (Bool × (Int × Int))))) × (List (((Int × Int) × Int)) × List ((Int × Int))))) × Int)) =>
                        Option.bind (r21 (y6.1, y4)) fun (y16 : (Int × (Int × Int))) =>
                          Option.bind (r17 (y6.1, ((2 : Int), (Go.IntKind.wrap .i64 ((1 : Int) + y2))), y4)) fun (y17 : ((List ((Int × (Int × Int))) × (List (((Int × Int) × (Int × (Bool × (Int × Int))))) × (List (((Int × Int) × Int)) × List ((Int × Int))))) × (Int × (Int × Int)))) =>
                            Option.bind (r22 (y6.1, ((2 : Int), (Go.IntKind.wrap .i64 ((1 : Int) + y2))))) fun (y18 : (Int × Int)) =>
                              Option.bind (
                                bif decide (y14.2.2.2 = (11 : Int)) then
                                  some (decide (y15.2 = (11 : Int)))
                                else
                                  some false) fun (g19 : Bool) =>
                                Option.bind (
                                  bif g19 then
                                    some (decide (y16.2.2 = (11 : Int)))
                                  else
                                    some false) fun (g20 : Bool) =>
                                  Option.bind (
                                    bif g20 then
                                      some (decide (y17.2.2.2 = (0 : Int)))
                                    else
                                      some false) fun (g21 : Bool) =>
                                    Option.bind (
                                      bif g21 then
                                        some (decide (y18.2 = (0 : Int)))
                                      else
                                        some false) fun (g22 : Bool) =>
                                      Option.bind (
                                        bif g22 then
                                          some (decide (y17.2.1 = y5))
                                        else
                                          some false) fun (g23 : Bool) =>
                                        Option.bind (
                                          bif g23 then
                                            some (decide (y18.1 = (1 : Int)))
                                          else
                                            some false) fun (g24 : Bool) =>
                                          bif g24 then
                                            Option.bind (r18 y6.1) fun (y25 : Int) =>
                                              some (decide (y25 = (0 : Int)))
                                          else
                                            some false
def an12 : Ann := .two (.leaf) (.two (.leaf) (.two (.leaf) (.two (.leaf) (.two (.leaf) (.two (.leaf) (.two (.leaf) (.two (.two (.leaf) (.two (.two (.leaf) (.leaf)) (.leaf))) (.two (.two (.leaf) (.two (.two (.leaf) (.two (.two (.leaf) (.one (.loop [14, 17, 64, 65] [11] [] [.tmp 18 (.int .i64), .tmp 66 (.int .i64)] [⟨.exit 0, [], [.tmp 18 (.int .i64)]⟩] (.two (.leaf) (.two (.two (.leaf) (.leaf)) (.two (.join [14, 17, 64, 65, 66] [11] [⟨.normal, [], [.tmp 18 (.int .i64)]⟩] (.one (.two (.leaf) (.two (.leaf) (.two (.leaf) (.leaf)))))) (.leaf))))))) (.two (.leaf) (.leaf)))) (.leaf))) (.two (.leaf) (.two (.leaf) (.two (.leaf) (.two (.leaf) (.two (.leaf) (.two (.segs [(6, ([15, 16, 29, 31, 33, 34, 35], ([16], [.tmp 127 (.bool)]))), (4, ([15, 16, 31, 33, 34, 35], ([16], [.tmp 131 (.bool)]))), (4, ([15, 16, 31, 34, 35], ([16], [.tmp 135 (.bool)]))), (4, ([15, 16, 31, 34], ([16], [.tmp 139 (.bool)]))), (5, ([16, 34], ([16], [.tmp 144 (.bool)]))), (4, ([16], ([16], [.tmp 148 (.bool)])))]) (.leaf)))))))))))))))
theorem s12 : SoundF cx.P cx.G 12 sg12 r12 := by
  have e : denF cx [(13, ⟨sg13, r13⟩), (14, ⟨sg14, r14⟩), (16, ⟨sg16, r16⟩), (17, ⟨sg17, r17⟩), (18, ⟨sg18, r18⟩), (21, ⟨sg21, r21⟩), (22, ⟨sg22, r22⟩)] an12 Try.f12.ntmps (Try.f12.body.getD .skip) Try.f12.results.toList sg12 = r12 := by kernel_rfl
  rw [← e]
  exact sound_of_den (c := cx) (Known.cons (.ofF s13 (by kernel_rfl)) Try.func13 (by kernel_rfl) (by kernel_rfl) (Known.cons (.ofF s14 (by kernel_rfl)) Try.func14 (by kernel_rfl) (by kernel_rfl) (Known.cons (.ofF s16 (by kernel_rfl)) Try.func16 (by kernel_rfl) (by kernel_rfl) (Known.cons (.ofF s17 (by kernel_rfl)) Try.func17 (by kernel_rfl) (by kernel_rfl) (Known.cons (.ofF s18 (by kernel_rfl)) Try.func18 (by kernel_rfl) (by kernel_rfl) (Known.cons (.ofF s21 (by kernel_rfl)) Try.func21 (by kernel_rfl) (by kernel_rfl) (Known.cons (.ofF s22 (by kernel_rfl)) Try.func22 (by kernel_rfl) (by kernel_rfl) (Known.nil)))))))) Try.func12 (by kernel_rfl) (Nat.le_of_ble_eq_true (by kernel_rfl)) rfl

end Go.Hs
