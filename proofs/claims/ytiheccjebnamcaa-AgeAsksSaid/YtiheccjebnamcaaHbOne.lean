/- What the functions compute: written by gen.py. -/
import Derived.Test.YtiheccjebnamcaaRvThirtySeven
import Derived.Test.YtiheccjebnamcaaProg
import Derived.KernelRfl
namespace Go.Hb
open Go.RowKit Go.Proofs Go.V
def tys : List (Nat × TyInfo) := [
  (3, ⟨.int .i64, 1, 8, [.int .i64 0], false, [none], [none], (.int .i64)⟩),
  (4, ⟨.bool, 1, 1, [.bool false], false, [none], [none], .bool⟩),
  (23, ⟨.sl 68, 1, 24, [.slice none 0 0], false, [some (.pair (.int .i64) (.pair (.int .i64) (.int .i64)))], [none], (.sl (.pair (.int .i64) (.pair (.int .i64) (.int .i64))))⟩),
  (24, ⟨.sl 47, 1, 24, [.slice none 0 0], false, [some (.pair (.pair (.int .i64) (.int .i64)) (.pair (.int .i64) (.pair .bool (.pair (.int .i64) (.int .i64)))))], [none], (.sl (.pair (.pair (.int .i64) (.int .i64)) (.pair (.int .i64) (.pair .bool (.pair (.int .i64) (.int .i64))))))⟩),
  (25, ⟨.sl 75, 1, 24, [.slice none 0 0], false, [some (.pair (.pair (.int .i64) (.int .i64)) (.int .i64))], [none], (.sl (.pair (.pair (.int .i64) (.int .i64)) (.int .i64)))⟩),
  (26, ⟨.sl 33, 1, 24, [.slice none 0 0], false, [some (.pair (.int .i64) (.int .i64))], [none], (.sl (.pair (.int .i64) (.int .i64)))⟩),
  (28, ⟨.st [(0, 23), (1, 24), (2, 25), (3, 26)], 4, 96, [.slice none 0 0, .slice none 0 0, .slice none 0 0, .slice none 0 0], false, [some (.pair (.int .i64) (.pair (.int .i64) (.int .i64))), some (.pair (.pair (.int .i64) (.int .i64)) (.pair (.int .i64) (.pair .bool (.pair (.int .i64) (.int .i64))))), some (.pair (.pair (.int .i64) (.int .i64)) (.int .i64)), some (.pair (.int .i64) (.int .i64))], [none, none, none, none], (.pair (.rsl (.pair (.int .i64) (.pair (.int .i64) (.int .i64)))) (.pair (.rsl (.pair (.pair (.int .i64) (.int .i64)) (.pair (.int .i64) (.pair .bool (.pair (.int .i64) (.int .i64)))))) (.pair (.rsl (.pair (.pair (.int .i64) (.int .i64)) (.int .i64))) (.rsl (.pair (.int .i64) (.int .i64))))))⟩),
  (29, ⟨.int .i64, 1, 8, [.int .i64 0], false, [none], [none], (.int .i64)⟩),
  (33, ⟨.st [(0, 3), (1, 3)], 2, 16, [.int .i64 0, .int .i64 0], true, [none, none], [none, none], (.pair (.int .i64) (.int .i64))⟩),
  (47, ⟨.st [(0, 33), (2, 3), (3, 4), (4, 3), (5, 3)], 6, 48, [.int .i64 0, .int .i64 0, .int .i64 0, .bool false, .int .i64 0, .int .i64 0], false, [none, none, none, none, none, none], [none, none, none, none, none, none], (.pair (.pair (.int .i64) (.int .i64)) (.pair (.int .i64) (.pair .bool (.pair (.int .i64) (.int .i64)))))⟩),
  (68, ⟨.st [(0, 3), (1, 3), (2, 3)], 3, 24, [.int .i64 0, .int .i64 0, .int .i64 0], false, [none, none, none], [none, none, none], (.pair (.int .i64) (.pair (.int .i64) (.int .i64)))⟩),
  (75, ⟨.st [(0, 33), (2, 3)], 3, 24, [.int .i64 0, .int .i64 0, .int .i64 0], false, [none, none, none], [none, none, none], (.pair (.pair (.int .i64) (.int .i64)) (.int .i64))⟩),
  (100, ⟨.int .u64, 1, 8, [.int .u64 0], false, [none], [none], (.int .u64)⟩)]
theorem tysOk : TyOk Try.prog tys := tyOk_of fun e he => by
  simp only [tys, List.mem_cons, List.not_mem_nil, or_false] at he
  rcases he with rfl | rfl | rfl | rfl | rfl | rfl | rfl | rfl | rfl | rfl | rfl | rfl | rfl
  · exact ⟨by kernel_rfl, by kernel_rfl, fun h => nomatch h⟩
  · exact ⟨by kernel_rfl, by kernel_rfl, fun h => nomatch h⟩
  · exact ⟨by kernel_rfl, by kernel_rfl, fun h => nomatch h⟩
  · exact ⟨by kernel_rfl, by kernel_rfl, fun h => nomatch h⟩
  · exact ⟨by kernel_rfl, by kernel_rfl, fun h => nomatch h⟩
  · exact ⟨by kernel_rfl, by kernel_rfl, fun h => nomatch h⟩
  · exact ⟨by kernel_rfl, by kernel_rfl, fun h => nomatch h⟩
  · exact ⟨by kernel_rfl, by kernel_rfl, fun h => nomatch h⟩
  · exact ⟨by kernel_rfl, by kernel_rfl, fun _ => ⟨by kernel_rfl, by kernel_rfl, by kernel_rfl⟩⟩
  · exact ⟨by kernel_rfl, by kernel_rfl, fun h => nomatch h⟩
  · exact ⟨by kernel_rfl, by kernel_rfl, fun h => nomatch h⟩
  · exact ⟨by kernel_rfl, by kernel_rfl, fun h => nomatch h⟩
  · exact ⟨by kernel_rfl, by kernel_rfl, fun h => nomatch h⟩
noncomputable def inls : List (Nat × Go.Func) := [(44, Try.f44), (47, Try.f47), (48, Try.f48), (50, Try.f50), (56, Try.f56), (57, Try.f57), (58, Try.f58), (62, Try.f62), (63, Try.f63), (64, Try.f64)]
theorem inlsOk : ∀ f fn, Go.V.look inls f = some fn → Try.prog.funcs[f]? = some fn ∧ (fn.name == "runtime.NumGoroutine") = false := inlOk_of fun e he => by
  simp only [inls, List.mem_cons, List.not_mem_nil, or_false] at he
  rcases he with rfl | rfl | rfl | rfl | rfl | rfl | rfl | rfl | rfl | rfl
  · exact ⟨Try.func44, by kernel_rfl⟩
  · exact ⟨Try.func47, by kernel_rfl⟩
  · exact ⟨Try.func48, by kernel_rfl⟩
  · exact ⟨Try.func50, by kernel_rfl⟩
  · exact ⟨Try.func56, by kernel_rfl⟩
  · exact ⟨Try.func57, by kernel_rfl⟩
  · exact ⟨Try.func58, by kernel_rfl⟩
  · exact ⟨Try.func62, by kernel_rfl⟩
  · exact ⟨Try.func63, by kernel_rfl⟩
  · exact ⟨Try.func64, by kernel_rfl⟩
noncomputable def cx : Ctx := ⟨Try.prog, tys, tysOk, [], 0, inls, inlsOk, by kernel_rfl⟩

/-! reredos/reredoskeep.picked -/
def sg13 : Sig := ⟨[⟨false, .bo, (.int .i64)⟩, ⟨false, .bo, (.int .i64)⟩], [⟨false, .own, (.int .i64)⟩]⟩
noncomputable def r13 (a : (Int × Int)) : Option Int :=
  Option.bind (
    bif decide (a.1 < (0 : Int)) then
      some (Go.IntKind.wrap .i64 (0 - (Go.IntKind.wrap .i64 (a.1 + (1 : Int)))))
    else
      some a.1) fun (d1 : Int) =>
    bif decide (a.2 = 0) then
      none
    else
      some (Int.tmod d1 a.2)
def an13 : Ann := .two (.leaf) (.two (.join [1] [] [⟨.normal, [], [.tmp 0 (.int .i64)]⟩] (.two (.leaf) (.two (.leaf) (.leaf)))) (.two (.leaf) (.leaf)))
theorem s13 : SoundF cx.P cx.G 13 sg13 r13 := by
  have e : denF cx [] an13 Try.f13.ntmps (Try.f13.body.getD .skip) Try.f13.results.toList sg13 = r13 := by kernel_rfl
  rw [← e]
  exact sound_of_den (c := cx) (Known.nil) Try.func13 (by kernel_rfl) (Nat.le_of_ble_eq_true (by kernel_rfl)) rfl

/-! reredos/store.items -/
noncomputable def r33_L0 (a : List ((Int × (Int × Int)))) (d1 : Int) : Option (Int ⊕ (Unit ⊕ Bool)) :=
  bif decide (d1 < (↑a.length : Int)) then
    Option.bind (idxI a d1) fun (b2 : (Int × (Int × Int))) =>
      Option.bind (
        Option.bind (
          bif !(decide (b2.1 < (0 : Int))) then
            some (decide ((8 : Int) ≤ b2.1))
          else
            some true) fun (g11 : Bool) =>
          Option.bind (
            bif !(g11) then
              some (decide (b2.2.1 < (0 : Int)))
            else
              some true) fun (g12 : Bool) =>
            Option.bind (
              bif !(g12) then
                some (decide ((1073741824 : Int) < b2.2.1))
              else
                some true) fun (g13 : Bool) =>
              Option.bind (
                bif !(g13) then
                  some (decide (b2.2.2 < (1 : Int)))
                else
                  some true) fun (g14 : Bool) =>
                bif !(g14) then
                  some (decide ((1048576 : Int) < b2.2.2))
                else
                  some true) fun (d15 : Bool) =>
        bif d15 then
          some (Sum.inr (Sum.inr false))
        else
          Option.bind (
            bif decide ((0 : Int) < d1) then
              Option.bind (idxI a (Go.IntKind.wrap .i64 (d1 - (1 : Int)))) fun (b21 : (Int × (Int × Int))) =>
                some (decide (b2.1 ≤ b21.1))
            else
              some false) fun (d22 : Bool) =>
            bif d22 then
              some (Sum.inr (Sum.inr false))
            else
              some (Sum.inl (Go.IntKind.wrap .i64 (d1 + (1 : Int))))
  else
    some (Sum.inr (Sum.inl ()))
def sg33 : Sig := ⟨[⟨false, .bo, (.sl (.pair (.int .i64) (.pair (.int .i64) (.int .i64))))⟩], [⟨false, .own, .bool⟩]⟩
noncomputable def r33 (a : List ((Int × (Int × Int)))) : Option Bool :=
  Option.bind (loopR (r33_L0 a) (0 : Int)) fun (q23 : (Unit ⊕ Bool)) =>
    Sum.elim (fun (v24 : Unit) =>
        some true)
      (fun (v25 : Bool) =>
        some v25) q23
def an33 : Ann := .two (.leaf) (.two (.two (.leaf) (.one (.loop [0, 5, 6] [] [] [.tmp 7 (.int .i64)] [⟨.exit 0, [], []⟩, ⟨.ret, [], [.tmp 2 (.bool)]⟩] (.two (.leaf) (.two (.two (.leaf) (.leaf)) (.two (.one (.two (.leaf) (.two (.two (.join [0, 3, 4, 5, 6, 7] [4] [⟨.normal, [], [.tmp 39 (.bool)]⟩] (.segs [(8, ([0, 3, 4, 5, 6, 7], ([4], [.tmp 19 (.bool)]))), (5, ([0, 3, 4, 5, 6, 7], ([4], [.tmp 24 (.bool)]))), (5, ([0, 3, 4, 5, 6, 7], ([4], [.tmp 29 (.bool)]))), (5, ([0, 3, 4, 5, 6, 7], ([4], [.tmp 34 (.bool)])))])) (.two (.two (.leaf) (.leaf)) (.leaf))) (.two (.join [0, 5, 6, 7] [] [⟨.normal, [], [.tmp 52 (.bool)]⟩] (.draw 11)) (.two (.two (.leaf) (.leaf)) (.leaf)))))) (.leaf))))))) (.two (.leaf) (.leaf)))
theorem s33 : SoundF cx.P cx.G 33 sg33 r33 := by
  have e : denF cx [] an33 Try.f33.ntmps (Try.f33.body.getD .skip) Try.f33.results.toList sg33 = r33 := by kernel_rfl
  rw [← e]
  exact sound_of_den (c := cx) (Known.nil) Try.func33 (by kernel_rfl) (Nat.le_of_ble_eq_true (by kernel_rfl)) rfl

/-! slices.Index[[]reredos/api.Txn,reredos/api.Txn] -/
noncomputable def r49_L0 (a : (List ((Int × Int)) × (Int × Int))) (d1 : Int) : Option (Int ⊕ (Unit ⊕ Int)) :=
  bif decide (d1 < (↑a.1.length : Int)) then
    Option.bind (idxI a.1 d1) fun (b3 : (Int × Int)) =>
      bif (decide (a.2.1 = b3.1) && (decide (a.2.2 = b3.2) && true)) then
        some (Sum.inr (Sum.inr d1))
      else
        some (Sum.inl (Go.IntKind.wrap .i64 (d1 + (1 : Int))))
  else
    some (Sum.inr (Sum.inl ()))
def sg49 : Sig := ⟨[⟨false, .bo, (.sl (.pair (.int .i64) (.int .i64)))⟩, ⟨true, .bo, (.pair (.int .i64) (.int .i64))⟩], [⟨false, .own, (.int .i64)⟩]⟩
noncomputable def r49 (a : (List ((Int × Int)) × (Int × Int))) : Option Int :=
  Option.bind (loopR (r49_L0 a) (0 : Int)) fun (q4 : (Unit ⊕ Int)) =>
    Sum.elim (fun (v5 : Unit) =>
        some (-1 : Int))
      (fun (v6 : Int) =>
        some v6) q4
def an49 : Ann := .two (.leaf) (.two (.two (.leaf) (.one (.loop [0, 3, 7] [3] [] [.tmp 8 (.int .i64)] [⟨.exit 0, [], []⟩, ⟨.ret, [], [.tmp 4 (.int .i64)]⟩] (.two (.leaf) (.two (.two (.leaf) (.leaf)) (.two (.one (.two (.leaf) (.two (.draw 5) (.two (.two (.leaf) (.leaf)) (.leaf))))) (.leaf))))))) (.two (.leaf) (.leaf)))
theorem s49 : SoundF cx.P cx.G 49 sg49 r49 := by
  have e : denF cx [] an49 Try.f49.ntmps (Try.f49.body.getD .skip) Try.f49.results.toList sg49 = r49 := by kernel_rfl
  rw [← e]
  exact sound_of_den (c := cx) (Known.nil) Try.func49 (by kernel_rfl) (Nat.le_of_ble_eq_true (by kernel_rfl)) rfl

/-! slices.Contains[[]reredos/api.Txn,reredos/api.Txn] -/
def sg28 : Sig := ⟨[⟨false, .bo, (.sl (.pair (.int .i64) (.int .i64)))⟩, ⟨true, .bo, (.pair (.int .i64) (.int .i64))⟩], [⟨false, .own, .bool⟩]⟩
noncomputable def r28 (a : (List ((Int × Int)) × (Int × Int))) : Option Bool :=
  Option.bind (r49 (a.1, a.2)) fun (y1 : Int) =>
    some (decide ((0 : Int) ≤ y1))
def an28 : Ann := .two (.leaf) (.two (.leaf) (.leaf))
theorem s28 : SoundF cx.P cx.G 28 sg28 r28 := by
  have e : denF cx [(49, ⟨sg49, r49⟩)] an28 Try.f28.ntmps (Try.f28.body.getD .skip) Try.f28.results.toList sg28 = r28 := by kernel_rfl
  rw [← e]
  exact sound_of_den (c := cx) (Known.cons (.ofF s49 (by kernel_rfl)) Try.func49 (by kernel_rfl) (by kernel_rfl) (Known.nil)) Try.func28 (by kernel_rfl) (Nat.le_of_ble_eq_true (by kernel_rfl)) rfl

/-! reredos/store.txn -/
def sg46 : Sig := ⟨[⟨true, .bo, (.pair (.int .i64) (.int .i64))⟩], [⟨false, .own, .bool⟩]⟩
noncomputable def r46 (a : (Int × Int)) : Option Bool :=
  Option.bind (
    bif decide ((0 : Int) ≤ a.1) then
      some (decide (a.1 < (4 : Int)))
    else
      some false) fun (g1 : Bool) =>
    Option.bind (
      bif g1 then
        some (decide ((1 : Int) ≤ a.2))
      else
        some false) fun (g2 : Bool) =>
      bif g2 then
        some (decide (a.2 ≤ (1048576 : Int)))
      else
        some false
def an46 : Ann := .two (.leaf) (.two (.segs [(8, ([1], ([1], [.tmp 10 (.bool)]))), (5, ([1], ([1], [.tmp 15 (.bool)])))]) (.leaf))
theorem s46 : SoundF cx.P cx.G 46 sg46 r46 := by
  have e : denF cx [] an46 Try.f46.ntmps (Try.f46.body.getD .skip) Try.f46.results.toList sg46 = r46 := by kernel_rfl
  rw [← e]
  exact sound_of_den (c := cx) (Known.nil) Try.func46 (by kernel_rfl) (Nat.le_of_ble_eq_true (by kernel_rfl)) rfl

/-! reredos/store.doubts -/
noncomputable def r34_L0 (a : (List ((Int × (Int × Int))) × (List (((Int × Int) × (Int × (Bool × (Int × Int))))) × (List (((Int × Int) × Int)) × List ((Int × Int)))))) (b2 : ((Int × Int) × Int)) (d26 : Int) : Option (Int ⊕ (Unit ⊕ Int)) :=
  bif decide (d26 < (↑a.2.1.length : Int)) then
    Option.bind (idxI a.2.1 d26) fun (b27 : ((Int × Int) × (Int × (Bool × (Int × Int))))) =>
      bif (decide (b27.1.1 = b2.1.1) && (decide (b27.1.2 = b2.1.2) && true)) then
        some (Sum.inr (Sum.inr d26))
      else
        some (Sum.inl (Go.IntKind.wrap .i64 (d26 + (1 : Int))))
  else
    some (Sum.inr (Sum.inl ()))
noncomputable def r34_L1 (d1 : Int) (a : (List ((Int × (Int × Int))) × (List (((Int × Int) × (Int × (Bool × (Int × Int))))) × (List (((Int × Int) × Int)) × List ((Int × Int)))))) (b2 : ((Int × Int) × Int)) (d32 : Int) : Option (Int ⊕ (Unit ⊕ Bool)) :=
  bif decide (d32 < (↑((List.take (Int.toNat d1) a.2.2.1).length) : Int)) then
    Option.bind (idxI (List.take (Int.toNat d1) a.2.2.1) d32) fun (b33 : ((Int × Int) × Int)) =>
      bif (decide (b33.1.1 = b2.1.1) && (decide (b33.1.2 = b2.1.2) && true)) then
        some (Sum.inr (Sum.inr false))
      else
        some (Sum.inl (Go.IntKind.wrap .i64 (d32 + (1 : Int))))
  else
    some (Sum.inr (Sum.inl ()))
noncomputable def r34_L2 (a : (List ((Int × (Int × Int))) × (List (((Int × Int) × (Int × (Bool × (Int × Int))))) × (List (((Int × Int) × Int)) × List ((Int × Int)))))) (d1 : Int) : Option (Int ⊕ (Unit ⊕ Bool)) :=
  bif decide (d1 < (↑a.2.2.1.length : Int)) then
    Option.bind (idxI a.2.2.1 d1) fun (b2 : ((Int × Int) × Int)) =>
      Option.bind (
        Option.bind (
          Option.bind (r46 b2.1) fun (y11 : Bool) =>
            bif !(!(y11)) then
              some (decide (b2.2 < (0 : Int)))
            else
              some true) fun (g12 : Bool) =>
          Option.bind (
            bif !(g12) then
              some (decide ((1048576 : Int) < b2.2))
            else
              some true) fun (g13 : Bool) =>
            bif !(g13) then
              Option.bind (r28 (a.2.2.2, b2.1)) fun (y14 : Bool) =>
                some y14
            else
              some true) fun (d15 : Bool) =>
        bif d15 then
          some (Sum.inr (Sum.inr false))
        else
          Option.bind (
            Option.bind (loopR (r34_L0 a b2) (0 : Int)) fun (q28 : (Unit ⊕ Int)) =>
              Sum.elim (fun (v29 : Unit) =>
                  some (-1 : Int))
                (fun (v30 : Int) =>
                  some v30) q28) fun (d31 : Int) =>
            bif !(decide ((0 : Int) ≤ d31)) then
              some (Sum.inr (Sum.inr false))
            else
              bif okB none (some d1) none a.2.2.1.length then
                Option.bind (loopR (r34_L1 d1 a b2) (0 : Int)) fun (q34 : (Unit ⊕ Bool)) =>
                  Sum.elim (fun (v35 : Unit) =>
                      some (Sum.inl (Go.IntKind.wrap .i64 (d1 + (1 : Int)))))
                    (fun (v36 : Bool) =>
                      some (Sum.inr (Sum.inr v36))) q34
              else
                none
  else
    some (Sum.inr (Sum.inl ()))
noncomputable def r34_L3 (a : (List ((Int × (Int × Int))) × (List (((Int × Int) × (Int × (Bool × (Int × Int))))) × (List (((Int × Int) × Int)) × List ((Int × Int)))))) (d40 : Int) : Option (Int ⊕ (Unit ⊕ Bool)) :=
  bif decide (d40 < (↑a.2.2.2.length : Int)) then
    Option.bind (idxI a.2.2.2 d40) fun (b41 : (Int × Int)) =>
      Option.bind (
        Option.bind (r46 b41) fun (y52 : Bool) =>
          bif !(!(y52)) then
            bif okB none (some d40) none a.2.2.2.length then
              Option.bind (r28 (List.take (Int.toNat d40) a.2.2.2, b41)) fun (y53 : Bool) =>
                some y53
            else
              none
          else
            some true) fun (d54 : Bool) =>
        bif d54 then
          some (Sum.inr (Sum.inr false))
        else
          some (Sum.inl (Go.IntKind.wrap .i64 (d40 + (1 : Int))))
  else
    some (Sum.inr (Sum.inl ()))
def sg34 : Sig := ⟨[⟨true, .bo, (.pair (.sl (.pair (.int .i64) (.pair (.int .i64) (.int .i64)))) (.pair (.sl (.pair (.pair (.int .i64) (.int .i64)) (.pair (.int .i64) (.pair .bool (.pair (.int .i64) (.int .i64)))))) (.pair (.sl (.pair (.pair (.int .i64) (.int .i64)) (.int .i64))) (.sl (.pair (.int .i64) (.int .i64))))))⟩], [⟨false, .own, .bool⟩]⟩
noncomputable def r34 (a : (List ((Int × (Int × Int))) × (List (((Int × Int) × (Int × (Bool × (Int × Int))))) × (List (((Int × Int) × Int)) × List ((Int × Int)))))) : Option Bool :=
  Option.bind (loopR (r34_L2 a) (0 : Int)) fun (q37 : (Unit ⊕ Bool)) =>
    Sum.elim (fun (v38 : Unit) =>
        Option.bind (loopR (r34_L3 a) (0 : Int)) fun (q55 : (Unit ⊕ Bool)) =>
          Sum.elim (fun (v56 : Unit) =>
              some true)
            (fun (v57 : Bool) =>
              some v57) q55)
      (fun (v39 : Bool) =>
        some v39) q37
def an34 : Ann := .two (.leaf) (.two (.two (.leaf) (.one (.loop [1, 10, 11] [1] [] [.tmp 12 (.int .i64)] [⟨.exit 0, [], []⟩, ⟨.ret, [], [.tmp 2 (.bool)]⟩] (.two (.leaf) (.two (.two (.leaf) (.leaf)) (.two (.one (.two (.leaf) (.two (.two (.join [1, 3, 4, 10, 11, 12] [1, 4] [⟨.normal, [], [.tmp 37 (.bool)]⟩] (.segs [(9, ([1, 3, 4, 10, 11, 12], ([1, 4], [.tmp 25 (.bool)]))), (5, ([1, 3, 4, 10, 11, 12], ([1, 4], [.tmp 30 (.bool)])))])) (.two (.two (.leaf) (.leaf)) (.leaf))) (.two (.two (.inl 3 79 (.two (.leaf) (.two (.inl 2 88 (.join [1, 3, 4, 10, 11, 12] [1, 4] [⟨.ret, [], [.tmp 92 (.int .i64)]⟩] (.two (.leaf) (.two (.two (.leaf) (.one (.loop [1, 3, 4, 10, 11, 12, 88, 89, 95] [1, 4] [] [.tmp 96 (.int .i64)] [⟨.exit 0, [], []⟩, ⟨.ret, [], [.tmp 92 (.int .i64)]⟩] (.two (.leaf) (.two (.two (.leaf) (.leaf)) (.two (.one (.two (.leaf) (.two (.inl 5 107 (.two (.leaf) (.two (.leaf) (.leaf))) (.leaf)) (.two (.two (.leaf) (.leaf)) (.leaf))))) (.leaf))))))) (.two (.leaf) (.leaf))))) (.leaf)) (.leaf))) (.leaf)) (.two (.two (.leaf) (.leaf)) (.leaf))) (.two (.leaf) (.one (.loop [1, 4, 10, 11, 12, 46, 47] [1, 4] [] [.tmp 48 (.int .i64)] [⟨.exit 2, [], []⟩, ⟨.ret, [], [.tmp 2 (.bool)]⟩] (.two (.leaf) (.two (.two (.leaf) (.leaf)) (.two (.one (.two (.leaf) (.two (.leaf) (.two (.two (.leaf) (.leaf)) (.leaf))))) (.leaf))))))))))) (.leaf))))))) (.two (.two (.leaf) (.one (.loop [1, 60, 61] [1] [] [.tmp 62 (.int .i64)] [⟨.exit 4, [], []⟩, ⟨.ret, [], [.tmp 2 (.bool)]⟩] (.two (.leaf) (.two (.two (.leaf) (.leaf)) (.two (.one (.two (.leaf) (.two (.join [1, 60, 61, 62] [1] [⟨.normal, [], [.tmp 77 (.bool)]⟩] (.draw 9)) (.two (.two (.leaf) (.leaf)) (.leaf))))) (.leaf))))))) (.two (.leaf) (.leaf))))
theorem s34 : SoundF cx.P cx.G 34 sg34 r34 := by
  have e : denF cx [(28, ⟨sg28, r28⟩), (46, ⟨sg46, r46⟩)] an34 Try.f34.ntmps (Try.f34.body.getD .skip) Try.f34.results.toList sg34 = r34 := by kernel_rfl
  rw [← e]
  exact sound_of_den (c := cx) (Known.cons (.ofF s28 (by kernel_rfl)) Try.func28 (by kernel_rfl) (by kernel_rfl) (Known.cons (.ofF s46 (by kernel_rfl)) Try.func46 (by kernel_rfl) (by kernel_rfl) (Known.nil))) Try.func34 (by kernel_rfl) (Nat.le_of_ble_eq_true (by kernel_rfl)) rfl

/-! reredos/store.doubted -/
noncomputable def r55_L0 (a : ((List ((Int × (Int × Int))) × (List (((Int × Int) × (Int × (Bool × (Int × Int))))) × (List (((Int × Int) × Int)) × List ((Int × Int))))) × (Int × Int))) (d11 : Int) : Option (Int ⊕ (Unit ⊕ Int)) :=
  bif decide (d11 < (↑a.1.2.2.1.length : Int)) then
    Option.bind (idxI a.1.2.2.1 d11) fun (b12 : ((Int × Int) × Int)) =>
      bif (decide (b12.1.1 = a.2.1) && (decide (b12.1.2 = a.2.2) && true)) then
        some (Sum.inr (Sum.inr d11))
      else
        some (Sum.inl (Go.IntKind.wrap .i64 (d11 + (1 : Int))))
  else
    some (Sum.inr (Sum.inl ()))
def sg55 : Sig := ⟨[⟨true, .bo, (.pair (.sl (.pair (.int .i64) (.pair (.int .i64) (.int .i64)))) (.pair (.sl (.pair (.pair (.int .i64) (.int .i64)) (.pair (.int .i64) (.pair .bool (.pair (.int .i64) (.int .i64)))))) (.pair (.sl (.pair (.pair (.int .i64) (.int .i64)) (.int .i64))) (.sl (.pair (.int .i64) (.int .i64))))))⟩, ⟨true, .bo, (.pair (.int .i64) (.int .i64))⟩], [⟨false, .own, .bool⟩]⟩
noncomputable def r55 (a : ((List ((Int × (Int × Int))) × (List (((Int × Int) × (Int × (Bool × (Int × Int))))) × (List (((Int × Int) × Int)) × List ((Int × Int))))) × (Int × Int))) : Option Bool :=
  Option.bind (
    Option.bind (loopR (r55_L0 a) (0 : Int)) fun (q13 : (Unit ⊕ Int)) =>
      Sum.elim (fun (v14 : Unit) =>
          some (-1 : Int))
        (fun (v15 : Int) =>
          some v15) q13) fun (d16 : Int) =>
    some (decide ((0 : Int) ≤ d16))
def an55 : Ann := .two (.leaf) (.two (.inl 3 9 (.two (.leaf) (.two (.inl 2 18 (.join [] [] [⟨.ret, [], [.tmp 22 (.int .i64)]⟩] (.two (.leaf) (.two (.two (.leaf) (.one (.loop [18, 19, 25] [3] [] [.tmp 26 (.int .i64)] [⟨.exit 0, [], []⟩, ⟨.ret, [], [.tmp 22 (.int .i64)]⟩] (.two (.leaf) (.two (.two (.leaf) (.leaf)) (.two (.one (.two (.leaf) (.two (.inl 5 37 (.two (.leaf) (.two (.leaf) (.leaf))) (.leaf)) (.two (.two (.leaf) (.leaf)) (.leaf))))) (.leaf))))))) (.two (.leaf) (.leaf))))) (.leaf)) (.leaf))) (.leaf)) (.leaf))
theorem s55 : SoundF cx.P cx.G 55 sg55 r55 := by
  have e : denF cx [] an55 Try.f55.ntmps (Try.f55.body.getD .skip) Try.f55.results.toList sg55 = r55 := by kernel_rfl
  rw [← e]
  exact sound_of_den (c := cx) (Known.nil) Try.func55 (by kernel_rfl) (Nat.le_of_ble_eq_true (by kernel_rfl)) rfl

/-! reredos/store.locks -/
noncomputable def r35_L0 (d1 : Int) (a : (List ((Int × (Int × Int))) × (List (((Int × Int) × (Int × (Bool × (Int × Int))))) × (List (((Int × Int) × Int)) × List ((Int × Int)))))) (b2 : ((Int × Int) × (Int × (Bool × (Int × Int))))) (d25 : Int) : Option (Int ⊕ (Unit ⊕ Bool)) :=
  bif decide (d25 < (↑((List.take (Int.toNat d1) a.2.1).length) : Int)) then
    Option.bind (idxI (List.take (Int.toNat d1) a.2.1) d25) fun (b26 : ((Int × Int) × (Int × (Bool × (Int × Int))))) =>
      Option.bind (
        bif decide (b26.2.1 = b2.2.1) then
          bif !((decide (b26.1.1 = b2.1.1) && (decide (b26.1.2 = b2.1.2) && true))) then
            bif !(b26.2.2.1) then
              some b2.2.2.1
            else
              some true
          else
            some true
        else
          some false) fun (d27 : Bool) =>
        bif d27 then
          some (Sum.inr (Sum.inr false))
        else
          some (Sum.inl (Go.IntKind.wrap .i64 (d25 + (1 : Int))))
  else
    some (Sum.inr (Sum.inl ()))
noncomputable def r35_L1 (a : (List ((Int × (Int × Int))) × (List (((Int × Int) × (Int × (Bool × (Int × Int))))) × (List (((Int × Int) × Int)) × List ((Int × Int)))))) (d1 : Int) : Option (Int ⊕ (Unit ⊕ Bool)) :=
  bif decide (d1 < (↑a.2.1.length : Int)) then
    Option.bind (idxI a.2.1 d1) fun (b2 : ((Int × Int) × (Int × (Bool × (Int × Int))))) =>
      Option.bind (
        Option.bind (
          Option.bind (r55 (a, b2.1)) fun (y17 : Bool) =>
            bif !(!(y17)) then
              some (decide (b2.2.1 < (0 : Int)))
            else
              some true) fun (g18 : Bool) =>
          Option.bind (
            bif !(g18) then
              some (decide ((8 : Int) ≤ b2.2.1))
            else
              some true) fun (g19 : Bool) =>
            Option.bind (
              bif !(g19) then
                some (decide (b2.2.2.2.1 < (0 : Int)))
              else
                some true) fun (g20 : Bool) =>
              Option.bind (
                bif !(g20) then
                  some (decide ((1073741824 : Int) < b2.2.2.2.1))
                else
                  some true) fun (g21 : Bool) =>
                Option.bind (
                  bif !(g21) then
                    some (decide (b2.2.2.2.2 < (0 : Int)))
                  else
                    some true) fun (g22 : Bool) =>
                  Option.bind (
                    bif !(g22) then
                      some (decide ((1048576 : Int) < b2.2.2.2.2))
                    else
                      some true) fun (g23 : Bool) =>
                    bif !(g23) then
                      bif !(b2.2.2.1) then
                        some (!(decide ((Go.IntKind.wrap .i64 (b2.2.2.2.1 + b2.2.2.2.2)) = (0 : Int))))
                      else
                        some false
                    else
                      some true) fun (d24 : Bool) =>
        bif d24 then
          some (Sum.inr (Sum.inr false))
        else
          bif okB none (some d1) none a.2.1.length then
            Option.bind (loopR (r35_L0 d1 a b2) (0 : Int)) fun (q28 : (Unit ⊕ Bool)) =>
              Sum.elim (fun (v29 : Unit) =>
                  some (Sum.inl (Go.IntKind.wrap .i64 (d1 + (1 : Int)))))
                (fun (v30 : Bool) =>
                  some (Sum.inr (Sum.inr v30))) q28
          else
            none
  else
    some (Sum.inr (Sum.inl ()))
def sg35 : Sig := ⟨[⟨true, .bo, (.pair (.sl (.pair (.int .i64) (.pair (.int .i64) (.int .i64)))) (.pair (.sl (.pair (.pair (.int .i64) (.int .i64)) (.pair (.int .i64) (.pair .bool (.pair (.int .i64) (.int .i64)))))) (.pair (.sl (.pair (.pair (.int .i64) (.int .i64)) (.int .i64))) (.sl (.pair (.int .i64) (.int .i64))))))⟩], [⟨false, .own, .bool⟩]⟩
noncomputable def r35 (a : (List ((Int × (Int × Int))) × (List (((Int × Int) × (Int × (Bool × (Int × Int))))) × (List (((Int × Int) × Int)) × List ((Int × Int)))))) : Option Bool :=
  Option.bind (loopR (r35_L1 a) (0 : Int)) fun (q31 : (Unit ⊕ Bool)) =>
    Sum.elim (fun (v32 : Unit) =>
        some (decide ((↑a.2.1.length : Int) ≤ (24 : Int))))
      (fun (v33 : Bool) =>
        some v33) q31
def an35 : Ann := .two (.leaf) (.two (.two (.leaf) (.one (.loop [1, 8, 9] [1] [] [.tmp 10 (.int .i64)] [⟨.exit 0, [], []⟩, ⟨.ret, [], [.tmp 2 (.bool)]⟩] (.two (.leaf) (.two (.two (.leaf) (.leaf)) (.two (.one (.two (.leaf) (.two (.two (.join [1, 3, 4, 8, 9, 10] [1, 4] [⟨.normal, [], [.tmp 62 (.bool)]⟩] (.segs [(10, ([1, 3, 4, 8, 9, 10], ([1, 4], [.tmp 24 (.bool)]))), (5, ([1, 3, 4, 8, 9, 10], ([1, 4], [.tmp 29 (.bool)]))), (5, ([1, 3, 4, 8, 9, 10], ([1, 4], [.tmp 34 (.bool)]))), (5, ([1, 3, 4, 8, 9, 10], ([1, 4], [.tmp 39 (.bool)]))), (5, ([1, 3, 4, 8, 9, 10], ([1, 4], [.tmp 44 (.bool)]))), (5, ([1, 3, 4, 8, 9, 10], ([1, 4], [.tmp 49 (.bool)])))])) (.two (.two (.leaf) (.leaf)) (.leaf))) (.two (.leaf) (.one (.loop [1, 4, 8, 9, 10, 66, 67] [1, 4] [] [.tmp 68 (.int .i64)] [⟨.exit 2, [], []⟩, ⟨.ret, [], [.tmp 2 (.bool)]⟩] (.two (.leaf) (.two (.two (.leaf) (.leaf)) (.two (.one (.two (.leaf) (.two (.join [1, 4, 8, 9, 10, 66, 67, 68] [1, 4] [⟨.normal, [], [.tmp 91 (.bool)]⟩] (.leaf)) (.two (.two (.leaf) (.leaf)) (.leaf))))) (.leaf)))))))))) (.leaf))))))) (.two (.leaf) (.leaf)))
theorem s35 : SoundF cx.P cx.G 35 sg35 r35 := by
  have e : denF cx [(55, ⟨sg55, r55⟩)] an35 Try.f35.ntmps (Try.f35.body.getD .skip) Try.f35.results.toList sg35 = r35 := by kernel_rfl
  rw [← e]
  exact sound_of_den (c := cx) (Known.cons (.ofF s55 (by kernel_rfl)) Try.func55 (by kernel_rfl) (by kernel_rfl) (Known.nil)) Try.func35 (by kernel_rfl) (Nat.le_of_ble_eq_true (by kernel_rfl)) rfl

/-! reredos/store.Check -/
def sg18 : Sig := ⟨[⟨true, .bo, (.pair (.sl (.pair (.int .i64) (.pair (.int .i64) (.int .i64)))) (.pair (.sl (.pair (.pair (.int .i64) (.int .i64)) (.pair (.int .i64) (.pair .bool (.pair (.int .i64) (.int .i64)))))) (.pair (.sl (.pair (.pair (.int .i64) (.int .i64)) (.int .i64))) (.sl (.pair (.int .i64) (.int .i64))))))⟩], [⟨false, .own, (.int .i64)⟩]⟩
noncomputable def r18 (a : (List ((Int × (Int × Int))) × (List (((Int × Int) × (Int × (Bool × (Int × Int))))) × (List (((Int × Int) × Int)) × List ((Int × Int)))))) : Option Int :=
  Option.bind (
    Option.bind (
      Option.bind (r33 a.1) fun (y9 : Bool) =>
        bif !(!(y9)) then
          Option.bind (r34 a) fun (y10 : Bool) =>
            some !(y10)
        else
          some true) fun (g11 : Bool) =>
      bif !(g11) then
        Option.bind (r35 a) fun (y12 : Bool) =>
          some !(y12)
      else
        some true) fun (d13 : Bool) =>
    bif d13 then
      some (9 : Int)
    else
      some (0 : Int)
def an18 : Ann := .two (.leaf) (.two (.two (.join [] [] [⟨.normal, [], [.tmp 16 (.bool)]⟩] (.segs [(9, ([1], ([1], [.tmp 11 (.bool)])))])) (.two (.two (.leaf) (.leaf)) (.leaf))) (.two (.leaf) (.leaf)))
theorem s18 : SoundF cx.P cx.G 18 sg18 r18 := by
  have e : denF cx [(33, ⟨sg33, r33⟩), (34, ⟨sg34, r34⟩), (35, ⟨sg35, r35⟩)] an18 Try.f18.ntmps (Try.f18.body.getD .skip) Try.f18.results.toList sg18 = r18 := by kernel_rfl
  rw [← e]
  exact sound_of_den (c := cx) (Known.cons (.ofF s33 (by kernel_rfl)) Try.func33 (by kernel_rfl) (by kernel_rfl) (Known.cons (.ofF s34 (by kernel_rfl)) Try.func34 (by kernel_rfl) (by kernel_rfl) (Known.cons (.ofF s35 (by kernel_rfl)) Try.func35 (by kernel_rfl) (by kernel_rfl) (Known.nil)))) Try.func18 (by kernel_rfl) (Nat.le_of_ble_eq_true (by kernel_rfl)) rfl

/-! reredos/store.call -/
def sg26 : Sig := ⟨[⟨true, .bo, (.pair (.sl (.pair (.int .i64) (.pair (.int .i64) (.int .i64)))) (.pair (.sl (.pair (.pair (.int .i64) (.int .i64)) (.pair (.int .i64) (.pair .bool (.pair (.int .i64) (.int .i64)))))) (.pair (.sl (.pair (.pair (.int .i64) (.int .i64)) (.int .i64))) (.sl (.pair (.int .i64) (.int .i64))))))⟩, ⟨true, .bo, (.pair (.int .i64) (.int .i64))⟩, ⟨false, .bo, (.int .i64)⟩], [⟨false, .own, (.int .i64)⟩]⟩
noncomputable def r26 (a : ((List ((Int × (Int × Int))) × (List (((Int × Int) × (Int × (Bool × (Int × Int))))) × (List (((Int × Int) × Int)) × List ((Int × Int))))) × ((Int × Int) × Int))) : Option Int :=
  Option.bind (r18 a.1) fun (y1 : Int) =>
    bif !(decide (y1 = (0 : Int))) then
      some y1
    else
      Option.bind (
        Option.bind (
          Option.bind (r46 a.2.1) fun (y6 : Bool) =>
            bif !(!(y6)) then
              some (decide (a.2.2 < (0 : Int)))
            else
              some true) fun (g7 : Bool) =>
          bif !(g7) then
            some (decide ((8 : Int) ≤ a.2.2))
          else
            some true) fun (d8 : Bool) =>
        bif d8 then
          some (2 : Int)
        else
          some (0 : Int)
def an26 : Ann := .two (.leaf) (.two (.two (.leaf) (.two (.leaf) (.two (.two (.leaf) (.leaf)) (.leaf)))) (.two (.two (.join [] [] [⟨.normal, [], [.tmp 23 (.bool)]⟩] (.segs [(7, ([2], ([], [.tmp 19 (.bool)])))])) (.two (.two (.leaf) (.leaf)) (.leaf))) (.two (.leaf) (.leaf))))
theorem s26 : SoundF cx.P cx.G 26 sg26 r26 := by
  have e : denF cx [(18, ⟨sg18, r18⟩), (46, ⟨sg46, r46⟩)] an26 Try.f26.ntmps (Try.f26.body.getD .skip) Try.f26.results.toList sg26 = r26 := by kernel_rfl
  rw [← e]
  exact sound_of_den (c := cx) (Known.cons (.ofF s18 (by kernel_rfl)) Try.func18 (by kernel_rfl) (by kernel_rfl) (Known.cons (.ofF s46 (by kernel_rfl)) Try.func46 (by kernel_rfl) (by kernel_rfl) (Known.nil))) Try.func26 (by kernel_rfl) (Nat.le_of_ble_eq_true (by kernel_rfl)) rfl

/-! reredos/store.lock -/
noncomputable def r27_L0 (a : ((List ((Int × (Int × Int))) × (List (((Int × Int) × (Int × (Bool × (Int × Int))))) × (List (((Int × Int) × Int)) × List ((Int × Int))))) × ((Int × Int) × Int))) (d13 : Int) : Option (Int ⊕ (Unit ⊕ Int)) :=
  bif decide (d13 < (↑a.1.2.1.length : Int)) then
    Option.bind (idxI a.1.2.1 d13) fun (b14 : ((Int × Int) × (Int × (Bool × (Int × Int))))) =>
      Option.bind (
        bif (decide (b14.1.1 = a.2.1.1) && (decide (b14.1.2 = a.2.1.2) && true)) then
          some (decide (b14.2.1 = a.2.2))
        else
          some false) fun (d15 : Bool) =>
        bif d15 then
          some (Sum.inr (Sum.inr d13))
        else
          some (Sum.inl (Go.IntKind.wrap .i64 (d13 + (1 : Int))))
  else
    some (Sum.inr (Sum.inl ()))
def sg27 : Sig := ⟨[⟨true, .bo, (.pair (.sl (.pair (.int .i64) (.pair (.int .i64) (.int .i64)))) (.pair (.sl (.pair (.pair (.int .i64) (.int .i64)) (.pair (.int .i64) (.pair .bool (.pair (.int .i64) (.int .i64)))))) (.pair (.sl (.pair (.pair (.int .i64) (.int .i64)) (.int .i64))) (.sl (.pair (.int .i64) (.int .i64))))))⟩, ⟨true, .bo, (.pair (.int .i64) (.int .i64))⟩, ⟨false, .bo, (.int .i64)⟩], [⟨false, .own, (.int .i64)⟩]⟩
noncomputable def r27 (a : ((List ((Int × (Int × Int))) × (List (((Int × Int) × (Int × (Bool × (Int × Int))))) × (List (((Int × Int) × Int)) × List ((Int × Int))))) × ((Int × Int) × Int))) : Option Int :=
  Option.bind (
    Option.bind (loopR (r27_L0 a) (0 : Int)) fun (q16 : (Unit ⊕ Int)) =>
      Sum.elim (fun (v17 : Unit) =>
          some (-1 : Int))
        (fun (v18 : Int) =>
          some v18) q16) fun (d19 : Int) =>
    some d19
def an27 : Ann := .two (.leaf) (.two (.inl 3 11 (.join [] [] [⟨.ret, [], [.tmp 15 (.int .i64)]⟩] (.two (.leaf) (.two (.two (.leaf) (.one (.loop [11, 12, 18] [4, 5] [] [.tmp 19 (.int .i64)] [⟨.exit 0, [], []⟩, ⟨.ret, [], [.tmp 15 (.int .i64)]⟩] (.two (.leaf) (.two (.two (.leaf) (.leaf)) (.two (.one (.two (.leaf) (.two (.inl 5 30 (.join [11, 12, 16, 18, 19] [4, 5] [⟨.ret, [], [.tmp 34 (.bool)]⟩] (.two (.leaf) (.two (.leaf) (.leaf)))) (.leaf)) (.two (.two (.leaf) (.leaf)) (.leaf))))) (.leaf))))))) (.two (.leaf) (.leaf))))) (.leaf)) (.leaf))
theorem s27 : SoundF cx.P cx.G 27 sg27 r27 := by
  have e : denF cx [] an27 Try.f27.ntmps (Try.f27.body.getD .skip) Try.f27.results.toList sg27 = r27 := by kernel_rfl
  rw [← e]
  exact sound_of_den (c := cx) (Known.nil) Try.func27 (by kernel_rfl) (Nat.le_of_ble_eq_true (by kernel_rfl)) rfl

/-! reredos/store.busy -/
noncomputable def r29_L0 (a : ((List ((Int × (Int × Int))) × (List (((Int × Int) × (Int × (Bool × (Int × Int))))) × (List (((Int × Int) × Int)) × List ((Int × Int))))) × ((Int × Int) × (Int × Bool)))) (d19 : Int) : Option (Int ⊕ (Unit ⊕ Int)) :=
  bif decide (d19 < (↑a.1.2.1.length : Int)) then
    Option.bind (idxI a.1.2.1 d19) fun (b20 : ((Int × Int) × (Int × (Bool × (Int × Int))))) =>
      Option.bind (
        Option.bind (
          bif decide (b20.2.1 = a.2.2.1) then
            some (!((decide (b20.1.1 = a.2.1.1) && (decide (b20.1.2 = a.2.1.2) && true))))
          else
            some false) fun (g23 : Bool) =>
          bif g23 then
            bif !(a.2.2.2) then
              some b20.2.2.1
            else
              some true
          else
            some false) fun (d24 : Bool) =>
        bif d24 then
          some (Sum.inr (Sum.inr d19))
        else
          some (Sum.inl (Go.IntKind.wrap .i64 (d19 + (1 : Int))))
  else
    some (Sum.inr (Sum.inl ()))
def sg29 : Sig := ⟨[⟨true, .bo, (.pair (.sl (.pair (.int .i64) (.pair (.int .i64) (.int .i64)))) (.pair (.sl (.pair (.pair (.int .i64) (.int .i64)) (.pair (.int .i64) (.pair .bool (.pair (.int .i64) (.int .i64)))))) (.pair (.sl (.pair (.pair (.int .i64) (.int .i64)) (.int .i64))) (.sl (.pair (.int .i64) (.int .i64))))))⟩, ⟨true, .bo, (.pair (.int .i64) (.int .i64))⟩, ⟨false, .bo, (.int .i64)⟩, ⟨false, .bo, .bool⟩], [⟨false, .own, .bool⟩]⟩
noncomputable def r29 (a : ((List ((Int × (Int × Int))) × (List (((Int × Int) × (Int × (Bool × (Int × Int))))) × (List (((Int × Int) × Int)) × List ((Int × Int))))) × ((Int × Int) × (Int × Bool)))) : Option Bool :=
  Option.bind (
    Option.bind (loopR (r29_L0 a) (0 : Int)) fun (q25 : (Unit ⊕ Int)) =>
      Sum.elim (fun (v26 : Unit) =>
          some (-1 : Int))
        (fun (v27 : Int) =>
          some v27) q25) fun (d28 : Int) =>
    some (decide ((0 : Int) ≤ d28))
def an29 : Ann := .two (.leaf) (.two (.inl 3 13 (.two (.leaf) (.two (.inl 2 22 (.join [] [] [⟨.ret, [], [.tmp 26 (.int .i64)]⟩] (.two (.leaf) (.two (.two (.leaf) (.one (.loop [22, 23, 29] [5, 6, 7] [] [.tmp 30 (.int .i64)] [⟨.exit 0, [], []⟩, ⟨.ret, [], [.tmp 26 (.int .i64)]⟩] (.two (.leaf) (.two (.two (.leaf) (.leaf)) (.two (.one (.two (.leaf) (.two (.inl 5 41 (.join [22, 23, 27, 29, 30] [5, 6, 7] [⟨.ret, [], [.tmp 46 (.bool)]⟩] (.two (.leaf) (.two (.segs [(10, ([22, 23, 27, 29, 30, 44, 45], ([5, 6, 7, 45], [.tmp 56 (.bool)])))]) (.leaf)))) (.leaf)) (.two (.two (.leaf) (.leaf)) (.leaf))))) (.leaf))))))) (.two (.leaf) (.leaf))))) (.leaf)) (.leaf))) (.leaf)) (.leaf))
theorem s29 : SoundF cx.P cx.G 29 sg29 r29 := by
  have e : denF cx [] an29 Try.f29.ntmps (Try.f29.body.getD .skip) Try.f29.results.toList sg29 = r29 := by kernel_rfl
  rw [← e]
  exact sound_of_den (c := cx) (Known.nil) Try.func29 (by kernel_rfl) (Nat.le_of_ble_eq_true (by kernel_rfl)) rfl

/-! cmp.isNaN[int] -/
def sg65 : Sig := ⟨[⟨false, .bo, (.int .i64)⟩], [⟨false, .own, .bool⟩]⟩
noncomputable def r65 (a : Int) : Option Bool :=
  some (!(decide (a = a)))
def an65 : Ann := .two (.leaf) (.two (.leaf) (.leaf))
theorem s65 : SoundF cx.P cx.G 65 sg65 r65 := by
  have e : denF cx [] an65 Try.f65.ntmps (Try.f65.body.getD .skip) Try.f65.results.toList sg65 = r65 := by kernel_rfl
  rw [← e]
  exact sound_of_den (c := cx) (Known.nil) Try.func65 (by kernel_rfl) (Nat.le_of_ble_eq_true (by kernel_rfl)) rfl

/-! cmp.Compare[int] -/
def sg59 : Sig := ⟨[⟨false, .bo, (.int .i64)⟩, ⟨false, .bo, (.int .i64)⟩], [⟨false, .own, (.int .i64)⟩]⟩
noncomputable def r59 (a : (Int × Int)) : Option Int :=
  Option.bind (r65 a.1) fun (y1 : Bool) =>
    Option.bind (r65 a.2) fun (y2 : Bool) =>
      bif y1 then
        bif y2 then
          some (0 : Int)
        else
          some (-1 : Int)
      else
        bif y2 then
          some (1 : Int)
        else
          bif decide (a.1 < a.2) then
            some (-1 : Int)
          else
            bif decide (a.2 < a.1) then
              some (1 : Int)
            else
              some (0 : Int)
def an59 : Ann := .two (.leaf) (.two (.leaf) (.two (.leaf) (.two (.two (.leaf) (.two (.two (.two (.leaf) (.two (.two (.leaf) (.leaf)) (.leaf))) (.two (.leaf) (.leaf))) (.leaf))) (.two (.two (.leaf) (.two (.two (.leaf) (.leaf)) (.leaf))) (.two (.two (.leaf) (.two (.two (.leaf) (.leaf)) (.leaf))) (.two (.two (.leaf) (.two (.two (.leaf) (.leaf)) (.leaf))) (.two (.leaf) (.leaf))))))))
theorem s59 : SoundF cx.P cx.G 59 sg59 r59 := by
  have e : denF cx [(65, ⟨sg65, r65⟩)] an59 Try.f59.ntmps (Try.f59.body.getD .skip) Try.f59.results.toList sg59 = r59 := by kernel_rfl
  rw [← e]
  exact sound_of_den (c := cx) (Known.cons (.ofF s65 (by kernel_rfl)) Try.func65 (by kernel_rfl) (by kernel_rfl) (Known.nil)) Try.func59 (by kernel_rfl) (Nat.le_of_ble_eq_true (by kernel_rfl)) rfl

/-! reredos/store.at$1 -/
def sg58 : Sig := ⟨[⟨true, .bo, (.pair (.int .i64) (.pair (.int .i64) (.int .i64)))⟩, ⟨false, .bo, (.int .i64)⟩], [⟨false, .own, (.int .i64)⟩]⟩
noncomputable def r58 (a : ((Int × (Int × Int)) × Int)) : Option Int :=
  Option.bind (r59 (a.1.1, a.2)) fun (y1 : Int) =>
    some y1
def an58 : Ann := .two (.leaf) (.two (.leaf) (.leaf))
theorem s58 : SoundF cx.P cx.G 58 sg58 r58 := by
  have e : denF cx [(59, ⟨sg59, r59⟩)] an58 Try.f58.ntmps (Try.f58.body.getD .skip) Try.f58.results.toList sg58 = r58 := by kernel_rfl
  rw [← e]
  exact sound_of_den (c := cx) (Known.cons (.ofF s59 (by kernel_rfl)) Try.func59 (by kernel_rfl) (by kernel_rfl) (Known.nil)) Try.func58 (by kernel_rfl) (Nat.le_of_ble_eq_true (by kernel_rfl)) rfl

/-! reredos/store.at -/
noncomputable def r36_L0 (a : (List ((Int × (Int × Int))) × Int)) (d13 : (Int × Int)) : Option ((Int × Int) ⊕ Int) :=
  bif decide (d13.1 < d13.2) then
    Option.bind (idxI a.1 (Go.IntKind.wrap .i64 (Int.fdiv (Go.IntKind.wrap .u64 (Go.IntKind.wrap .i64 (d13.1 + d13.2))) (2 ^ 1)))) fun (b14 : (Int × (Int × Int))) =>
      Option.bind (r59 (b14.1, a.2)) fun (y15 : Int) =>
        bif decide (y15 < (0 : Int)) then
          some (Sum.inl ((Go.IntKind.wrap .i64 ((Go.IntKind.wrap .i64 (Int.fdiv (Go.IntKind.wrap .u64 (Go.IntKind.wrap .i64 (d13.1 + d13.2))) (2 ^ 1))) + (1 : Int))), d13.2))
        else
          some (Sum.inl (d13.1, (Go.IntKind.wrap .i64 (Int.fdiv (Go.IntKind.wrap .u64 (Go.IntKind.wrap .i64 (d13.1 + d13.2))) (2 ^ 1)))))
  else
    some (Sum.inr d13.1)
def sg36 : Sig := ⟨[⟨false, .bo, (.sl (.pair (.int .i64) (.pair (.int .i64) (.int .i64))))⟩, ⟨false, .bo, (.int .i64)⟩], [⟨false, .own, (.int .i64)⟩, ⟨false, .own, .bool⟩]⟩
noncomputable def r36 (a : (List ((Int × (Int × Int))) × Int)) : Option (Int × Bool) :=
  Option.bind (
    Option.bind (loopR (r36_L0 a) ((0 : Int), (↑a.1.length : Int))) fun (q16 : Int) =>
      bif decide (q16 < (↑a.1.length : Int)) then
        Option.bind (idxI a.1 q16) fun (b17 : (Int × (Int × Int))) =>
          Option.bind (r59 (b17.1, a.2)) fun (y18 : Int) =>
            some (q16, decide (y18 = (0 : Int)))
      else
        some (q16, false)) fun (d19 : (Int × Bool)) =>
    some d19
def an36 : Ann := .two (.leaf) (.two (.inl 2 11 (.join [] [] [⟨.ret, [], [.tmp 17 (.int .i64), .tmp 18 (.bool)]⟩] (.two (.leaf) (.two (.leaf) (.two (.leaf) (.two (.one (.loop [11, 12, 13, 19] [] [] [.tmp 20 (.int .i64), .tmp 21 (.int .i64)] [⟨.exit 0, [], [.tmp 20 (.int .i64)]⟩] (.two (.two (.leaf) (.two (.leaf) (.leaf))) (.one (.two (.leaf) (.two (.inl 6 60 (.two (.leaf) (.two (.leaf) (.leaf))) (.leaf)) (.two (.leaf) (.leaf)))))))) (.two (.inl 11 69 (.two (.leaf) (.two (.leaf) (.leaf))) (.leaf)) (.leaf))))))) (.leaf)) (.leaf))
theorem s36 : SoundF cx.P cx.G 36 sg36 r36 := by
  have e : denF cx [(59, ⟨sg59, r59⟩)] an36 Try.f36.ntmps (Try.f36.body.getD .skip) Try.f36.results.toList sg36 = r36 := by kernel_rfl
  rw [← e]
  exact sound_of_den (c := cx) (Known.cons (.ofF s59 (by kernel_rfl)) Try.func59 (by kernel_rfl) (by kernel_rfl) (Known.nil)) Try.func36 (by kernel_rfl) (Nat.le_of_ble_eq_true (by kernel_rfl)) rfl

/-! reredos/store.item -/
def sg30 : Sig := ⟨[⟨true, .bo, (.pair (.sl (.pair (.int .i64) (.pair (.int .i64) (.int .i64)))) (.pair (.sl (.pair (.pair (.int .i64) (.int .i64)) (.pair (.int .i64) (.pair .bool (.pair (.int .i64) (.int .i64)))))) (.pair (.sl (.pair (.pair (.int .i64) (.int .i64)) (.int .i64))) (.sl (.pair (.int .i64) (.int .i64))))))⟩, ⟨false, .bo, (.int .i64)⟩], [⟨true, .own, (.pair (.int .i64) (.pair (.int .i64) (.int .i64)))⟩]⟩
noncomputable def r30 (a : ((List ((Int × (Int × Int))) × (List (((Int × Int) × (Int × (Bool × (Int × Int))))) × (List (((Int × Int) × Int)) × List ((Int × Int))))) × Int)) : Option (Int × (Int × Int)) :=
  Option.bind (r36 (a.1.1, a.2)) fun (y1 : (Int × Bool)) =>
    bif y1.2 then
      Option.bind (idxI a.1.1 y1.1) fun (b2 : (Int × (Int × Int))) =>
        some b2
    else
      some (a.2, ((0 : Int), (0 : Int)))
def an30 : Ann := .two (.leaf) (.two (.two (.leaf) (.two (.leaf) (.two (.two (.leaf) (.leaf)) (.leaf)))) (.two (.leaf) (.leaf)))
theorem s30 : SoundF cx.P cx.G 30 sg30 r30 := by
  have e : denF cx [(36, ⟨sg36, r36⟩)] an30 Try.f30.ntmps (Try.f30.body.getD .skip) Try.f30.results.toList sg30 = r30 := by kernel_rfl
  rw [← e]
  exact sound_of_den (c := cx) (Known.cons (.ofF s36 (by kernel_rfl)) Try.func36 (by kernel_rfl) (by kernel_rfl) (Known.nil)) Try.func30 (by kernel_rfl) (Nat.le_of_ble_eq_true (by kernel_rfl)) rfl

/-! slices.Clone[[]reredos/api.Item,reredos/api.Item] -/
def sg51 : Sig := ⟨[⟨false, .bo, (.sl (.pair (.int .i64) (.pair (.int .i64) (.int .i64))))⟩], [⟨false, .own, (.sl (.pair (.int .i64) (.pair (.int .i64) (.int .i64))))⟩]⟩
noncomputable def r51 (a : List ((Int × (Int × Int)))) : Option (List ((Int × (Int × Int)))) :=
  nilR a fun (n1 : Bool) =>
    bif n1 then
      some []
    else
      bif roomOk false 0 a.length 24 then
        some a
      else
        none
def an51 : Ann := .two (.leaf) (.two (.two (.leaf) (.two (.two (.leaf) (.leaf)) (.leaf))) (.two (.leaf) (.leaf)))
theorem s51 : SoundF cx.P cx.G 51 sg51 r51 := by
  have e : denF cx [] an51 Try.f51.ntmps (Try.f51.body.getD .skip) Try.f51.results.toList sg51 = r51 := by kernel_rfl
  rw [← e]
  exact sound_of_den (c := cx) (Known.nil) Try.func51 (by kernel_rfl) (Nat.le_of_ble_eq_true (by kernel_rfl)) rfl

/-! slices.Clone[[]reredos/api.Lock,reredos/api.Lock] -/
def sg52 : Sig := ⟨[⟨false, .bo, (.sl (.pair (.pair (.int .i64) (.int .i64)) (.pair (.int .i64) (.pair .bool (.pair (.int .i64) (.int .i64))))))⟩], [⟨false, .own, (.sl (.pair (.pair (.int .i64) (.int .i64)) (.pair (.int .i64) (.pair .bool (.pair (.int .i64) (.int .i64))))))⟩]⟩
noncomputable def r52 (a : List (((Int × Int) × (Int × (Bool × (Int × Int)))))) : Option (List (((Int × Int) × (Int × (Bool × (Int × Int)))))) :=
  nilR a fun (n1 : Bool) =>
    bif n1 then
      some []
    else
      bif roomOk false 0 a.length 48 then
        some a
      else
        none
def an52 : Ann := .two (.leaf) (.two (.two (.leaf) (.two (.two (.leaf) (.leaf)) (.leaf))) (.two (.leaf) (.leaf)))
theorem s52 : SoundF cx.P cx.G 52 sg52 r52 := by
  have e : denF cx [] an52 Try.f52.ntmps (Try.f52.body.getD .skip) Try.f52.results.toList sg52 = r52 := by kernel_rfl
  rw [← e]
  exact sound_of_den (c := cx) (Known.nil) Try.func52 (by kernel_rfl) (Nat.le_of_ble_eq_true (by kernel_rfl)) rfl

/-! slices.Clone[[]reredos/api.Doubt,reredos/api.Doubt] -/
def sg53 : Sig := ⟨[⟨false, .bo, (.sl (.pair (.pair (.int .i64) (.int .i64)) (.int .i64)))⟩], [⟨false, .own, (.sl (.pair (.pair (.int .i64) (.int .i64)) (.int .i64)))⟩]⟩
noncomputable def r53 (a : List (((Int × Int) × Int))) : Option (List (((Int × Int) × Int))) :=
  nilR a fun (n1 : Bool) =>
    bif n1 then
      some []
    else
      bif roomOk false 0 a.length 24 then
        some a
      else
        none
def an53 : Ann := .two (.leaf) (.two (.two (.leaf) (.two (.two (.leaf) (.leaf)) (.leaf))) (.two (.leaf) (.leaf)))
theorem s53 : SoundF cx.P cx.G 53 sg53 r53 := by
  have e : denF cx [] an53 Try.f53.ntmps (Try.f53.body.getD .skip) Try.f53.results.toList sg53 = r53 := by kernel_rfl
  rw [← e]
  exact sound_of_den (c := cx) (Known.nil) Try.func53 (by kernel_rfl) (Nat.le_of_ble_eq_true (by kernel_rfl)) rfl

/-! slices.Clone[[]reredos/api.Txn,reredos/api.Txn] -/
def sg54 : Sig := ⟨[⟨false, .bo, (.sl (.pair (.int .i64) (.int .i64)))⟩], [⟨false, .own, (.sl (.pair (.int .i64) (.int .i64)))⟩]⟩
noncomputable def r54 (a : List ((Int × Int))) : Option (List ((Int × Int))) :=
  nilR a fun (n1 : Bool) =>
    bif n1 then
      some []
    else
      bif roomOk false 0 a.length 16 then
        some a
      else
        none
def an54 : Ann := .two (.leaf) (.two (.two (.leaf) (.two (.two (.leaf) (.leaf)) (.leaf))) (.two (.leaf) (.leaf)))
theorem s54 : SoundF cx.P cx.G 54 sg54 r54 := by
  have e : denF cx [] an54 Try.f54.ntmps (Try.f54.body.getD .skip) Try.f54.results.toList sg54 = r54 := by kernel_rfl
  rw [← e]
  exact sound_of_den (c := cx) (Known.nil) Try.func54 (by kernel_rfl) (Nat.le_of_ble_eq_true (by kernel_rfl)) rfl

/-! reredos/store.own -/
def sg31 : Sig := ⟨[⟨true, .bo, (.pair (.sl (.pair (.int .i64) (.pair (.int .i64) (.int .i64)))) (.pair (.sl (.pair (.pair (.int .i64) (.int .i64)) (.pair (.int .i64) (.pair .bool (.pair (.int .i64) (.int .i64)))))) (.pair (.sl (.pair (.pair (.int .i64) (.int .i64)) (.int .i64))) (.sl (.pair (.int .i64) (.int .i64))))))⟩], [⟨true, .own, (.pair (.sl (.pair (.int .i64) (.pair (.int .i64) (.int .i64)))) (.pair (.sl (.pair (.pair (.int .i64) (.int .i64)) (.pair (.int .i64) (.pair .bool (.pair (.int .i64) (.int .i64)))))) (.pair (.sl (.pair (.pair (.int .i64) (.int .i64)) (.int .i64))) (.sl (.pair (.int .i64) (.int .i64))))))⟩]⟩
noncomputable def r31 (a : (List ((Int × (Int × Int))) × (List (((Int × Int) × (Int × (Bool × (Int × Int))))) × (List (((Int × Int) × Int)) × List ((Int × Int)))))) : Option (List ((Int × (Int × Int))) × (List (((Int × Int) × (Int × (Bool × (Int × Int))))) × (List (((Int × Int) × Int)) × List ((Int × Int))))) :=
  Option.bind (r51 a.1) fun (y5 : List ((Int × (Int × Int)))) =>
    Option.bind (r52 a.2.1) fun (y6 : List (((Int × Int) × (Int × (Bool × (Int × Int)))))) =>
      Option.bind (r53 a.2.2.1) fun (y7 : List (((Int × Int) × Int))) =>
        Option.bind (r54 a.2.2.2) fun (y8 : List ((Int × Int))) =>
          some (y5, (y6, (y7, y8)))
def an31 : Ann := .two (.leaf) (.two (.draw 11) (.leaf))
theorem s31 : SoundF cx.P cx.G 31 sg31 r31 := by
  have e : denF cx [(51, ⟨sg51, r51⟩), (52, ⟨sg52, r52⟩), (53, ⟨sg53, r53⟩), (54, ⟨sg54, r54⟩)] an31 Try.f31.ntmps (Try.f31.body.getD .skip) Try.f31.results.toList sg31 = r31 := by kernel_rfl
  rw [← e]
  exact sound_of_den (c := cx) (Known.cons (.ofF s51 (by kernel_rfl)) Try.func51 (by kernel_rfl) (by kernel_rfl) (Known.cons (.ofF s52 (by kernel_rfl)) Try.func52 (by kernel_rfl) (by kernel_rfl) (Known.cons (.ofF s53 (by kernel_rfl)) Try.func53 (by kernel_rfl) (by kernel_rfl) (Known.cons (.ofF s54 (by kernel_rfl)) Try.func54 (by kernel_rfl) (by kernel_rfl) (Known.nil))))) Try.func31 (by kernel_rfl) (Nat.le_of_ble_eq_true (by kernel_rfl)) rfl

/-! reredos/store.hand -/
def sg32 : Sig := ⟨[⟨false, .own, (.ptr (.pair (.sl (.pair (.int .i64) (.pair (.int .i64) (.int .i64)))) (.pair (.sl (.pair (.pair (.int .i64) (.int .i64)) (.pair (.int .i64) (.pair .bool (.pair (.int .i64) (.int .i64)))))) (.pair (.sl (.pair (.pair (.int .i64) (.int .i64)) (.int .i64))) (.sl (.pair (.int .i64) (.int .i64)))))))⟩, ⟨true, .bo, (.pair (.int .i64) (.int .i64))⟩], [⟨false, .own, (.ptr (.pair (.sl (.pair (.int .i64) (.pair (.int .i64) (.int .i64)))) (.pair (.sl (.pair (.pair (.int .i64) (.int .i64)) (.pair (.int .i64) (.pair .bool (.pair (.int .i64) (.int .i64)))))) (.pair (.sl (.pair (.pair (.int .i64) (.int .i64)) (.int .i64))) (.sl (.pair (.int .i64) (.int .i64)))))))⟩]⟩
noncomputable def r32 (a : ((List ((Int × (Int × Int))) × (List (((Int × Int) × (Int × (Bool × (Int × Int))))) × (List (((Int × Int) × Int)) × List ((Int × Int))))) × (Int × Int))) : Option (List ((Int × (Int × Int))) × (List (((Int × Int) × (Int × (Bool × (Int × Int))))) × (List (((Int × Int) × Int)) × List ((Int × Int))))) :=
  Option.bind (r55 (a.1, a.2)) fun (y2 : Bool) =>
    bif !(y2) then
      Option.bind (
        
          bif roomOk false a.1.2.2.1.length 1 24 then
            some ((), (a.1.1, (a.1.2.1, (app a.1.2.2.1 [(a.2, (0 : Int))], a.1.2.2.2))))
          else
            none) fun (d3 : (Unit × (List ((Int × (Int × Int))) × (List (((Int × Int) × (Int × (Bool × (Int × Int))))) × (List (((Int × Int) × Int)) × List ((Int × Int))))))) =>
        some d3.2
    else
      some a.1
noncomputable def r32q : ((List ((Int × (Int × Int))) × (List (((Int × Int) × (Int × (Bool × (Int × Int))))) × (List (((Int × Int) × Int)) × List ((Int × Int))))) × (Int × Int)) → Option (List ((Int × (Int × Int))) × (List (((Int × Int) × (Int × (Bool × (Int × Int))))) × (List (((Int × Int) × Int)) × List ((Int × Int))))) := fun a =>
  Option.bind (r55 (a.1, a.2)) fun (y2 : Bool) =>
    bif !(y2) then
      Option.bind (
        sameR (
          bif roomOk false a.1.2.2.1.length 1 24 then
            some ((), (a.1.1, (a.1.2.1, (app a.1.2.2.1 [(a.2, (0 : Int))], a.1.2.2.2))))
          else
            none)
 (
          sameR (
            bif roomOk false a.1.2.2.1.length 1 24 then
              some ((), (a.1.1, (a.1.2.1, (app a.1.2.2.1 [(a.2, (0 : Int))], a.1.2.2.2))))
            else
              none)
 (
            bif roomOk false a.1.2.2.1.length 1 24 then
              some ((), (a.1.1, (a.1.2.1, (app a.1.2.2.1 [(a.2, (0 : Int))], a.1.2.2.2))))
            else
              none))) fun (d3 : (Unit × (List ((Int × (Int × Int))) × (List (((Int × Int) × (Int × (Bool × (Int × Int))))) × (List (((Int × Int) × Int)) × List ((Int × Int))))))) =>
        some d3.2
    else
      some a.1
theorem r32e : r32q = r32 := by unfold r32q r32; simp only [sameR_self]
def an32 : Ann := .two (.leaf) (.two (.draw 4) (.two (.join [] [] [⟨.normal, [], [.tmp 0 (.pt 0 [(0, 0)] 0 0 0), .box 0 [.sl .own (.pair (.int .i64) (.pair (.int .i64) (.int .i64))), .sl .own (.pair (.pair (.int .i64) (.int .i64)) (.pair (.int .i64) (.pair .bool (.pair (.int .i64) (.int .i64))))), .sl .own (.pair (.pair (.int .i64) (.int .i64)) (.int .i64)), .sl .own (.pair (.int .i64) (.int .i64))]]⟩] (.drawT [0, 1, 2, 3, 4, 5, 6, 7] [0])) (.leaf)))
theorem s32 : SoundM cx.P cx.G 32 sg32 r32 := by
  have e : denM cx [(55, ⟨sg55, r55⟩)] an32 Try.f32.ntmps (Try.f32.body.getD .skip) Try.f32.results.toList sg32 = r32q := by kernel_rfl
  rw [← r32e, ← e]
  exact sound_of_denM (c := cx) (Known.cons (.ofF s55 (by kernel_rfl)) Try.func55 (by kernel_rfl) (by kernel_rfl) (Known.nil)) Try.func32 (by kernel_rfl) (Nat.le_of_ble_eq_true (by kernel_rfl)) rfl

/-! reredos/store.Write -/
def sg14 : Sig := ⟨[⟨true, .bo, (.pair (.sl (.pair (.int .i64) (.pair (.int .i64) (.int .i64)))) (.pair (.sl (.pair (.pair (.int .i64) (.int .i64)) (.pair (.int .i64) (.pair .bool (.pair (.int .i64) (.int .i64)))))) (.pair (.sl (.pair (.pair (.int .i64) (.int .i64)) (.int .i64))) (.sl (.pair (.int .i64) (.int .i64))))))⟩, ⟨true, .bo, (.pair (.int .i64) (.int .i64))⟩, ⟨false, .bo, (.int .i64)⟩, ⟨false, .bo, (.int .i64)⟩, ⟨false, .bo, (.int .i64)⟩], [⟨true, .ro, (.pair (.sl (.pair (.int .i64) (.pair (.int .i64) (.int .i64)))) (.pair (.sl (.pair (.pair (.int .i64) (.int .i64)) (.pair (.int .i64) (.pair .bool (.pair (.int .i64) (.int .i64)))))) (.pair (.sl (.pair (.pair (.int .i64) (.int .i64)) (.int .i64))) (.sl (.pair (.int .i64) (.int .i64))))))⟩, ⟨false, .own, (.int .i64)⟩]⟩
noncomputable def r14 (a : ((List ((Int × (Int × Int))) × (List (((Int × Int) × (Int × (Bool × (Int × Int))))) × (List (((Int × Int) × Int)) × List ((Int × Int))))) × ((Int × Int) × (Int × (Int × Int))))) : Option ((List ((Int × (Int × Int))) × (List (((Int × Int) × (Int × (Bool × (Int × Int))))) × (List (((Int × Int) × Int)) × List ((Int × Int))))) × Int) :=
  Option.bind (r26 (a.1, a.2.1, a.2.2.1)) fun (y1 : Int) =>
    bif !(decide (y1 = (0 : Int))) then
      some (([], ([], ([], []))), y1)
    else
      Option.bind (
        Option.bind (
          bif !(decide (a.2.2.2.1 < (0 : Int))) then
            some (decide ((1073741824 : Int) < a.2.2.2.1))
          else
            some true) fun (g6 : Bool) =>
          Option.bind (
            bif !(g6) then
              some (decide (a.2.2.2.2 < (0 : Int)))
            else
              some true) fun (g7 : Bool) =>
            bif !(g7) then
              some (decide ((1048576 : Int) < a.2.2.2.2))
            else
              some true) fun (d8 : Bool) =>
        bif d8 then
          some (([], ([], ([], []))), (2 : Int))
        else
          Option.bind (r27 (a.1, a.2.1, a.2.2.1)) fun (y9 : Int) =>
            Option.bind (
              Option.bind (r28 (a.1.2.2.2, a.2.1)) fun (y14 : Bool) =>
                bif y14 then
                  some y14
                else
                  bif decide ((0 : Int) ≤ y9) then
                    Option.bind (idxI a.1.2.1 y9) fun (b15 : ((Int × Int) × (Int × (Bool × (Int × Int))))) =>
                      some (decide (a.2.2.2.2 < b15.2.2.2.2))
                  else
                    some false) fun (d16 : Bool) =>
              bif d16 then
                some (([], ([], ([], []))), (13 : Int))
              else
                Option.bind (r29 (a.1, a.2.1, a.2.2.1, true)) fun (y17 : Bool) =>
                  bif y17 then
                    some (([], ([], ([], []))), (11 : Int))
                  else
                    Option.bind (
                      Option.bind (
                        bif decide (y9 < (0 : Int)) then
                          some (decide ((↑a.1.2.1.length : Int) = (24 : Int)))
                        else
                          some false) fun (d22 : Bool) =>
                        bif d22 then
                          some d22
                        else
                          Option.bind (r30 (a.1, a.2.2.1)) fun (y23 : (Int × (Int × Int))) =>
                            some (decide (y23.2.2 = (1048576 : Int)))) fun (d24 : Bool) =>
                      bif d24 then
                        some (([], ([], ([], []))), (8 : Int))
                      else
                        Option.bind (r31 a.1) fun (y25 : (List ((Int × (Int × Int))) × (List (((Int × Int) × (Int × (Bool × (Int × Int))))) × (List (((Int × Int) × Int)) × List ((Int × Int)))))) =>
                          Option.bind (
                            bif decide (y9 < (0 : Int)) then
                              bif roomOk false y25.2.1.length 1 48 then
                                some ((), (y25.1, (app y25.2.1 [(a.2.1, (a.2.2.1, (true, a.2.2.2)))], y25.2.2)))
                              else
                                none
                            else
                              bif inB y9 y25.2.1.length then
                                Option.bind (idxN y25.2.1 (Int.toNat y9)) fun (x28 : ((Int × Int) × (Int × (Bool × (Int × Int))))) =>
                                  some ((), (y25.1, (List.set y25.2.1 (Int.toNat y9) (a.2.1, (a.2.2.1, (true, a.2.2.2))), y25.2.2)))
                              else
                                none) fun (d29 : (Unit × (List ((Int × (Int × Int))) × (List (((Int × Int) × (Int × (Bool × (Int × Int))))) × (List (((Int × Int) × Int)) × List ((Int × Int))))))) =>
                            Option.bind (r32 (d29.2, a.2.1)) fun (y30 : (List ((Int × (Int × Int))) × (List (((Int × Int) × (Int × (Bool × (Int × Int))))) × (List (((Int × Int) × Int)) × List ((Int × Int)))))) =>
                              some (y30, (0 : Int))
def an14 : Ann := .two (.leaf) (.two (.two (.leaf) (.two (.leaf) (.two (.two (.leaf) (.leaf)) (.leaf)))) (.two (.two (.join [2, 3, 4, 5, 6, 10] [5, 6, 10] [⟨.normal, [], [.tmp 37 (.bool)]⟩] (.segs [(6, ([2, 3, 4, 5, 6, 10], ([5, 6, 10], [.tmp 29 (.bool)]))), (4, ([2, 3, 4, 5, 6, 10], ([5, 6, 10], [.tmp 33 (.bool)])))])) (.two (.two (.leaf) (.leaf)) (.leaf))) (.two (.leaf) (.two (.one (.two (.join [2, 3, 4, 5, 6, 10, 13] [5, 6, 10] [⟨.normal, [], [.tmp 43 (.bool)]⟩] (.two (.leaf) (.two (.leaf) (.leaf)))) (.two (.two (.leaf) (.leaf)) (.two (.leaf) (.two (.two (.leaf) (.leaf)) (.two (.join [2, 3, 4, 5, 6, 10, 13] [5, 6, 10] [⟨.normal, [], [.tmp 67 (.bool)]⟩] (.two (.join [2, 3, 4, 5, 6, 10, 13] [5, 6, 10] [⟨.normal, [], [.tmp 67 (.bool)]⟩] (.leaf)) (.two (.leaf) (.leaf)))) (.two (.two (.leaf) (.leaf)) (.leaf)))))))) (.two (.leaf) (.two (.leaf) (.two (.join [6, 10] [6, 10] [⟨.normal, [], [.tmp 14 (.pt 14 [(0, 0)] 0 0 4), .box 14 [.sl .own (.pair (.int .i64) (.pair (.int .i64) (.int .i64))), .sl .own (.pair (.pair (.int .i64) (.int .i64)) (.pair (.int .i64) (.pair .bool (.pair (.int .i64) (.int .i64))))), .sl .own (.pair (.pair (.int .i64) (.int .i64)) (.int .i64)), .sl .own (.pair (.int .i64) (.int .i64))]]⟩] (.two (.leaf) (.two (.leaf) (.leaf)))) (.two (.leaf) (.two (.leaf) (.leaf))))))))))
theorem s14 : SoundF cx.P cx.G 14 sg14 r14 := by
  have e : denF cx [(26, ⟨sg26, r26⟩), (27, ⟨sg27, r27⟩), (28, ⟨sg28, r28⟩), (29, ⟨sg29, r29⟩), (30, ⟨sg30, r30⟩), (31, ⟨sg31, r31⟩), (32, ⟨sg32, r32⟩)] an14 Try.f14.ntmps (Try.f14.body.getD .skip) Try.f14.results.toList sg14 = r14 := by kernel_rfl
  rw [← e]
  exact sound_of_den (c := cx) (Known.cons (.ofF s26 (by kernel_rfl)) Try.func26 (by kernel_rfl) (by kernel_rfl) (Known.cons (.ofF s27 (by kernel_rfl)) Try.func27 (by kernel_rfl) (by kernel_rfl) (Known.cons (.ofF s28 (by kernel_rfl)) Try.func28 (by kernel_rfl) (by kernel_rfl) (Known.cons (.ofF s29 (by kernel_rfl)) Try.func29 (by kernel_rfl) (by kernel_rfl) (Known.cons (.ofF s30 (by kernel_rfl)) Try.func30 (by kernel_rfl) (by kernel_rfl) (Known.cons (.ofF s31 (by kernel_rfl)) Try.func31 (by kernel_rfl) (by kernel_rfl) (Known.cons (.ofM s32 (by kernel_rfl)) Try.func32 (by kernel_rfl) (by kernel_rfl) (Known.nil)))))))) Try.func14 (by kernel_rfl) (Nat.le_of_ble_eq_true (by kernel_rfl)) rfl

/-! reredos/store.Age -/
noncomputable def r15_L0 (y3 : (List ((Int × (Int × Int))) × (List (((Int × Int) × (Int × (Bool × (Int × Int))))) × (List (((Int × Int) × Int)) × List ((Int × Int)))))) (a : ((List ((Int × (Int × Int))) × (List (((Int × Int) × (Int × (Bool × (Int × Int))))) × (List (((Int × Int) × Int)) × List ((Int × Int))))) × Int)) (d38 : (Unit × (Unit × (Int × ((List ((Int × (Int × Int))) × (List (((Int × Int) × (Int × (Bool × (Int × Int))))) × (List (((Int × Int) × Int)) × List ((Int × Int))))) × List ((Int × Int))))))) : Option ((Unit × (Unit × (Int × ((List ((Int × (Int × Int))) × (List (((Int × Int) × (Int × (Bool × (Int × Int))))) × (List (((Int × Int) × Int)) × List ((Int × Int))))) × List ((Int × Int)))))) ⊕ (Unit × (Unit × ((List ((Int × (Int × Int))) × (List (((Int × Int) × (Int × (Bool × (Int × Int))))) × (List (((Int × Int) × Int)) × List ((Int × Int))))) × List ((Int × Int)))))) :=
  bif decide (d38.2.2.1 < (↑y3.2.2.1.length : Int)) then
    Option.bind (
      bif inB d38.2.2.1 d38.2.2.2.1.2.2.1.length then
        Option.bind (idxN d38.2.2.2.1.2.2.1 (Int.toNat d38.2.2.1)) fun (x49 : ((Int × Int) × Int)) =>
          Option.bind (idxN d38.2.2.2.1.2.2.1 (Int.toNat d38.2.2.1)) fun (x50 : ((Int × Int) × Int)) =>
            Option.bind (idxN (List.set d38.2.2.2.1.2.2.1 (Int.toNat d38.2.2.1) (x50.1, (Go.IntKind.wrap .i64 (x49.2 + (1 : Int))))) (Int.toNat d38.2.2.1)) fun (x51 : ((Int × Int) × Int)) =>
              bif decide (a.2 ≤ x51.2) then
                Option.bind (idxN (List.set d38.2.2.2.1.2.2.1 (Int.toNat d38.2.2.1) (x50.1, (Go.IntKind.wrap .i64 (x49.2 + (1 : Int))))) (Int.toNat d38.2.2.1)) fun (x52 : ((Int × Int) × Int)) =>
                  bif roomOk false d38.2.2.2.2.length 1 16 then
                    Option.bind (idxN (List.set d38.2.2.2.1.2.2.1 (Int.toNat d38.2.2.1) (x50.1, (Go.IntKind.wrap .i64 (x49.2 + (1 : Int))))) (Int.toNat d38.2.2.1)) fun (x53 : ((Int × Int) × Int)) =>
                      some ((), ((), ((d38.2.2.2.1.1, (d38.2.2.2.1.2.1, (List.set (List.set d38.2.2.2.1.2.2.1 (Int.toNat d38.2.2.1) (x50.1, (Go.IntKind.wrap .i64 (x49.2 + (1 : Int))))) (Int.toNat d38.2.2.1) (x53.1, (0 : Int)), d38.2.2.2.1.2.2.2))), app d38.2.2.2.2 [x52.1])))
                  else
                    none
              else
                some ((), ((), ((d38.2.2.2.1.1, (d38.2.2.2.1.2.1, (List.set d38.2.2.2.1.2.2.1 (Int.toNat d38.2.2.1) (x50.1, (Go.IntKind.wrap .i64 (x49.2 + (1 : Int)))), d38.2.2.2.1.2.2.2))), d38.2.2.2.2)))
      else
        none) fun (d54 : (Unit × (Unit × ((List ((Int × (Int × Int))) × (List (((Int × Int) × (Int × (Bool × (Int × Int))))) × (List (((Int × Int) × Int)) × List ((Int × Int))))) × List ((Int × Int)))))) =>
      some (Sum.inl ((), ((), ((Go.IntKind.wrap .i64 (d38.2.2.1 + (1 : Int))), d54.2.2))))
  else
    some (Sum.inr ((), ((), d38.2.2.2)))
def sg15 : Sig := ⟨[⟨true, .bo, (.pair (.sl (.pair (.int .i64) (.pair (.int .i64) (.int .i64)))) (.pair (.sl (.pair (.pair (.int .i64) (.int .i64)) (.pair (.int .i64) (.pair .bool (.pair (.int .i64) (.int .i64)))))) (.pair (.sl (.pair (.pair (.int .i64) (.int .i64)) (.int .i64))) (.sl (.pair (.int .i64) (.int .i64))))))⟩, ⟨false, .bo, (.int .i64)⟩], [⟨true, .ro, (.pair (.sl (.pair (.int .i64) (.pair (.int .i64) (.int .i64)))) (.pair (.sl (.pair (.pair (.int .i64) (.int .i64)) (.pair (.int .i64) (.pair .bool (.pair (.int .i64) (.int .i64)))))) (.pair (.sl (.pair (.pair (.int .i64) (.int .i64)) (.int .i64))) (.sl (.pair (.int .i64) (.int .i64))))))⟩, ⟨false, .own, (.sl (.pair (.int .i64) (.int .i64)))⟩, ⟨false, .own, (.int .i64)⟩]⟩
noncomputable def r15 (a : ((List ((Int × (Int × Int))) × (List (((Int × Int) × (Int × (Bool × (Int × Int))))) × (List (((Int × Int) × Int)) × List ((Int × Int))))) × Int)) : Option ((List ((Int × (Int × Int))) × (List (((Int × Int) × (Int × (Bool × (Int × Int))))) × (List (((Int × Int) × Int)) × List ((Int × Int))))) × (List ((Int × Int)) × Int)) :=
  Option.bind (r18 a.1) fun (y1 : Int) =>
    bif !(decide (y1 = (0 : Int))) then
      some (([], ([], ([], []))), ([], y1))
    else
      Option.bind (
        bif !(decide (a.2 < (1 : Int))) then
          some (decide ((1048576 : Int) < a.2))
        else
          some true) fun (d2 : Bool) =>
        bif d2 then
          some (([], ([], ([], []))), ([], (2 : Int)))
        else
          Option.bind (r31 a.1) fun (y3 : (List ((Int × (Int × Int))) × (List (((Int × Int) × (Int × (Bool × (Int × Int))))) × (List (((Int × Int) × Int)) × List ((Int × Int)))))) =>
            Option.bind (loopR (r15_L0 y3 a) ((), ((), ((0 : Int), (y3, []))))) fun (q55 : (Unit × (Unit × ((List ((Int × (Int × Int))) × (List (((Int × Int) × (Int × (Bool × (Int × Int))))) × (List (((Int × Int) × Int)) × List ((Int × Int))))) × List ((Int × Int)))))) =>
              some (q55.2.2.1, (q55.2.2.2, (0 : Int)))
def an15 : Ann := .two (.leaf) (.two (.two (.leaf) (.two (.leaf) (.two (.two (.leaf) (.leaf)) (.leaf)))) (.two (.two (.join [1, 2, 4] [2, 4] [⟨.normal, [], [.tmp 23 (.bool)]⟩] (.leaf)) (.two (.two (.leaf) (.leaf)) (.leaf))) (.two (.leaf) (.two (.leaf) (.two (.two (.leaf) (.one (.loop [1, 4, 29] [4] [(9, (.pair (.int .i64) (.int .i64)))] [.tmp 8 (.pt 8 [(0, 0)] 0 0 4), .tmp 9 (.own 9 [(0, 0)] (.pair (.int .i64) (.int .i64))), .tmp 30 (.int .i64), .box 8 [.sl .own (.pair (.int .i64) (.pair (.int .i64) (.int .i64))), .sl .own (.pair (.pair (.int .i64) (.int .i64)) (.pair (.int .i64) (.pair .bool (.pair (.int .i64) (.int .i64))))), .sl .own (.pair (.pair (.int .i64) (.int .i64)) (.int .i64)), .sl .own (.pair (.int .i64) (.int .i64))], .row 9 [.sl .own (.pair (.int .i64) (.int .i64))]] [⟨.exit 0, [], [.tmp 8 (.pt 8 [(0, 0)] 0 0 4), .tmp 9 (.own 9 [(0, 0)] (.pair (.int .i64) (.int .i64))), .box 8 [.sl .own (.pair (.int .i64) (.pair (.int .i64) (.int .i64))), .sl .own (.pair (.pair (.int .i64) (.int .i64)) (.pair (.int .i64) (.pair .bool (.pair (.int .i64) (.int .i64))))), .sl .own (.pair (.pair (.int .i64) (.int .i64)) (.int .i64)), .sl .own (.pair (.int .i64) (.int .i64))], .row 9 [.sl .own (.pair (.int .i64) (.int .i64))]]⟩] (.two (.leaf) (.two (.two (.leaf) (.leaf)) (.two (.join [1, 4, 29, 30] [4] [⟨.normal, [(9, (.pair (.int .i64) (.int .i64)))], [.tmp 8 (.pt 8 [(0, 0)] 0 0 4), .tmp 9 (.own 9 [(0, 0)] (.pair (.int .i64) (.int .i64))), .box 8 [.sl .own (.pair (.int .i64) (.pair (.int .i64) (.int .i64))), .sl .own (.pair (.pair (.int .i64) (.int .i64)) (.pair (.int .i64) (.pair .bool (.pair (.int .i64) (.int .i64))))), .sl .own (.pair (.pair (.int .i64) (.int .i64)) (.int .i64)), .sl .own (.pair (.int .i64) (.int .i64))], .row 9 [.sl .own (.pair (.int .i64) (.int .i64))]]⟩] (.one (.two (.leaf) (.two (.leaf) (.two (.leaf) (.two (.leaf) (.two (.two (.leaf) (.leaf)) (.leaf)))))))) (.leaf))))))) (.two (.leaf) (.leaf)))))))
theorem s15 : SoundF cx.P cx.G 15 sg15 r15 := by
  have e : denF cx [(18, ⟨sg18, r18⟩), (31, ⟨sg31, r31⟩)] an15 Try.f15.ntmps (Try.f15.body.getD .skip) Try.f15.results.toList sg15 = r15 := by kernel_rfl
  rw [← e]
  exact sound_of_den (c := cx) (Known.cons (.ofF s18 (by kernel_rfl)) Try.func18 (by kernel_rfl) (by kernel_rfl) (Known.cons (.ofF s31 (by kernel_rfl)) Try.func31 (by kernel_rfl) (by kernel_rfl) (Known.nil))) Try.func15 (by kernel_rfl) (Nat.le_of_ble_eq_true (by kernel_rfl)) rfl

/-! reredos/reredoskeep.AgeAsks -/
noncomputable def r3_L0 (y2 : Int) (y1 : Int) (d6 : (Unit × (Int × (Int × (List ((Int × (Int × Int))) × (List (((Int × Int) × (Int × (Bool × (Int × Int))))) × (List (((Int × Int) × Int)) × List ((Int × Int))))))))) : Option ((Unit × (Int × (Int × (List ((Int × (Int × Int))) × (List (((Int × Int) × (Int × (Bool × (Int × Int))))) × (List (((Int × Int) × Int)) × List ((Int × Int)))))))) ⊕ ((Unit × (Int × (List ((Int × (Int × Int))) × (List (((Int × Int) × (Int × (Bool × (Int × Int))))) × (List (((Int × Int) × Int)) × List ((Int × Int))))))) ⊕ Bool)) :=
  bif decide (d6.2.2.1 < y2) then
    Option.bind (r15 (d6.2.2.2, (Go.IntKind.wrap .i64 ((1 : Int) + y1)))) fun (y7 : ((List ((Int × (Int × Int))) × (List (((Int × Int) × (Int × (Bool × (Int × Int))))) × (List (((Int × Int) × Int)) × List ((Int × Int))))) × (List ((Int × Int)) × Int))) =>
      bif !(decide (y7.2.2 = (0 : Int))) then
        some (Sum.inr (Sum.inr false))
      else
        some (Sum.inl ((), ((Go.IntKind.wrap .i64 (d6.2.1 + (↑y7.2.1.length : Int))), ((Go.IntKind.wrap .i64 (d6.2.2.1 + (1 : Int))), y7.1))))
  else
    some (Sum.inr (Sum.inl ((), (d6.2.1, d6.2.2.2))))
def sg3 : Sig := ⟨[⟨false, .bo, (.int .i64)⟩, ⟨false, .bo, (.int .i64)⟩], [⟨false, .own, .bool⟩]⟩
noncomputable def r3 (a : (Int × Int)) : Option Bool :=
  Option.bind (r13 (a.1, (6 : Int))) fun (y1 : Int) =>
    Option.bind (r13 (a.2, (40 : Int))) fun (y2 : Int) =>
      Option.bind (r14 (([], ([], ([], []))), ((0 : Int), (1 : Int)), (3 : Int), (4 : Int), (1 : Int))) fun (y3 : ((List ((Int × (Int × Int))) × (List (((Int × Int) × (Int × (Bool × (Int × Int))))) × (List (((Int × Int) × Int)) × List ((Int × Int))))) × Int)) =>
        Option.bind (loopR (r3_L0 y2 y1) ((), ((0 : Int), ((0 : Int), y3.1)))) fun (q8 : ((Unit × (Int × (List ((Int × (Int × Int))) × (List (((Int × Int) × (Int × (Bool × (Int × Int))))) × (List (((Int × Int) × Int)) × List ((Int × Int))))))) ⊕ Bool)) =>
          Sum.elim (fun (v9 : (Unit × (Int × (List ((Int × (Int × Int))) × (List (((Int × Int) × (Int × (Bool × (Int × Int))))) × (List (((Int × Int) × Int)) × List ((Int × Int)))))))) =>
              Option.bind (
                bif decide (y3.2 = (0 : Int)) then
                  bif decide ((Go.IntKind.wrap .i64 ((1 : Int) + y1)) = 0) then
                    none
                  else
                    some (decide (v9.2.1 = (Go.IntKind.wrap .i64 (Int.tdiv y2 (Go.IntKind.wrap .i64 ((1 : Int) + y1))))))
                else
                  some false) fun (g11 : Bool) =>
                bif g11 then
                  some (decide ((↑v9.2.2.2.2.1.length : Int) = (1 : Int)))
                else
                  some false)
            (fun (v10 : Bool) =>
              some v10) q8
def an3 : Ann := .two (.leaf) (.two (.leaf) (.two (.leaf) (.two (.leaf) (.two (.leaf) (.two (.two (.leaf) (.one (.loop [5, 6, 8] [] [] [.tmp 7 (.pt 7 [(0, 0)] 0 0 4), .tmp 9 (.int .i64), .tmp 10 (.int .i64), .box 7 [.sl .ro (.pair (.int .i64) (.pair (.int .i64) (.int .i64))), .sl .ro (.pair (.pair (.int .i64) (.int .i64)) (.pair (.int .i64) (.pair .bool (.pair (.int .i64) (.int .i64))))), .sl .ro (.pair (.pair (.int .i64) (.int .i64)) (.int .i64)), .sl .ro (.pair (.int .i64) (.int .i64))]] [⟨.exit 0, [], [.tmp 7 (.pt 7 [(0, 0)] 0 0 4), .tmp 9 (.int .i64), .box 7 [.sl .ro (.pair (.int .i64) (.pair (.int .i64) (.int .i64))), .sl .ro (.pair (.pair (.int .i64) (.int .i64)) (.pair (.int .i64) (.pair .bool (.pair (.int .i64) (.int .i64))))), .sl .ro (.pair (.pair (.int .i64) (.int .i64)) (.int .i64)), .sl .ro (.pair (.int .i64) (.int .i64))]]⟩, ⟨.ret, [], [.tmp 4 (.bool)]⟩] (.two (.two (.leaf) (.two (.leaf) (.leaf))) (.two (.one (.two (.leaf) (.two (.two (.leaf) (.two (.two (.leaf) (.leaf)) (.leaf))) (.two (.leaf) (.leaf))))) (.leaf)))))) (.two (.segs [(9, ([7], ([7], [.tmp 52 (.bool)])))]) (.leaf)))))))
theorem s3 : SoundF cx.P cx.G 3 sg3 r3 := by
  have e : denF cx [(13, ⟨sg13, r13⟩), (14, ⟨sg14, r14⟩), (15, ⟨sg15, r15⟩)] an3 Try.f3.ntmps (Try.f3.body.getD .skip) Try.f3.results.toList sg3 = r3 := by kernel_rfl
  rw [← e]
  exact sound_of_den (c := cx) (Known.cons (.ofF s13 (by kernel_rfl)) Try.func13 (by kernel_rfl) (by kernel_rfl) (Known.cons (.ofF s14 (by kernel_rfl)) Try.func14 (by kernel_rfl) (by kernel_rfl) (Known.cons (.ofF s15 (by kernel_rfl)) Try.func15 (by kernel_rfl) (by kernel_rfl) (Known.nil)))) Try.func3 (by kernel_rfl) (Nat.le_of_ble_eq_true (by kernel_rfl)) rfl

end Go.Hb
