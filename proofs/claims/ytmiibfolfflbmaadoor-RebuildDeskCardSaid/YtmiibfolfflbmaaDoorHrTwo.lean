/- What the functions compute: written by gen.py. -/
import Derived.Test.YtmiibfolfflbmaaDoorHrOne
namespace Go.Hr
open Go.RowKit Go.Proofs Go.V
/-! reredos/store.Peek -/
def sg20 : Sig := ⟨[⟨true, .bo, E_37⟩, ⟨false, .bo, (.int .i64)⟩], [⟨false, .own, (.int .i64)⟩, ⟨false, .own, (.int .i64)⟩, ⟨false, .own, (.int .i64)⟩]⟩
noncomputable def r20 (a : T_25) : Option (Int × (Int × Int)) :=
 Option.bind (r37 (a.1, ((0 : Int), (1 : Int)), a.2)) fun (y1 : Int) =>
 bif !(decide (y1 = (0 : Int))) then
 some ((0 : Int), ((0 : Int), y1))
 else
 Option.bind (r46 (a.1, ((0 : Int), (0 : Int)), a.2, false)) fun (y2 : Bool) =>
 bif y2 then
 some ((0 : Int), ((0 : Int), (11 : Int)))
 else
 Option.bind (r47 (a.1, a.2)) fun (y3 : (Int × (Int × Int))) =>
 some (y3.2.1, (y3.2.2, (0 : Int)))
def an20 : Ann := .two (.leaf) (.two (.two (.leaf) (.two (.leaf) (.two (.two (.leaf) (.leaf)) (.leaf)))) (.two (.two (.leaf) (.two (.two (.leaf) (.leaf)) (.leaf))) (.two (.leaf) (.two (.draw 5) (.leaf)))))
theorem s20 : SoundF cx.P cx.G 20 sg20 r20 := by
  have e : denF cx [(37, ⟨sg37, r37⟩), (46, ⟨sg46, r46⟩), (47, ⟨sg47, r47⟩)] an20 Tryd.f20.ntmps (Tryd.f20.body.getD .skip) Tryd.f20.results.toList sg20 = r20 := by kernel_rfl
  rw [← e]
  exact sound_of_den (c := cx) (Known.cons (.ofF s37 (by kernel_rfl)) Tryd.func37 (by kernel_rfl) (by kernel_rfl) (Known.cons (.ofF s46 (by kernel_rfl)) Tryd.func46 (by kernel_rfl) (by kernel_rfl) (Known.cons (.ofF s47 (by kernel_rfl)) Tryd.func47 (by kernel_rfl) (by kernel_rfl) (Known.nil)))) Tryd.func20 (by kernel_rfl) (Nat.le_of_ble_eq_true (by kernel_rfl)) rfl

/-! reredos/reredoskeep.RebuildStore -/
def sg4 : Sig := ⟨[⟨false, .bo, (.int .i64)⟩, ⟨false, .bo, (.int .i64)⟩, ⟨false, .bo, (.int .i64)⟩, ⟨false, .bo, .bool⟩], [⟨false, .own, .bool⟩]⟩
noncomputable def r4 (a : (Int × (Int × (Int × Bool)))) : Option Bool :=
 Option.bind (r13 (0 : Int)) fun (y1 : T_32) =>
 Option.bind (r18 (a.1, (8 : Int))) fun (y2 : Int) =>
 Option.bind (r18 (a.2.1, (99 : Int))) fun (y5 : Int) =>
 Option.bind (r18 (a.2.2.1, (99 : Int))) fun (y6 : Int) =>
 Option.bind (r16 (y1, (0 : Int), [((5 : Int), (((0 : Int), (1 : Int)), ((0 : Int), ((0 : Int), ((0 : Int), (false, [])))))), ((1 : Int), (((0 : Int), (1 : Int)), (y2, (y5, ((1 : Int), (false, [])))))), ((2 : Int), (((0 : Int), (1 : Int)), ((0 : Int), ((0 : Int), ((0 : Int), (a.2.2.2, [])))))), ((1 : Int), (((0 : Int), (2 : Int)), (y2, (y6, ((1 : Int), (false, []))))))])) fun (y7 : T_13) =>
 Option.bind (r19 (y7.1, ((0 : Int), (2 : Int)), false)) fun (y8 : T_25) =>
 Option.bind (r20 (y8.1, y2)) fun (y9 : (Int × (Int × Int))) =>
 Option.bind (r17 (y7.1, ((0 : Int), (2 : Int)))) fun (y10 : (Int × Int)) =>
 Option.bind (
 Option.bind (
 bif !(!(decide (y7.2.2.2 = (0 : Int)))) then
 some (!(decide (y8.2 = (0 : Int))))
 else
 some true) fun (g21 : Bool) =>
 Option.bind (
 bif !(g21) then
 some (!(decide (y9.2.2 = (0 : Int))))
 else
 some true) fun (g22 : Bool) =>
 Option.bind (
 bif !(g22) then
 some (!(decide (y10.2 = (0 : Int))))
 else
 some true) fun (g23 : Bool) =>
 Option.bind (
 bif !(g23) then
 some (!(decide (y10.1 = (1 : Int))))
 else
 some true) fun (g24 : Bool) =>
 Option.bind (
 bif !(g24) then
 some (!(decide ((↑y7.2.2.1.length : Int) = (0 : Int))))
 else
 some true) fun (g25 : Bool) =>
 bif !(g25) then
 some (!(decide (y7.2.1.1 = (2 : Int))))
 else
 some true) fun (d26 : Bool) =>
 bif d26 then
 some false
 else
 bif a.2.2.2 then
 Option.bind (r18 (a.2.1, (99 : Int))) fun (y27 : Int) =>
 bif decide (y9.1 = y27) then
 some (decide (y9.2.1 = (1 : Int)))
 else
 some false
 else
 bif decide (y9.1 = (0 : Int)) then
 some (decide (y9.2.1 = (0 : Int)))
 else
 some false
def an4 : Ann := .two (.leaf) (.two (.leaf) (.two (.leaf) (.two (.leaf) (.two (.leaf) (.two (.draw 15) (.two (.leaf) (.two (.leaf) (.two (.leaf) (.two (.leaf) (.two (.two (.join [1, 3, 20, 21] [] [⟨.normal, [], [.tmp 100 (.bool)]⟩] (.segs [(6, ([1, 3, 15, 16, 20, 21, 22, 23, 24], ([15, 49], [.tmp 78 (.bool)]))), (4, ([1, 3, 15, 16, 20, 21, 23, 24], ([15, 49], [.tmp 82 (.bool)]))), (4, ([1, 3, 15, 16, 20, 21, 23], ([15, 49], [.tmp 86 (.bool)]))), (4, ([1, 3, 15, 16, 20, 21], ([15, 49], [.tmp 90 (.bool)]))), (5, ([1, 3, 15, 20, 21], ([15], [.tmp 95 (.bool)])))])) (.two (.two (.leaf) (.leaf)) (.leaf))) (.two (.two (.leaf) (.two (.two (.leaf) (.leaf)) (.leaf))) (.two (.leaf) (.leaf)))))))))))))
theorem s4 : SoundF cx.P cx.G 4 sg4 r4 := by
  have e : denF cx [(13, ⟨sg13, r13⟩), (16, ⟨sg16, r16⟩), (17, ⟨sg17, r17⟩), (18, ⟨sg18, r18⟩), (19, ⟨sg19, r19⟩), (20, ⟨sg20, r20⟩)] an4 Tryd.f4.ntmps (Tryd.f4.body.getD .skip) Tryd.f4.results.toList sg4 = r4 := by kernel_rfl
  rw [← e]
  exact sound_of_den (c := cx) (Known.cons (.ofF s13 (by kernel_rfl)) Tryd.func13 (by kernel_rfl) (by kernel_rfl) (Known.cons (.ofF s16 (by kernel_rfl)) Tryd.func16 (by kernel_rfl) (by kernel_rfl) (Known.cons (.ofF s17 (by kernel_rfl)) Tryd.func17 (by kernel_rfl) (by kernel_rfl) (Known.cons (.ofF s18 (by kernel_rfl)) Tryd.func18 (by kernel_rfl) (by kernel_rfl) (Known.cons (.ofF s19 (by kernel_rfl)) Tryd.func19 (by kernel_rfl) (by kernel_rfl) (Known.cons (.ofF s20 (by kernel_rfl)) Tryd.func20 (by kernel_rfl) (by kernel_rfl) (Known.nil))))))) Tryd.func4 (by kernel_rfl) (Nat.le_of_ble_eq_true (by kernel_rfl)) rfl

/-! reredos/coord.task -/
def sg88 : Sig := ⟨[⟨true, .bo, E_45⟩, ⟨true, .bo, E_42⟩], [⟨false, .own, .bool⟩]⟩
noncomputable def r88 (a : (T_32 × (Bool × (Int × (Int × (Int × (Int × (Int × (Bool × Bool))))))))) : Option Bool :=
 Option.bind (
 Option.bind (
 bif !(decide (a.2.2.1 < (0 : Int))) then
 some (decide ((↑a.1.2.1.length : Int) ≤ a.2.2.1))
 else
 some true) fun (g17 : Bool) =>
 Option.bind (
 bif !(g17) then
 some (decide (a.2.2.2.1 < (0 : Int)))
 else
 some true) fun (g18 : Bool) =>
 Option.bind (
 bif !(g18) then
 some (decide ((8 : Int) ≤ a.2.2.2.1))
 else
 some true) fun (g19 : Bool) =>
 Option.bind (
 bif !(g19) then
 some (decide (a.2.2.2.2.1 < (0 : Int)))
 else
 some true) fun (g20 : Bool) =>
 Option.bind (
 bif !(g20) then
 some (decide ((1073741824 : Int) < a.2.2.2.2.1))
 else
 some true) fun (g21 : Bool) =>
 Option.bind (
 bif !(g21) then
 some (decide (a.2.2.2.2.2.1 < (0 : Int)))
 else
 some true) fun (g22 : Bool) =>
 Option.bind (
 bif !(g22) then
 some (decide ((1048576 : Int) < a.2.2.2.2.2.1))
 else
 some true) fun (g23 : Bool) =>
 Option.bind (
 bif !(g23) then
 some (decide (a.2.2.2.2.2.2.1 < (1 : Int)))
 else
 some true) fun (g24 : Bool) =>
 bif !(g24) then
 some (decide ((1048576 : Int) < a.2.2.2.2.2.2.1))
 else
 some true) fun (d25 : Bool) =>
 bif d25 then
 some false
 else
 bif !(a.2.2.2.2.2.2.2.1) then
 bif !(a.2.2.2.2.2.2.2.2) then
 bif !(a.2.1) then
 some (decide ((Go.IntKind.wrap .i64 (a.2.2.2.2.1 + a.2.2.2.2.2.1)) = (0 : Int)))
 else
 some true
 else
 some false
 else
 some true
def an88 : Ann := .two (.leaf) (.two (.two (.join [3] [3] [⟨.normal, [], [.tmp 55 (.bool)]⟩] (.segs [(11, ([3], ([3], [.tmp 15 (.bool)]))), (5, ([3], ([3], [.tmp 20 (.bool)]))), (5, ([3], ([3], [.tmp 25 (.bool)]))), (5, ([3], ([3], [.tmp 30 (.bool)]))), (5, ([3], ([3], [.tmp 35 (.bool)]))), (5, ([3], ([3], [.tmp 40 (.bool)]))), (5, ([3], ([3], [.tmp 45 (.bool)]))), (5, ([3], ([3], [.tmp 50 (.bool)])))])) (.two (.two (.leaf) (.leaf)) (.leaf))) (.two (.leaf) (.leaf)))
theorem s88 : SoundF cx.P cx.G 88 sg88 r88 := by
  have e : denF cx [] an88 Tryd.f88.ntmps (Tryd.f88.body.getD .skip) Tryd.f88.results.toList sg88 = r88 := by kernel_rfl
  rw [← e]
  exact sound_of_den (c := cx) (Known.nil) Tryd.func88 (by kernel_rfl) (Nat.le_of_ble_eq_true (by kernel_rfl)) rfl

/-! reredos/coord.job -/
noncomputable def r48_L0 (a : T_18) (d23 : Int) : Option (Int ⊕ (Unit ⊕ Bool)) :=
 bif decide (d23 < (↑a.2.2.2.2.1.length : Int)) then
 Option.bind (idxI a.2.2.2.2.1 d23) fun (b24 : (Bool × (Int × (Int × (Int × (Int × (Int × (Bool × Bool)))))))) =>
 Option.bind (
 Option.bind (r88 (a.1, b24)) fun (y35 : Bool) =>
 bif !(!(y35)) then
 bif !(decide (a.2.2.2.2.2.2.1 < b24.2.2.2.2.2.1)) then
 bif decide ((0 : Int) < d23) then
 Option.bind (idxI a.2.2.2.2.1 (Go.IntKind.wrap .i64 (d23 - (1 : Int)))) fun (b36 : (Bool × (Int × (Int × (Int × (Int × (Int × (Bool × Bool)))))))) =>
 bif !(decide (b24.2.2.2.2.2.1 ≤ b36.2.2.2.2.2.1)) then
 bif !(b24.2.2.2.2.2.2.1) then
 bif !(decide (d23 < (Go.IntKind.wrap .i64 ((↑a.2.2.2.2.1.length : Int) - (1 : Int))))) then
 bif !(b24.2.2.2.2.2.2.1) then
 some (!(decide (a.2.2.2.1 = (1 : Int))))
 else
 some false
 else
 some true
 else
 bif !(b24.2.2.2.2.2.2.1) then
 some (!(decide (a.2.2.2.1 = (1 : Int))))
 else
 some false
 else
 some true
 else
 bif !(b24.2.2.2.2.2.2.1) then
 bif !(decide (d23 < (Go.IntKind.wrap .i64 ((↑a.2.2.2.2.1.length : Int) - (1 : Int))))) then
 bif !(b24.2.2.2.2.2.2.1) then
 some (!(decide (a.2.2.2.1 = (1 : Int))))
 else
 some false
 else
 some true
 else
 bif !(b24.2.2.2.2.2.2.1) then
 some (!(decide (a.2.2.2.1 = (1 : Int))))
 else
 some false
 else
 some true
 else
 some true) fun (d37 : Bool) =>
 bif d37 then
 some (Sum.inr (Sum.inr false))
 else
 some (Sum.inl (Go.IntKind.wrap .i64 (d23 + (1 : Int))))
 else
 some (Sum.inr (Sum.inl ()))
noncomputable def r48_L1 (a : T_18) (d41 : Int) : Option (Int ⊕ (Unit ⊕ Bool)) :=
 bif decide (d41 < (↑a.2.2.2.2.2.1.length : Int)) then
 Option.bind (idxI a.2.2.2.2.2.1 d41) fun (b42 : Int) =>
 Option.bind (
 Option.bind (
 bif !(decide (b42 < (0 : Int))) then
 some (decide (a.1.1 ≤ b42))
 else
 some true) fun (g47 : Bool) =>
 bif !(g47) then
 bif decide ((0 : Int) < d41) then
 Option.bind (idxI a.2.2.2.2.2.1 (Go.IntKind.wrap .i64 (d41 - (1 : Int)))) fun (b48 : Int) =>
 some (decide (b42 ≤ b48))
 else
 some false
 else
 some true) fun (d49 : Bool) =>
 bif d49 then
 some (Sum.inr (Sum.inr false))
 else
 some (Sum.inl (Go.IntKind.wrap .i64 (d41 + (1 : Int))))
 else
 some (Sum.inr (Sum.inl ()))
def sg48 : Sig := ⟨[⟨true, .bo, E_45⟩, ⟨true, .bo, E_38⟩, ⟨true, .bo, (.pair (.int .i64) (.pair (.int .i64) (.pair (.sl E_42) (.pair (.sl (.int .i64)) (.pair (.int .i64) (.int .i64))))))⟩], [⟨false, .own, .bool⟩]⟩
noncomputable def r48 (a : T_18) : Option Bool :=
 Option.bind (
 Option.bind (
 bif !(decide (a.2.2.1 < (1 : Int))) then
 some (decide (a.2.1.1 ≤ a.2.2.1))
 else
 some true) fun (g15 : Bool) =>
 Option.bind (
 bif !(g15) then
 some (decide (a.2.2.2.2.2.2.2 < (0 : Int)))
 else
 some true) fun (g16 : Bool) =>
 Option.bind (
 bif !(g16) then
 some (decide ((1048576 : Int) < a.2.2.2.2.2.2.2))
 else
 some true) fun (g17 : Bool) =>
 Option.bind (
 bif !(g17) then
 some (decide (a.2.2.2.1 < (1 : Int)))
 else
 some true) fun (g18 : Bool) =>
 Option.bind (
 bif !(g18) then
 some (decide ((3 : Int) < a.2.2.2.1))
 else
 some true) fun (g19 : Bool) =>
 Option.bind (
 bif !(g19) then
 some (decide ((10 : Int) < (↑a.2.2.2.2.1.length : Int)))
 else
 some true) fun (g20 : Bool) =>
 Option.bind (
 bif !(g20) then
 some (decide (a.2.2.2.2.2.2.1 < (0 : Int)))
 else
 some true) fun (g21 : Bool) =>
 bif !(g21) then
 some (decide ((1048576 : Int) < a.2.2.2.2.2.2.1))
 else
 some true) fun (d22 : Bool) =>
 bif d22 then
 some false
 else
 Option.bind (loopR (r48_L0 a) (0 : Int)) fun (q38 : (Unit ⊕ Bool)) =>
 Sum.elim (fun (_ : Unit) =>
 Option.bind (loopR (r48_L1 a) (0 : Int)) fun (q50 : (Unit ⊕ Bool)) =>
 Sum.elim (fun (_ : Unit) =>
 some (decide (decide (a.2.2.2.1 = (3 : Int)) = decide ((0 : Int) < (↑a.2.2.2.2.2.1.length : Int)))))
 (fun (v52 : Bool) =>
 some v52) q50)
 (fun (v40 : Bool) =>
 some v40) q38
def an48 : Ann := .two (.leaf) (.two (.two (.join [3, 5] [3, 5] [⟨.normal, [], [.tmp 56 (.bool)]⟩] (.segs [(10, ([3, 5], ([3, 5], [.tmp 20 (.bool)]))), (5, ([3, 5], ([3, 5], [.tmp 25 (.bool)]))), (5, ([3, 5], ([3, 5], [.tmp 30 (.bool)]))), (5, ([3, 5], ([3, 5], [.tmp 35 (.bool)]))), (5, ([3, 5], ([3, 5], [.tmp 40 (.bool)]))), (6, ([3, 5], ([3, 5], [.tmp 46 (.bool)]))), (5, ([3, 5], ([3, 5], [.tmp 51 (.bool)])))])) (.two (.two (.leaf) (.leaf)) (.leaf))) (.two (.two (.leaf) (.one (.loop [3, 5, 58, 59] [3, 5] [] [.tmp 60 (.int .i64)] [⟨.exit 0, [], []⟩, ⟨.ret, [], [.tmp 6 (.bool)]⟩] (.two (.leaf) (.two (.two (.leaf) (.leaf)) (.two (.one (.two (.leaf) (.two (.join [3, 5, 58, 59, 60] [3, 5] [⟨.normal, [], [.tmp 114 (.bool)]⟩] (.draw 37)) (.two (.two (.leaf) (.leaf)) (.leaf))))) (.leaf))))))) (.two (.two (.leaf) (.one (.loop [3, 5, 117, 118] [3, 5] [] [.tmp 119 (.int .i64)] [⟨.exit 2, [], []⟩, ⟨.ret, [], [.tmp 6 (.bool)]⟩] (.two (.leaf) (.two (.two (.leaf) (.leaf)) (.two (.one (.two (.leaf) (.two (.join [3, 5, 117, 118, 119] [3, 5] [⟨.normal, [], [.tmp 145 (.bool)]⟩] (.segs [(8, ([3, 5, 9, 10, 117, 118, 119], ([3, 5], [.tmp 131 (.bool)])))])) (.two (.two (.leaf) (.leaf)) (.leaf))))) (.leaf))))))) (.two (.leaf) (.leaf)))))
theorem s48 : SoundF cx.P cx.G 48 sg48 r48 := by
  have e : denF cx [(88, ⟨sg88, r88⟩)] an48 Tryd.f48.ntmps (Tryd.f48.body.getD .skip) Tryd.f48.results.toList sg48 = r48 := by kernel_rfl
  rw [← e]
  exact sound_of_den (c := cx) (Known.cons (.ofF s88 (by kernel_rfl)) Tryd.func88 (by kernel_rfl) (by kernel_rfl) (Known.nil)) Tryd.func48 (by kernel_rfl) (Nat.le_of_ble_eq_true (by kernel_rfl)) rfl

/-! reredos/coord.Check -/
noncomputable def r22_L0 (a : (T_32 × T_27)) (d6 : Int) : Option (Int ⊕ (Unit ⊕ Int)) :=
 bif decide (d6 < (↑a.2.2.length : Int)) then
 Option.bind (idxI a.2.2 d6) fun (b7 : T_29) =>
 Option.bind (
 Option.bind (r48 (a.1, a.2, b7)) fun (y18 : Bool) =>
 bif !(!(y18)) then
 bif decide ((0 : Int) < d6) then
 Option.bind (idxI a.2.2 (Go.IntKind.wrap .i64 (d6 - (1 : Int)))) fun (b19 : T_29) =>
 some (decide (b7.1 ≤ b19.1))
 else
 some false
 else
 some true) fun (d20 : Bool) =>
 bif d20 then
 some (Sum.inr (Sum.inr (9 : Int)))
 else
 some (Sum.inl (Go.IntKind.wrap .i64 (d6 + (1 : Int))))
 else
 some (Sum.inr (Sum.inl ()))
def sg22 : Sig := ⟨[⟨true, .bo, E_45⟩, ⟨true, .bo, E_38⟩], [⟨false, .own, (.int .i64)⟩]⟩
noncomputable def r22 (a : (T_32 × T_27)) : Option Int :=
 Option.bind (r34 a.1) fun (y1 : Int) =>
 bif !(decide (y1 = (0 : Int))) then
 some y1
 else
 Option.bind (
 Option.bind (
 bif !(decide (a.2.1 < (1 : Int))) then
 some (decide ((1048577 : Int) < a.2.1))
 else
 some true) fun (g4 : Bool) =>
 bif !(g4) then
 some (decide ((6 : Int) < (↑a.2.2.length : Int)))
 else
 some true) fun (d5 : Bool) =>
 bif d5 then
 some (9 : Int)
 else
 Option.bind (loopR (r22_L0 a) (0 : Int)) fun (q21 : (Unit ⊕ Int)) =>
 Sum.elim (fun (_ : Unit) =>
 some (0 : Int))
 (fun (v23 : Int) =>
 some v23) q21
def an22 : Ann := .two (.leaf) (.two (.two (.leaf) (.two (.leaf) (.two (.two (.leaf) (.leaf)) (.leaf)))) (.two (.two (.join [2, 3] [2, 3] [⟨.normal, [], [.tmp 26 (.bool)]⟩] (.segs [(8, ([2, 3], ([2, 3], [.tmp 20 (.bool)])))])) (.two (.two (.leaf) (.leaf)) (.leaf))) (.two (.two (.leaf) (.one (.loop [2, 3, 28, 29] [2, 3] [] [.tmp 30 (.int .i64)] [⟨.exit 0, [], []⟩, ⟨.ret, [], [.tmp 4 (.int .i64)]⟩] (.two (.leaf) (.two (.two (.leaf) (.leaf)) (.two (.one (.two (.leaf) (.two (.join [2, 3, 28, 29, 30] [2, 3] [⟨.normal, [], [.tmp 55 (.bool)]⟩] (.draw 18)) (.two (.two (.leaf) (.leaf)) (.leaf))))) (.leaf))))))) (.two (.leaf) (.leaf)))))
theorem s22 : SoundF cx.P cx.G 22 sg22 r22 := by
  have e : denF cx [(34, ⟨sg34, r34⟩), (48, ⟨sg48, r48⟩)] an22 Tryd.f22.ntmps (Tryd.f22.body.getD .skip) Tryd.f22.results.toList sg22 = r22 := by kernel_rfl
  rw [← e]
  exact sound_of_den (c := cx) (Known.cons (.ofF s34 (by kernel_rfl)) Tryd.func34 (by kernel_rfl) (by kernel_rfl) (Known.cons (.ofF s48 (by kernel_rfl)) Tryd.func48 (by kernel_rfl) (by kernel_rfl) (Known.nil))) Tryd.func22 (by kernel_rfl) (Nat.le_of_ble_eq_true (by kernel_rfl)) rfl

/-! reredos/reredoskeep.sameInts -/
noncomputable def r23_L0 (a : (List Int × List Int)) (d1 : Int) : Option (Int ⊕ (Unit ⊕ Bool)) :=
 bif decide (d1 < (↑a.1.length : Int)) then
 Option.bind (idxI a.1 d1) fun (b4 : Int) =>
 Option.bind (idxI a.2 d1) fun (b5 : Int) =>
 bif !(decide (b4 = b5)) then
 some (Sum.inr (Sum.inr false))
 else
 some (Sum.inl (Go.IntKind.wrap .i64 (d1 + (1 : Int))))
 else
 some (Sum.inr (Sum.inl ()))
def sg23 : Sig := ⟨[⟨false, .bo, (.sl (.int .i64))⟩, ⟨false, .bo, (.sl (.int .i64))⟩], [⟨false, .own, .bool⟩]⟩
noncomputable def r23 (a : (List Int × List Int)) : Option Bool :=
 bif !(decide ((↑a.1.length : Int) = (↑a.2.length : Int))) then
 some false
 else
 Option.bind (loopR (r23_L0 a) (0 : Int)) fun (q6 : (Unit ⊕ Bool)) =>
 Sum.elim (fun (_ : Unit) =>
 some true)
 (fun (v8 : Bool) =>
 some v8) q6
def an23 : Ann := .two (.leaf) (.two (.two (.leaf) (.two (.two (.leaf) (.leaf)) (.leaf))) (.two (.two (.leaf) (.one (.loop [0, 1] [] [] [.tmp 5 (.int .i64)] [⟨.exit 0, [], []⟩, ⟨.ret, [], [.tmp 4 (.bool)]⟩] (.two (.two (.leaf) (.two (.leaf) (.leaf))) (.two (.one (.two (.draw 8) (.two (.two (.leaf) (.leaf)) (.leaf)))) (.leaf)))))) (.two (.leaf) (.leaf))))
theorem s23 : SoundF cx.P cx.G 23 sg23 r23 := by
  have e : denF cx [] an23 Tryd.f23.ntmps (Tryd.f23.body.getD .skip) Tryd.f23.results.toList sg23 = r23 := by kernel_rfl
  rw [← e]
  exact sound_of_den (c := cx) (Known.nil) Tryd.func23 (by kernel_rfl) (Nat.le_of_ble_eq_true (by kernel_rfl)) rfl

/-! reredos/reredoskeep.RebuildDesk -/
def sg5 : Sig := ⟨[⟨false, .bo, (.int .i64)⟩, ⟨false, .bo, (.int .i64)⟩, ⟨false, .bo, .bool⟩], [⟨false, .own, .bool⟩]⟩
noncomputable def r5 (a : (Int × (Int × Bool))) : Option Bool :=
 Option.bind (r18 (a.1, (50 : Int))) fun (y1 : Int) =>
 Option.bind (r21 (((3 : Int), ([((0 : Int), (0 : Int))], (2 : Int))), ((2 : Int), ((0 : Int), ((0 : Int), (a.2.1, ((0 : Int), (0 : Int)))))))) fun (y2 : T_30) =>
 Option.bind (
 bif a.2.2 then
 some ((), app [((5 : Int), (((0 : Int), (Go.IntKind.wrap .i64 ((1 : Int) + y1))), ((0 : Int), ((0 : Int), ((0 : Int), (false, [])))))), (y2.1, (((0 : Int), (Go.IntKind.wrap .i64 ((1 : Int) + y1))), y2.2.2))] [((4 : Int), (((0 : Int), (Go.IntKind.wrap .i64 ((1 : Int) + y1))), ((0 : Int), ((0 : Int), ((0 : Int), (false, []))))))])
 else
 some ((), [((5 : Int), (((0 : Int), (Go.IntKind.wrap .i64 ((1 : Int) + y1))), ((0 : Int), ((0 : Int), ((0 : Int), (false, [])))))), (y2.1, (((0 : Int), (Go.IntKind.wrap .i64 ((1 : Int) + y1))), y2.2.2))])) fun (d3 : (Unit × List (T_30))) =>
 Option.bind (r16 (((3 : Int), ([((0 : Int), (0 : Int))], (2 : Int))), (0 : Int), d3.2)) fun (y4 : T_13) =>
 Option.bind (r16 (((3 : Int), ([((0 : Int), (0 : Int))], (2 : Int))), (1 : Int), d3.2)) fun (y5 : T_13) =>
 Option.bind (
 Option.bind (
 bif !(!(decide (y4.2.2.2 = (0 : Int)))) then
 some (!(decide (y5.2.2.2 = (0 : Int))))
 else
 some true) fun (g16 : Bool) =>
 Option.bind (
 bif !(g16) then
 some (!(decide (y4.2.1.1 = (Go.IntKind.wrap .i64 ((Go.IntKind.wrap .i64 ((1 : Int) + y1)) + (1 : Int))))))
 else
 some true) fun (g17 : Bool) =>
 Option.bind (
 bif !(g17) then
 some (!(decide (y5.2.1.1 = (1 : Int))))
 else
 some true) fun (g18 : Bool) =>
 Option.bind (
 bif !(g18) then
 some (!(decide ((↑y5.2.1.2.length : Int) = (0 : Int))))
 else
 some true) fun (g19 : Bool) =>
 bif !(g19) then
 Option.bind (r22 (((3 : Int), ([((0 : Int), (0 : Int))], (2 : Int))), y4.2.1)) fun (y20 : Int) =>
 some (!(decide (y20 = (0 : Int))))
 else
 some true) fun (d21 : Bool) =>
 bif d21 then
 some false
 else
 Option.bind (
 bif !(a.2.2) then
 some (decide ((↑y2.2.2.2.2.2.2.length : Int) = (0 : Int)))
 else
 some true) fun (d22 : Bool) =>
 bif d22 then
 some (decide ((↑y4.2.1.2.length : Int) = (0 : Int)))
 else
 bif decide ((↑y4.2.1.2.length : Int) = (1 : Int)) then
 Option.bind (idxI y4.2.1.2 (0 : Int)) fun (b26 : T_29) =>
 bif decide (b26.2.1 = (3 : Int)) then
 Option.bind (idxI y4.2.1.2 (0 : Int)) fun (b27 : T_29) =>
 Option.bind (r23 (b27.2.2.2.1, y2.2.2.2.2.2.2)) fun (y28 : Bool) =>
 some y28
 else
 some false
 else
 some false
def an5 : Ann := .two (.leaf) (.two (.leaf) (.two (.leaf) (.two (.leaf) (.two (.leaf) (.two (.leaf) (.two (.join [2, 7, 8, 9] [7, 9] [⟨.normal, [(10, E_41)], [.tmp 10 (.own 10 [(0, 0)] E_41), .row 10 [.sl .own E_41]]⟩] (.two (.leaf) (.two (.leaf) (.leaf)))) (.two (.leaf) (.two (.leaf) (.two (.two (.join [2, 9, 12] [9, 12] [⟨.normal, [], [.tmp 89 (.bool)]⟩] (.segs [(6, ([2, 7, 8, 9, 12, 16], ([7, 9, 12, 16], [.tmp 65 (.bool)]))), (7, ([2, 7, 9, 12, 16], ([7, 9, 12, 16], [.tmp 72 (.bool)]))), (5, ([2, 7, 9, 12, 16], ([7, 9, 12, 16], [.tmp 77 (.bool)]))), (6, ([2, 7, 9, 12], ([7, 9, 12], [.tmp 83 (.bool)])))])) (.two (.two (.leaf) (.leaf)) (.leaf))) (.two (.two (.join [9, 12] [9, 12] [⟨.normal, [], [.tmp 96 (.bool)]⟩] (.leaf)) (.two (.two (.leaf) (.leaf)) (.leaf))) (.two (.draw 20) (.leaf))))))))))))
theorem s5 : SoundF cx.P cx.G 5 sg5 r5 := by
  have e : denF cx [(16, ⟨sg16, r16⟩), (18, ⟨sg18, r18⟩), (21, ⟨sg21, r21⟩), (22, ⟨sg22, r22⟩), (23, ⟨sg23, r23⟩)] an5 Tryd.f5.ntmps (Tryd.f5.body.getD .skip) Tryd.f5.results.toList sg5 = r5 := by kernel_rfl
  rw [← e]
  exact sound_of_den (c := cx) (Known.cons (.ofF s16 (by kernel_rfl)) Tryd.func16 (by kernel_rfl) (by kernel_rfl) (Known.cons (.ofF s18 (by kernel_rfl)) Tryd.func18 (by kernel_rfl) (by kernel_rfl) (Known.cons (.ofF s21 (by kernel_rfl)) Tryd.func21 (by kernel_rfl) (by kernel_rfl) (Known.cons (.ofF s22 (by kernel_rfl)) Tryd.func22 (by kernel_rfl) (by kernel_rfl) (Known.cons (.ofF s23 (by kernel_rfl)) Tryd.func23 (by kernel_rfl) (by kernel_rfl) (Known.nil)))))) Tryd.func5 (by kernel_rfl) (Nat.le_of_ble_eq_true (by kernel_rfl)) rfl

/-! reredos/reredoskeep.RebuildGood -/
def sg6 : Sig := ⟨[⟨false, .bo, (.int .i64)⟩, ⟨false, .bo, (.sl E_43)⟩, ⟨false, .bo, (.int .i64)⟩], [⟨false, .own, .bool⟩]⟩
noncomputable def r6 (a : (Int × (List ((Int × (Int × (Int × (Int × (Int × Int)))))) × Int))) : Option Bool :=
 Option.bind (r13 a.1) fun (y1 : T_32) =>
 Option.bind (r18 (a.2.2, y1.1)) fun (y2 : Int) =>
 Option.bind (
 Option.bind (r15 (y1, a.2.1, (40 : Int))) fun (y11 : List (T_30)) =>
 Option.bind (r16 (y1, y2, y11)) fun (y12 : T_13) =>
 
 some ((), ((), (y12.2.2.2, (y12.1, y12.2.1))))) fun (d13 : T_16) =>
 Option.bind (r16 (y1, y1.1, [])) fun (y14 : T_13) =>
 Option.bind (
 bif decide (d13.2.2.1 = (0 : Int)) then
 some (decide (y14.2.2.2 = (2 : Int)))
 else
 some false) fun (g15 : Bool) =>
 Option.bind (
 bif g15 then
 Option.bind (r24 d13.2.2.2.1) fun (y16 : Int) =>
 some (decide (y16 = (0 : Int)))
 else
 some false) fun (g17 : Bool) =>
 bif g17 then
 Option.bind (r22 (y1, d13.2.2.2.2)) fun (y18 : Int) =>
 some (decide (y18 = (0 : Int)))
 else
 some false
noncomputable def r6q : (Int × (List ((Int × (Int × (Int × (Int × (Int × Int)))))) × Int)) → Option Bool := fun a =>
 Option.bind (r13 a.1) fun (y1 : T_32) =>
 Option.bind (r18 (a.2.2, y1.1)) fun (y2 : Int) =>
 Option.bind (
 Option.bind (r15 (y1, a.2.1, (40 : Int))) fun (y11 : List (T_30)) =>
 Option.bind (r16 (y1, y2, y11)) fun (y12 : T_13) =>
 sameR (
 some ((), ((), (y12.2.2.2, (y12.1, y12.2.1)))))
 (
 sameR (
 sameR (
 some ((), ((), (y12.2.2.2, (y12.1, y12.2.1)))))
 (
 sameR (
 some ((), ((), (y12.2.2.2, (y12.1, y12.2.1)))))
 (
 some ((), ((), (y12.2.2.2, (y12.1, y12.2.1)))))))
 (
 sameR (
 sameR (
 some ((), ((), (y12.2.2.2, (y12.1, y12.2.1)))))
 (
 some ((), ((), (y12.2.2.2, (y12.1, y12.2.1))))))
 (
 sameR (
 sameR (
 some ((), ((), (y12.2.2.2, (y12.1, y12.2.1)))))
 (
 sameR (
 sameR (
 some ((), ((), (y12.2.2.2, (y12.1, y12.2.1)))))
 (
 some ((), ((), (y12.2.2.2, (y12.1, y12.2.1))))))
 (
 sameR (
 some ((), ((), (y12.2.2.2, (y12.1, y12.2.1)))))
 (
 sameR (
 some ((), ((), (y12.2.2.2, (y12.1, y12.2.1)))))
 (
 some ((), ((), (y12.2.2.2, (y12.1, y12.2.1)))))))))
 (
 sameR (
 some ((), ((), (y12.2.2.2, (y12.1, y12.2.1)))))
 (
 sameR (
 sameR (
 some ((), ((), (y12.2.2.2, (y12.1, y12.2.1)))))
 (
 sameR (
 some ((), ((), (y12.2.2.2, (y12.1, y12.2.1)))))
 (
 some ((), ((), (y12.2.2.2, (y12.1, y12.2.1)))))))
 (
 sameR (
 sameR (
 some ((), ((), (y12.2.2.2, (y12.1, y12.2.1)))))
 (
 some ((), ((), (y12.2.2.2, (y12.1, y12.2.1))))))
 (
 sameR (
 some ((), ((), (y12.2.2.2, (y12.1, y12.2.1)))))
 (
 sameR (
 sameR (
 some ((), ((), (y12.2.2.2, (y12.1, y12.2.1)))))
 (
 some ((), ((), (y12.2.2.2, (y12.1, y12.2.1))))))
 (
 sameR (
 some ((), ((), (y12.2.2.2, (y12.1, y12.2.1)))))
 (
 sameR (
 some ((), ((), (y12.2.2.2, (y12.1, y12.2.1)))))
 (
 some ((), ((), (y12.2.2.2, (y12.1, y12.2.1)))))))))))))))) fun (d13 : T_16) =>
 Option.bind (r16 (y1, y1.1, [])) fun (y14 : T_13) =>
 Option.bind (
 bif decide (d13.2.2.1 = (0 : Int)) then
 some (decide (y14.2.2.2 = (2 : Int)))
 else
 some false) fun (g15 : Bool) =>
 Option.bind (
 bif g15 then
 Option.bind (r24 d13.2.2.2.1) fun (y16 : Int) =>
 some (decide (y16 = (0 : Int)))
 else
 some false) fun (g17 : Bool) =>
 bif g17 then
 Option.bind (r22 (y1, d13.2.2.2.2)) fun (y18 : Int) =>
 some (decide (y18 = (0 : Int)))
 else
 some false
theorem r6e : r6q = r6 := by unfold r6q r6; simp only [sameR_self]
def an6 : Ann := .two (.leaf) (.two (.leaf) (.two (.leaf) (.two (.join [7] [7] [⟨.normal, [], [.tmp 9 (.pt 9 [(0, 0)] 0 0 4), .tmp 10 (.pt 10 [(0, 0)] 0 0 2), .tmp 12 (.int .i64), .box 9 [.sl .ro E_47, .sl .ro E_44, .sl .ro E_48, .sl .ro (.pair (.int .i64) (.int .i64))], .box 10 [.int .i64, .sl .ro E_40]]⟩] (.stages [0, 1, 2, 3, 4, 5, 6, 7, 8, 9, 10, 11, 12])) (.two (.leaf) (.two (.segs [(6, ([7, 9, 10], ([7, 9, 10], [.tmp 48 (.bool)]))), (5, ([7, 10], ([7, 10], [.tmp 53 (.bool)])))]) (.leaf))))))
theorem s6 : SoundF cx.P cx.G 6 sg6 r6 := by
  have e : denF cx [(13, ⟨sg13, r13⟩), (15, ⟨sg15, r15⟩), (16, ⟨sg16, r16⟩), (18, ⟨sg18, r18⟩), (22, ⟨sg22, r22⟩), (24, ⟨sg24, r24⟩)] an6 Tryd.f6.ntmps (Tryd.f6.body.getD .skip) Tryd.f6.results.toList sg6 = r6q := by kernel_rfl
  rw [← r6e, ← e]
  exact sound_of_den (c := cx) (Known.cons (.ofF s13 (by kernel_rfl)) Tryd.func13 (by kernel_rfl) (by kernel_rfl) (Known.cons (.ofF s15 (by kernel_rfl)) Tryd.func15 (by kernel_rfl) (by kernel_rfl) (Known.cons (.ofF s16 (by kernel_rfl)) Tryd.func16 (by kernel_rfl) (by kernel_rfl) (Known.cons (.ofF s18 (by kernel_rfl)) Tryd.func18 (by kernel_rfl) (by kernel_rfl) (Known.cons (.ofF s22 (by kernel_rfl)) Tryd.func22 (by kernel_rfl) (by kernel_rfl) (Known.cons (.ofF s24 (by kernel_rfl)) Tryd.func24 (by kernel_rfl) (by kernel_rfl) (Known.nil))))))) Tryd.func6 (by kernel_rfl) (Nat.le_of_ble_eq_true (by kernel_rfl)) rfl

end Go.Hr
