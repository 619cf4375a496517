import Derived.Test.YtlfcemfcgmidlaaDoorHvFive
namespace Go.Hv
open Go.RowKit Go.Proofs Go.V Go.Proofs
noncomputable def r45_L0 (x757:T_58) (a:T_25) (d758:Int):Option (Int ⊕ (Unit ⊕ Int)) :=
 bif decide (d758<(↑x757.2.2.2.1.length:Int)) then
 Option.bind (idxN a.1.2.2.2.1.2 (Int.toNat a.2.1)) fun (x759:T_58) =>
 bif inB d758 x759.2.2.2.1.length then
 Option.bind (idxN a.1.2.2.2.1.2 (Int.toNat a.2.1)) fun (x760:T_58) =>
 Option.bind (idxN x760.2.2.2.1 (Int.toNat d758)) fun (x761:Int) =>
 bif decide (x761=a.2.2.2.1) then
 some (Sum.inr (Sum.inr d758))
 else
 some (Sum.inl (Go.IntKind.wrap .i64 (d758+(1:Int))))
 else
 none
 else
 some (Sum.inr (Sum.inl ()))
noncomputable def r45_L1 (a:T_25) (d787:T_21):Option (T_21 ⊕ T_23) :=
 Option.bind (idxN d787.2.2.2.2.2.2.2.2.2.2.2.2.1 d787.2.2.2.1.2.2.1) fun (x788:T_58) =>
 bif decide (d787.2.2.2.2.2.1<(↑x788.2.2.2.1.length:Int)) then
 Option.bind (
 Option.bind (idxN d787.2.2.2.2.2.2.2.2.2.2.2.2.1 d787.2.2.2.1.2.2.1) fun (x801:T_58) =>
 bif inB d787.2.2.2.2.2.1 x801.2.2.2.1.length then
 Option.bind (idxN d787.2.2.2.2.2.2.2.2.2.2.2.2.1 d787.2.2.2.1.2.2.1) fun (x802:T_58) =>
 Option.bind (idxN x802.2.2.2.1 (Int.toNat d787.2.2.2.2.2.1)) fun (x803:Int) =>
 bif !(decide (x803=a.2.2.2.1)) then
 Option.bind (idxN d787.2.2.2.2.2.2.2.2.2.2.2.2.1 d787.2.2.2.1.2.2.1) fun (x804:T_58) =>
 bif inB d787.2.2.2.2.1 x804.2.2.2.1.length then
 Option.bind (idxN d787.2.2.2.2.2.2.2.2.2.2.2.2.1 d787.2.2.2.1.2.2.1) fun (x805:T_58) =>
 Option.bind (idxN x805.2.2.2.1 (Int.toNat d787.2.2.2.2.1)) fun (_:Int) =>
 some ((),((((),((),())),d787.2.1.2),((((),((),())),d787.2.2.1.2),(((),((),(d787.2.2.2.1.2.2.1,()))),((Go.IntKind.wrap .i64 (d787.2.2.2.2.1+(1:Int))),(d787.2.2.2.2.2.2.1,(d787.2.2.2.2.2.2.2.1,(d787.2.2.2.2.2.2.2.2.1,(d787.2.2.2.2.2.2.2.2.2.1,(d787.2.2.2.2.2.2.2.2.2.2.1,(d787.2.2.2.2.2.2.2.2.2.2.2.1,(List.set d787.2.2.2.2.2.2.2.2.2.2.2.2.1 d787.2.2.2.1.2.2.1 (x805.1,(x805.2.1,(x805.2.2.1,(List.set x805.2.2.2.1 (Int.toNat d787.2.2.2.2.1) x803,x805.2.2.2.2)))),d787.2.2.2.2.2.2.2.2.2.2.2.2.2))))))))))))
 else
 none
 else
 some ((),((((),((),())),d787.2.1.2),((((),((),())),d787.2.2.1.2),(((),((),(d787.2.2.2.1.2.2.1,()))),(d787.2.2.2.2.1,d787.2.2.2.2.2.2)))))
 else
 none) fun (d807:T_23) =>
 some (Sum.inl ((),((((),((),())),d807.2.1.2),((((),((),())),d807.2.2.1.2),(((),((),(d807.2.2.2.1.2.2.1,()))),(d807.2.2.2.2.1,((Go.IntKind.wrap .i64 (d787.2.2.2.2.2.1+(1:Int))),d807.2.2.2.2.2)))))))
 else
 some (Sum.inr ((),((((),((),())),d787.2.1.2),((((),((),())),d787.2.2.1.2),(((),((),(d787.2.2.2.1.2.2.1,()))),(d787.2.2.2.2.1,d787.2.2.2.2.2.2))))))
noncomputable def r45_L0q (x757:T_58) (a:T_25):Int→Option (Int ⊕ (Unit ⊕ Int)):=fun d758 =>
 bif decide (d758<(↑x757.2.2.2.1.length:Int)) then
 Option.bind (idxN a.1.2.2.2.1.2 (Int.toNat a.2.1)) fun (x759:T_58) =>
 bif inB d758 x759.2.2.2.1.length then
 Option.bind (idxN a.1.2.2.2.1.2 (Int.toNat a.2.1)) fun (x760:T_58) =>
 Option.bind (idxN x760.2.2.2.1 (Int.toNat d758)) fun (x761:Int) =>
 bif decide (x761=a.2.2.2.1) then
 some (Sum.inr (Sum.inr d758))
 else
 some (Sum.inl (Go.IntKind.wrap .i64 (d758+(1:Int))))
 else
 none
 else
 some (Sum.inr (Sum.inl ()))
theorem r45_L0e (x757:T_58) (a:T_25):r45_L0q x757 a=r45_L0 x757 a:=by unfold r45_L0q r45_L0; rfl
noncomputable def r45_L1q (a:T_25):T_21→Option (T_21 ⊕ T_23):=fun d787 =>
 Option.bind (idxN d787.2.2.2.2.2.2.2.2.2.2.2.2.1 d787.2.2.2.1.2.2.1) fun (x788:T_58) =>
 bif decide (d787.2.2.2.2.2.1<(↑x788.2.2.2.1.length:Int)) then
 Option.bind (
 Option.bind (idxN d787.2.2.2.2.2.2.2.2.2.2.2.2.1 d787.2.2.2.1.2.2.1) fun (x801:T_58) =>
 bif inB d787.2.2.2.2.2.1 x801.2.2.2.1.length then
 Option.bind (idxN d787.2.2.2.2.2.2.2.2.2.2.2.2.1 d787.2.2.2.1.2.2.1) fun (x802:T_58) =>
 Option.bind (idxN x802.2.2.2.1 (Int.toNat d787.2.2.2.2.2.1)) fun (x803:Int) =>
 bif !(decide (x803=a.2.2.2.1)) then
 Option.bind (idxN d787.2.2.2.2.2.2.2.2.2.2.2.2.1 d787.2.2.2.1.2.2.1) fun (x804:T_58) =>
 bif inB d787.2.2.2.2.1 x804.2.2.2.1.length then
 Option.bind (idxN d787.2.2.2.2.2.2.2.2.2.2.2.2.1 d787.2.2.2.1.2.2.1) fun (x805:T_58) =>
 Option.bind (idxN x805.2.2.2.1 (Int.toNat d787.2.2.2.2.1)) fun (_:Int) =>
 some ((),((((),((),())),d787.2.1.2),((((),((),())),d787.2.2.1.2),(((),((),(d787.2.2.2.1.2.2.1,()))),((Go.IntKind.wrap .i64 (d787.2.2.2.2.1+(1:Int))),(d787.2.2.2.2.2.2.1,(d787.2.2.2.2.2.2.2.1,(d787.2.2.2.2.2.2.2.2.1,(d787.2.2.2.2.2.2.2.2.2.1,(d787.2.2.2.2.2.2.2.2.2.2.1,(d787.2.2.2.2.2.2.2.2.2.2.2.1,(List.set d787.2.2.2.2.2.2.2.2.2.2.2.2.1 d787.2.2.2.1.2.2.1 (x805.1,(x805.2.1,(x805.2.2.1,(List.set x805.2.2.2.1 (Int.toNat d787.2.2.2.2.1) x803,x805.2.2.2.2)))),d787.2.2.2.2.2.2.2.2.2.2.2.2.2))))))))))))
 else
 none
 else
 some ((),((((),((),())),d787.2.1.2),((((),((),())),d787.2.2.1.2),(((),((),(d787.2.2.2.1.2.2.1,()))),(d787.2.2.2.2.1,d787.2.2.2.2.2.2)))))
 else
 none) fun (d807:T_23) =>
 some (Sum.inl ((),((((),((),())),d807.2.1.2),((((),((),())),d807.2.2.1.2),(((),((),(d807.2.2.2.1.2.2.1,()))),(d807.2.2.2.2.1,((Go.IntKind.wrap .i64 (d787.2.2.2.2.2.1+(1:Int))),d807.2.2.2.2.2)))))))
 else
 some (Sum.inr ((),((((),((),())),d787.2.1.2),((((),((),())),d787.2.2.1.2),(((),((),(d787.2.2.2.1.2.2.1,()))),(d787.2.2.2.2.1,d787.2.2.2.2.2.2))))))
theorem r45_L1e (a:T_25):r45_L1q a=r45_L1 a:=by unfold r45_L1q r45_L1; rfl
def sg45:Sig:=⟨[⟨false,.own,E_65⟩,⟨false,.bo,(.int .i64)⟩,⟨true,.bo,E_73⟩],[⟨false,.own,E_65⟩]⟩
noncomputable def r45 (a:T_25):Option T_48 :=
 bif inB a.2.1 a.1.2.2.2.1.2.length then
 Option.bind (idxN a.1.2.2.2.1.2 (Int.toNat a.2.1)) fun (x1:T_58) =>
 bif !(decide (x1.2.1=(3:Int))) then
 some a.1
 else
 Option.bind (
 Option.bind (idxN a.1.2.2.2.1.2 (Int.toNat a.2.1)) fun (_:T_58) =>
 Option.bind (
 Option.bind (idxN a.1.2.2.2.1.2 (Int.toNat a.2.1)) fun (x757:T_58) =>
 Option.bind (loopR (r45_L0 x757 a) (0:Int)) fun (q762:(Unit ⊕ Int)) =>
 Sum.elim (fun (_:Unit) =>
 some (-1:Int))
 (fun (v764:Int) =>
 some v764) q762) fun (d765:Int) =>
 bif decide (d765=(-1:Int)) then
 Option.bind (idxN a.1.2.2.2.1.2 (Int.toNat a.2.1)) fun (x1105:T_58) =>
 Option.bind (idxN a.1.2.2.2.1.2 (Int.toNat a.2.1)) fun (_:T_58) =>
 bif Nat.beq (Int.toNat a.2.1) (Int.toNat a.2.1) then
 some ((),((((),((),())),(Int.toNat a.2.1)),(a.1.1.1,(a.1.1.2.1,(a.1.1.2.2,(a.1.2.1,(a.1.2.2.1,(a.1.2.2.2.1.1,(List.set a.1.2.2.2.1.2 (Int.toNat a.2.1) x1105,a.1.2.2.2.2)))))))))
 else
 none
 else
 Option.bind (loopR (r45_L1 a) ((),((((),((),())),(Int.toNat a.2.1)),((((),((),())),(Int.toNat a.2.1)),(((),((),((Int.toNat a.2.1),()))),(d765,((Go.IntKind.wrap .i64 (d765+(1:Int))),(a.1.1.1,(a.1.1.2.1,(a.1.1.2.2,(a.1.2.1,(a.1.2.2.1,(a.1.2.2.2.1.1,(a.1.2.2.2.1.2,a.1.2.2.2.2)))))))))))))) fun (q808:T_23) =>
 Option.bind (idxN q808.2.2.2.2.2.2.2.2.2.2.2.1 q808.2.2.2.1.2.2.1) fun (x809:T_58) =>
 bif okB (some q808.2.2.2.2.1) none none x809.2.2.2.1.length then
 Option.bind (idxN q808.2.2.2.2.2.2.2.2.2.2.2.1 q808.2.2.2.1.2.2.1) fun (x810:T_58) =>
 Option.bind (idxN q808.2.2.2.2.2.2.2.2.2.2.2.1 q808.2.2.2.1.2.2.1) fun (_:T_58) =>
 bif Nat.beq q808.2.2.2.1.2.2.1 q808.2.2.2.1.2.2.1 then
 bif Nat.beq q808.2.2.2.1.2.2.1 q808.2.2.2.1.2.2.1 then
 bif Nat.beq q808.2.2.2.1.2.2.1 q808.2.2.2.1.2.2.1 then
 bif Nat.beq q808.2.2.2.1.2.2.1 q808.2.2.2.1.2.2.1 then
 Option.bind (idxN (List.set q808.2.2.2.2.2.2.2.2.2.2.2.1 q808.2.2.2.1.2.2.1 (x810.1,(x810.2.1,(x810.2.2.1,(app (List.take (Int.toNat q808.2.2.2.2.1) x810.2.2.2.1) (app (List.replicate (x809.2.2.2.1.length - (Int.toNat q808.2.2.2.2.1)) (0:Int)) (List.drop ((Int.toNat q808.2.2.2.2.1)+(x809.2.2.2.1.length - (Int.toNat q808.2.2.2.2.1))) x810.2.2.2.1)),x810.2.2.2.2))))) q808.2.2.2.1.2.2.1) fun (x812:T_58) =>
 bif okB none (some q808.2.2.2.2.1) none x812.2.2.2.1.length then
 Option.bind (idxN (List.set q808.2.2.2.2.2.2.2.2.2.2.2.1 q808.2.2.2.1.2.2.1 (x810.1,(x810.2.1,(x810.2.2.1,(app (List.take (Int.toNat q808.2.2.2.2.1) x810.2.2.2.1) (app (List.replicate (x809.2.2.2.1.length - (Int.toNat q808.2.2.2.2.1)) (0:Int)) (List.drop ((Int.toNat q808.2.2.2.2.1)+(x809.2.2.2.1.length - (Int.toNat q808.2.2.2.2.1))) x810.2.2.2.1)),x810.2.2.2.2))))) q808.2.2.2.1.2.2.1) fun (x1107:T_58) =>
 Option.bind (idxN (List.set q808.2.2.2.2.2.2.2.2.2.2.2.1 q808.2.2.2.1.2.2.1 (x810.1,(x810.2.1,(x810.2.2.1,(app (List.take (Int.toNat q808.2.2.2.2.1) x810.2.2.2.1) (app (List.replicate (x809.2.2.2.1.length - (Int.toNat q808.2.2.2.2.1)) (0:Int)) (List.drop ((Int.toNat q808.2.2.2.2.1)+(x809.2.2.2.1.length - (Int.toNat q808.2.2.2.2.1))) x810.2.2.2.1)),x810.2.2.2.2))))) q808.2.2.1.2) fun (_:T_58) =>
 bif Nat.beq q808.2.2.1.2 q808.2.2.2.1.2.2.1 then
 some ((),((((),((),())),q808.2.1.2),(q808.2.2.2.2.2.1,(q808.2.2.2.2.2.2.1,(q808.2.2.2.2.2.2.2.1,(q808.2.2.2.2.2.2.2.2.1,(q808.2.2.2.2.2.2.2.2.2.1,(q808.2.2.2.2.2.2.2.2.2.2.1,(List.set (List.set q808.2.2.2.2.2.2.2.2.2.2.2.1 q808.2.2.2.1.2.2.1 (x810.1,(x810.2.1,(x810.2.2.1,(app (List.take (Int.toNat q808.2.2.2.2.1) x810.2.2.2.1) (app (List.replicate (x809.2.2.2.1.length - (Int.toNat q808.2.2.2.2.1)) (0:Int)) (List.drop ((Int.toNat q808.2.2.2.2.1)+(x809.2.2.2.1.length - (Int.toNat q808.2.2.2.2.1))) x810.2.2.2.1)),x810.2.2.2.2))))) q808.2.2.1.2 (x1107.1,(x1107.2.1,(x1107.2.2.1,(midL x1107.2.2.2.1 0 (Int.toNat q808.2.2.2.2.1),x1107.2.2.2.2)))),q808.2.2.2.2.2.2.2.2.2.2.2.2)))))))))
 else
 none
 else
 none
 else
 none
 else
 none
 else
 none
 else
 none
 else
 none) fun (d1109:T_36) =>
 Option.bind (idxN d1109.2.2.2.2.2.2.2.2.1 d1109.2.1.2) fun (_:T_58) =>
 Option.bind (idxN d1109.2.2.2.2.2.2.2.2.1 d1109.2.1.2) fun (x1111:T_58) =>
 bif decide ((↑x1111.2.2.2.1.length:Int)=(0:Int)) then
 Option.bind (idxN d1109.2.2.2.2.2.2.2.2.1 d1109.2.1.2) fun (x1112:T_58) =>
 Option.bind (
 bif roomOk false d1109.2.2.2.2.2.2.2.2.2.2.1.length 1 80 then
 some ((),(d1109.2.2.1,(d1109.2.2.2.1,(d1109.2.2.2.2.1,(d1109.2.2.2.2.2.1,(d1109.2.2.2.2.2.2.1,(d1109.2.2.2.2.2.2.2.1,(d1109.2.2.2.2.2.2.2.2.1,(d1109.2.2.2.2.2.2.2.2.2.1,(app d1109.2.2.2.2.2.2.2.2.2.2.1 [((4:Int),((d1109.2.2.2.2.2.2.1,x1112.1),((0:Int),((0:Int),((0:Int),(false,[]))))))],d1109.2.2.2.2.2.2.2.2.2.2.2))))))))))
 else
 none) fun (d1113:T_44) =>
 Option.bind (r103 (d1113.2.2.2.2.2.2.2.1,a.2.1,(Go.IntKind.wrap .i64 (a.2.1+(1:Int))))) fun (y1114:List (T_58)) =>
 some ((d1113.2.1,(d1113.2.2.1,d1113.2.2.2.1)),(d1113.2.2.2.2.1,(d1113.2.2.2.2.2.1,((d1113.2.2.2.2.2.2.1,y1114),d1113.2.2.2.2.2.2.2.2))))
 else
 some ((d1109.2.2.1,(d1109.2.2.2.1,d1109.2.2.2.2.1)),(d1109.2.2.2.2.2.1,(d1109.2.2.2.2.2.2.1,((d1109.2.2.2.2.2.2.2.1,d1109.2.2.2.2.2.2.2.2.1),d1109.2.2.2.2.2.2.2.2.2))))
 else
 none
noncomputable def r45_s0 (d1109:T_36) (x1112:T_58):Option T_44 :=
 some ((),(d1109.2.2.1,(d1109.2.2.2.1,(d1109.2.2.2.2.1,(d1109.2.2.2.2.2.1,(d1109.2.2.2.2.2.2.1,(d1109.2.2.2.2.2.2.2.1,(d1109.2.2.2.2.2.2.2.2.1,(d1109.2.2.2.2.2.2.2.2.2.1,(app d1109.2.2.2.2.2.2.2.2.2.2.1 [((4:Int),((d1109.2.2.2.2.2.2.1,x1112.1),((0:Int),((0:Int),((0:Int),(false,[]))))))],d1109.2.2.2.2.2.2.2.2.2.2.2))))))))))
noncomputable def r45q:T_25→Option T_48:=fun a =>
 bif inB a.2.1 a.1.2.2.2.1.2.length then
 Option.bind (idxN a.1.2.2.2.1.2 (Int.toNat a.2.1)) fun (x1:T_58) =>
 bif !(decide (x1.2.1=(3:Int))) then
 some a.1
 else
 Option.bind (
 Option.bind (idxN a.1.2.2.2.1.2 (Int.toNat a.2.1)) fun (_:T_58) =>
 Option.bind (
 Option.bind (idxN a.1.2.2.2.1.2 (Int.toNat a.2.1)) fun (x757:T_58) =>
 Option.bind (loopR (r45_L0q x757 a) (0:Int)) fun (q762:(Unit ⊕ Int)) =>
 Sum.elim (fun (_:Unit) =>
 some (-1:Int))
 (fun (v764:Int) =>
 some v764) q762) fun (d765:Int) =>
 bif decide (d765=(-1:Int)) then
 Option.bind (idxN a.1.2.2.2.1.2 (Int.toNat a.2.1)) fun (x1105:T_58) =>
 Option.bind (idxN a.1.2.2.2.1.2 (Int.toNat a.2.1)) fun (_:T_58) =>
 bif Nat.beq (Int.toNat a.2.1) (Int.toNat a.2.1) then
 some ((),((((),((),())),(Int.toNat a.2.1)),(a.1.1.1,(a.1.1.2.1,(a.1.1.2.2,(a.1.2.1,(a.1.2.2.1,(a.1.2.2.2.1.1,(List.set a.1.2.2.2.1.2 (Int.toNat a.2.1) x1105,a.1.2.2.2.2)))))))))
 else
 none
 else
 Option.bind (loopR (r45_L1q a) ((),((((),((),())),(Int.toNat a.2.1)),((((),((),())),(Int.toNat a.2.1)),(((),((),((Int.toNat a.2.1),()))),(d765,((Go.IntKind.wrap .i64 (d765+(1:Int))),(a.1.1.1,(a.1.1.2.1,(a.1.1.2.2,(a.1.2.1,(a.1.2.2.1,(a.1.2.2.2.1.1,(a.1.2.2.2.1.2,a.1.2.2.2.2)))))))))))))) fun (q808:T_23) =>
 Option.bind (idxN q808.2.2.2.2.2.2.2.2.2.2.2.1 q808.2.2.2.1.2.2.1) fun (x809:T_58) =>
 bif okB (some q808.2.2.2.2.1) none none x809.2.2.2.1.length then
 Option.bind (idxN q808.2.2.2.2.2.2.2.2.2.2.2.1 q808.2.2.2.1.2.2.1) fun (x810:T_58) =>
 Option.bind (idxN q808.2.2.2.2.2.2.2.2.2.2.2.1 q808.2.2.2.1.2.2.1) fun (_:T_58) =>
 bif Nat.beq q808.2.2.2.1.2.2.1 q808.2.2.2.1.2.2.1 then
 bif Nat.beq q808.2.2.2.1.2.2.1 q808.2.2.2.1.2.2.1 then
 bif Nat.beq q808.2.2.2.1.2.2.1 q808.2.2.2.1.2.2.1 then
 bif Nat.beq q808.2.2.2.1.2.2.1 q808.2.2.2.1.2.2.1 then
 Option.bind (idxN (List.set q808.2.2.2.2.2.2.2.2.2.2.2.1 q808.2.2.2.1.2.2.1 (x810.1,(x810.2.1,(x810.2.2.1,(app (List.take (Int.toNat q808.2.2.2.2.1) x810.2.2.2.1) (app (List.replicate (x809.2.2.2.1.length - (Int.toNat q808.2.2.2.2.1)) (0:Int)) (List.drop ((Int.toNat q808.2.2.2.2.1)+(x809.2.2.2.1.length - (Int.toNat q808.2.2.2.2.1))) x810.2.2.2.1)),x810.2.2.2.2))))) q808.2.2.2.1.2.2.1) fun (x812:T_58) =>
 bif okB none (some q808.2.2.2.2.1) none x812.2.2.2.1.length then
 Option.bind (idxN (List.set q808.2.2.2.2.2.2.2.2.2.2.2.1 q808.2.2.2.1.2.2.1 (x810.1,(x810.2.1,(x810.2.2.1,(app (List.take (Int.toNat q808.2.2.2.2.1) x810.2.2.2.1) (app (List.replicate (x809.2.2.2.1.length - (Int.toNat q808.2.2.2.2.1)) (0:Int)) (List.drop ((Int.toNat q808.2.2.2.2.1)+(x809.2.2.2.1.length - (Int.toNat q808.2.2.2.2.1))) x810.2.2.2.1)),x810.2.2.2.2))))) q808.2.2.2.1.2.2.1) fun (x1107:T_58) =>
 Option.bind (idxN (List.set q808.2.2.2.2.2.2.2.2.2.2.2.1 q808.2.2.2.1.2.2.1 (x810.1,(x810.2.1,(x810.2.2.1,(app (List.take (Int.toNat q808.2.2.2.2.1) x810.2.2.2.1) (app (List.replicate (x809.2.2.2.1.length - (Int.toNat q808.2.2.2.2.1)) (0:Int)) (List.drop ((Int.toNat q808.2.2.2.2.1)+(x809.2.2.2.1.length - (Int.toNat q808.2.2.2.2.1))) x810.2.2.2.1)),x810.2.2.2.2))))) q808.2.2.1.2) fun (_:T_58) =>
 bif Nat.beq q808.2.2.1.2 q808.2.2.2.1.2.2.1 then
 some ((),((((),((),())),q808.2.1.2),(q808.2.2.2.2.2.1,(q808.2.2.2.2.2.2.1,(q808.2.2.2.2.2.2.2.1,(q808.2.2.2.2.2.2.2.2.1,(q808.2.2.2.2.2.2.2.2.2.1,(q808.2.2.2.2.2.2.2.2.2.2.1,(List.set (List.set q808.2.2.2.2.2.2.2.2.2.2.2.1 q808.2.2.2.1.2.2.1 (x810.1,(x810.2.1,(x810.2.2.1,(app (List.take (Int.toNat q808.2.2.2.2.1) x810.2.2.2.1) (app (List.replicate (x809.2.2.2.1.length - (Int.toNat q808.2.2.2.2.1)) (0:Int)) (List.drop ((Int.toNat q808.2.2.2.2.1)+(x809.2.2.2.1.length - (Int.toNat q808.2.2.2.2.1))) x810.2.2.2.1)),x810.2.2.2.2))))) q808.2.2.1.2 (x1107.1,(x1107.2.1,(x1107.2.2.1,(midL x1107.2.2.2.1 0 (Int.toNat q808.2.2.2.2.1),x1107.2.2.2.2)))),q808.2.2.2.2.2.2.2.2.2.2.2.2)))))))))
 else
 none
 else
 none
 else
 none
 else
 none
 else
 none
 else
 none
 else
 none) fun (d1109:T_36) =>
 Option.bind (idxN d1109.2.2.2.2.2.2.2.2.1 d1109.2.1.2) fun (_:T_58) =>
 Option.bind (idxN d1109.2.2.2.2.2.2.2.2.1 d1109.2.1.2) fun (x1111:T_58) =>
 bif decide ((↑x1111.2.2.2.1.length:Int)=(0:Int)) then
 Option.bind (idxN d1109.2.2.2.2.2.2.2.2.1 d1109.2.1.2) fun (x1112:T_58) =>
 Option.bind (
 sameR (
 bif roomOk false d1109.2.2.2.2.2.2.2.2.2.2.1.length 1 80 then
 r45_s0 d1109 x1112
 else
 none)
 (
 sameR (
 bif roomOk false d1109.2.2.2.2.2.2.2.2.2.2.1.length 1 80 then
 r45_s0 d1109 x1112
 else
 none)
 (
 bif roomOk false d1109.2.2.2.2.2.2.2.2.2.2.1.length 1 80 then
 r45_s0 d1109 x1112
 else
 none))) fun (d1113:T_44) =>
 Option.bind (r103 (d1113.2.2.2.2.2.2.2.1,a.2.1,(Go.IntKind.wrap .i64 (a.2.1+(1:Int))))) fun (y1114:List (T_58)) =>
 some ((d1113.2.1,(d1113.2.2.1,d1113.2.2.2.1)),(d1113.2.2.2.2.1,(d1113.2.2.2.2.2.1,((d1113.2.2.2.2.2.2.1,y1114),d1113.2.2.2.2.2.2.2.2))))
 else
 some ((d1109.2.2.1,(d1109.2.2.2.1,d1109.2.2.2.2.1)),(d1109.2.2.2.2.2.1,(d1109.2.2.2.2.2.2.1,((d1109.2.2.2.2.2.2.2.1,d1109.2.2.2.2.2.2.2.2.1),d1109.2.2.2.2.2.2.2.2.2))))
 else
 none
theorem r45e:r45q=r45:=by unfold r45q r45; simp only [r45_s0,sameR_self,r45_L0e,r45_L1e]
def an45:Ann:=.two (.leaf) (.two (.leaf) (.two (.two (.leaf) (.two (.leaf) (.leaf))) (.two (.join [1] [] [⟨.normal,[],[.tmp 0 (.pt 0 [(0,0)] 0 0 0),.tmp 6 (.ptx 0 [(some 0,0),(some 0,6)] 0 6),.box 0 [.int .i64,.sl .ro (.pair (.int .i64) (.int .i64)),.int .i64,.int .i64,.int .i64,.int .i64,.sl .own E_72,.sl .own E_73,.sl .own E_74,.sl .own E_77,.int .i64,.int .i64]]⟩] (.inl 6 44 (.two (.leaf) (.two (.inl 2 86 (.join [0,1,6,20,44,45] [0,5] [⟨.ret,[],[.tmp 90 (.int .i64)]⟩] (.two (.leaf) (.two (.two (.leaf) (.one (.loop [0,1,6,20,44,45,86,87,93] [0,5] [] [.tmp 94 (.int .i64)] [⟨.exit 0,[],[]⟩,⟨.ret,[],[.tmp 90 (.int .i64)]⟩] (.two (.leaf) (.two (.two (.leaf) (.leaf)) (.two (.one (.two (.leaf) (.two (.inl 5 105 (.two (.leaf) (.two (.leaf) (.leaf))) (.leaf)) (.two (.two (.leaf) (.leaf)) (.leaf))))) (.leaf))))))) (.two (.leaf) (.leaf))))) (.leaf)) (.two (.two (.leaf) (.two (.two (.leaf) (.leaf)) (.leaf))) (.two (.two (.leaf) (.one (.loop [1,45] [5] [] [.tmp 0 (.pt 0 [(0,0)] 0 0 0),.tmp 6 (.ptx 0 [(some 0,0),(some 0,6)] 0 6),.tmp 20 (.ptx 0 [(some 0,0),(some 0,6)] 0 6),.tmp 44 (.ownx 0 [(some 0,0),(some 0,6),(none,3)] (.int .i64)),.tmp 49 (.int .i64),.tmp 50 (.int .i64),.box 0 [.int .i64,.sl .ro (.pair (.int .i64) (.int .i64)),.int .i64,.int .i64,.int .i64,.int .i64,.sl .own E_72,.sl .own E_73,.sl .own E_74,.sl .own E_77,.int .i64,.int .i64]] [⟨.exit 0,[],[.tmp 0 (.pt 0 [(0,0)] 0 0 0),.tmp 6 (.ptx 0 [(some 0,0),(some 0,6)] 0 6),.tmp 20 (.ptx 0 [(some 0,0),(some 0,6)] 0 6),.tmp 44 (.ownx 0 [(some 0,0),(some 0,6),(none,3)] (.int .i64)),.tmp 49 (.int .i64),.box 0 [.int .i64,.sl .ro (.pair (.int .i64) (.int .i64)),.int .i64,.int .i64,.int .i64,.int .i64,.sl .own E_72,.sl .own E_73,.sl .own E_74,.sl .own E_77,.int .i64,.int .i64]]⟩] (.two (.two (.leaf) (.two (.leaf) (.leaf))) (.two (.join [1,45,50] [5] [⟨.normal,[],[.tmp 0 (.pt 0 [(0,0)] 0 0 0),.tmp 6 (.ptx 0 [(some 0,0),(some 0,6)] 0 6),.tmp 20 (.ptx 0 [(some 0,0),(some 0,6)] 0 6),.tmp 44 (.ownx 0 [(some 0,0),(some 0,6),(none,3)] (.int .i64)),.tmp 49 (.int .i64),.box 0 [.int .i64,.sl .ro (.pair (.int .i64) (.int .i64)),.int .i64,.int .i64,.int .i64,.int .i64,.sl .own E_72,.sl .own E_73,.sl .own E_74,.sl .own E_77,.int .i64,.int .i64]]⟩] (.one (.two (.leaf) (.two (.inl 2 113 (.two (.leaf) (.two (.leaf) (.leaf))) (.leaf)) (.two (.two (.leaf) (.leaf)) (.leaf)))))) (.leaf)))))) (.two (.leaf) (.two (.leaf) (.leaf))))))) (.leaf))) (.two (.leaf) (.two (.two (.inl 5 121 (.join [1] [] [⟨.normal,[],[.tmp 0 (.pt 0 [(0,0)] 0 0 0),.box 0 [.int .i64,.sl .ro (.pair (.int .i64) (.int .i64)),.int .i64,.int .i64,.int .i64,.int .i64,.sl .own E_72,.sl .own E_73,.sl .own E_74,.sl .own E_77,.int .i64,.int .i64]]⟩] (.drawT [0,1,2,3,4,5,6,7,8,9,10,11,12,13,14,15] [0])) (.leaf)) (.inl 2 149 (.leaf) (.leaf))) (.leaf))))))
theorem s45:SoundM cx.P cx.G 45 sg45 r45:=by
 have e:denM cx [(103,⟨sg103,r103⟩)] an45 Tryd.f45.ntmps (Tryd.f45.body.getD .skip) Tryd.f45.results.toList sg45=r45q:=by kernel_rfl
 rw [← r45e,← e]
 exact sound_of_denM (c:=cx) (Known.cons (.ofD s103 (by kernel_rfl)) Tryd.func103 (by kernel_rfl) (by kernel_rfl) (Known.nil)) Tryd.func45 (by kernel_rfl) (Nat.le_of_ble_eq_true (by kernel_rfl)) rfl
def sg21:Sig:=⟨[⟨true,.ro,E_79⟩,⟨false,.bo,(.int .i64)⟩,⟨false,.bo,(.int .i64)⟩,⟨true,.bo,E_70⟩,⟨true,.bo,E_73⟩],[⟨true,.ro,E_69⟩,⟨false,.own,(.int .i64)⟩]⟩
noncomputable def r21 (a:(T_63×(Int×(Int×(T_57×T_59))))):Option T_50 :=
 Option.bind (r16 (a.1,a.2.2.2.1)) fun (y1:Int) =>
 bif !(decide (y1=(0:Int))) then
 bif !(decide (y1=(0:Int))) then
 some ((((0:Int),[]),([],([],([],((0:Int),(0:Int)))))),y1)
 else
 none
 else
 Option.bind (
 bif !(decide (a.2.1<(0:Int))) then
 some (decide ((↑a.1.2.1.length:Int)≤a.2.1))
 else
 some true) fun (d2:Bool) =>
 bif d2 then
 some ((((0:Int),[]),([],([],([],((0:Int),(0:Int)))))),(6:Int))
 else
 Option.bind (
 bif !(decide (a.2.2.1<(0:Int))) then
 some (decide (a.1.1≤a.2.2.1))
 else
 some true) fun (d3:Bool) =>
 bif d3 then
 some ((((0:Int),[]),([],([],([],((0:Int),(0:Int)))))),(2:Int))
 else
 Option.bind (r60 a.2.2.2.1) fun (y5:T_57) =>
 Option.bind (r41 (a.1,a.2.2.2.2)) fun (y76:Int) =>
 bif !(decide (y76=(0:Int))) then
 some ((((0:Int),[]),([],([],([],((0:Int),(0:Int)))))),y76)
 else
 Option.bind (
 bif !(!(decide (a.2.2.2.2.2.2.1=a.2.2.1))) then
 some (!(decide (a.2.2.2.2.2.2.2.1.1=a.2.2.1)))
 else
 some true) fun (d77:Bool) =>
 bif d77 then
 some ((((0:Int),[]),([],([],([],((0:Int),(0:Int)))))),(2:Int))
 else
 bif decide (a.2.2.2.2.1<(5:Int)) then
 some ((((0:Int),[]),([],([],([],((0:Int),(0:Int)))))),(3:Int))
 else
 Option.bind (r35 ((a.1,(a.2.1,(a.2.2.1,(y5,([],([],([],((0:Int),(0:Int))))))))),a.2.2.2.2.2.2.2.1.2)) fun (y78:T_46) =>
 Option.bind (
 bif decide (a.2.2.2.2.1=(9:Int)) then
 Option.bind (r42 (y78.2,y78.1,a.2.2.2.2)) fun (y89:T_48) =>
 some ((),(y89.1.1,(y89.1.2.1,(y89.1.2.2,(y89.2.1,(y89.2.2.1,(y89.2.2.2.1.1,(y89.2.2.2.1.2,y89.2.2.2.2))))))))
 else
 bif decide (y78.1<(0:Int)) then
 some ((),(y78.2.1.1,(y78.2.1.2.1,(y78.2.1.2.2,(y78.2.2.1,(y78.2.2.2.1,(y78.2.2.2.2.1.1,(y78.2.2.2.2.1.2,y78.2.2.2.2.2))))))))
 else
 bif decide (a.2.2.2.2.1=(5:Int)) then
 Option.bind (r43 (y78.2,y78.1,a.2.2.2.2,false)) fun (y90:T_48) =>
 some ((),(y90.1.1,(y90.1.2.1,(y90.1.2.2,(y90.2.1,(y90.2.2.1,(y90.2.2.2.1.1,(y90.2.2.2.1.2,y90.2.2.2.2))))))))
 else
 bif decide (a.2.2.2.2.1=(6:Int)) then
 Option.bind (r43 (y78.2,y78.1,a.2.2.2.2,true)) fun (y91:T_48) =>
 some ((),(y91.1.1,(y91.1.2.1,(y91.1.2.2,(y91.2.1,(y91.2.2.1,(y91.2.2.2.1.1,(y91.2.2.2.1.2,y91.2.2.2.2))))))))
 else
 bif decide (a.2.2.2.2.1=(7:Int)) then
 Option.bind (r44 (y78.2,y78.1,a.2.2.2.2)) fun (y92:T_48) =>
 some ((),(y92.1.1,(y92.1.2.1,(y92.1.2.2,(y92.2.1,(y92.2.2.1,(y92.2.2.2.1.1,(y92.2.2.2.1.2,y92.2.2.2.2))))))))
 else
 Option.bind (r45 (y78.2,y78.1,a.2.2.2.2)) fun (y93:T_48) =>
 some ((),(y93.1.1,(y93.1.2.1,(y93.1.2.2,(y93.2.1,(y93.2.2.1,(y93.2.2.2.1.1,(y93.2.2.2.1.2,y93.2.2.2.2))))))))) fun (d94:T_44) =>
 some (((d94.2.2.2.2.2.2.1,d94.2.2.2.2.2.2.2.1),d94.2.2.2.2.2.2.2.2),(0:Int))
def an21:Ann:=.two (.leaf) (.two (.inl 4 99 (.two (.leaf) (.two (.two (.leaf) (.two (.leaf) (.two (.two (.leaf) (.leaf)) (.leaf)))) (.two (.two (.join [2,5,9,10,100,101,103,106] [5,9,10,103,106] [⟨.normal,[],[.tmp 124 (.bool)]⟩] (.leaf)) (.two (.two (.leaf) (.leaf)) (.leaf))) (.two (.two (.join [2,5,9,10,100,101,103,106] [5,9,10,103,106] [⟨.normal,[],[.tmp 132 (.bool)]⟩] (.leaf)) (.two (.two (.leaf) (.leaf)) (.leaf))) (.two (.draw 6) (.leaf)))))) (.leaf)) (.two (.two (.leaf) (.two (.two (.leaf) (.leaf)) (.leaf))) (.nilp 12 (.two (.two (.leaf) (.two (.leaf) (.two (.two (.leaf) (.leaf)) (.leaf)))) (.two (.two (.join [9,10,12] [9,10,140] [⟨.normal,[],[.tmp 45 (.bool)]⟩] (.leaf)) (.two (.two (.leaf) (.leaf)) (.leaf))) (.two (.two (.leaf) (.two (.two (.leaf) (.leaf)) (.leaf))) (.two (.leaf) (.two (.join [10] [10] [⟨.normal,[],[.tmp 12 (.pt 140 [(0,0)] 0 0 12),.box 140 [.int .i64,.sl .ro (.pair (.int .i64) (.int .i64)),.int .i64,.int .i64,.int .i64,.int .i64,.sl .own E_72,.sl .own E_73,.sl .own E_74,.sl .own E_77,.int .i64,.int .i64]]⟩] (.one (.two (.leaf) (.two (.leaf) (.two (.leaf) (.two (.leaf) (.two (.leaf) (.two (.leaf) (.two (.leaf) (.two (.leaf) (.two (.leaf) (.two (.leaf) (.leaf))))))))))))) (.two (.leaf) (.leaf))))))))))
theorem s21:SoundF cx.P cx.G 21 sg21 r21:=by
 have e:denF cx [(16,⟨sg16,r16⟩),(35,⟨sg35,r35⟩),(41,⟨sg41,r41⟩),(42,⟨sg42,r42⟩),(43,⟨sg43,r43⟩),(44,⟨sg44,r44⟩),(45,⟨sg45,r45⟩),(60,⟨sg60,r60⟩)] an21 Tryd.f21.ntmps (Tryd.f21.body.getD .skip) Tryd.f21.results.toList sg21=r21:=by kernel_rfl
 rw [← e]
 exact sound_of_den (c:=cx) (Known.cons (.ofF s16 (by kernel_rfl)) Tryd.func16 (by kernel_rfl) (by kernel_rfl) (Known.cons (.ofM s35 (by kernel_rfl)) Tryd.func35 (by kernel_rfl) (by kernel_rfl) (Known.cons (.ofF s41 (by kernel_rfl)) Tryd.func41 (by kernel_rfl) (by kernel_rfl) (Known.cons (.ofM s42 (by kernel_rfl)) Tryd.func42 (by kernel_rfl) (by kernel_rfl) (Known.cons (.ofM s43 (by kernel_rfl)) Tryd.func43 (by kernel_rfl) (by kernel_rfl) (Known.cons (.ofM s44 (by kernel_rfl)) Tryd.func44 (by kernel_rfl) (by kernel_rfl) (Known.cons (.ofM s45 (by kernel_rfl)) Tryd.func45 (by kernel_rfl) (by kernel_rfl) (Known.cons (.ofF s60 (by kernel_rfl)) Tryd.func60 (by kernel_rfl) (by kernel_rfl) (Known.nil))))))))) Tryd.func21 (by kernel_rfl) (Nat.le_of_ble_eq_true (by kernel_rfl)) rfl
def sg22:Sig:=⟨[⟨true,.ro,E_79⟩,⟨false,.bo,(.int .i64)⟩,⟨false,.bo,(.int .i64)⟩,⟨true,.ro,E_70⟩,⟨true,.bo,E_73⟩,⟨true,.bo,E_77⟩],[⟨true,.ro,E_70⟩]⟩
noncomputable def r22 (a:(T_63×(Int×(Int×(T_57×(T_59×T_62)))))):Option T_57 :=
 Option.bind (
 bif decide (a.2.2.2.2.1.1=(1:Int)) then
 Option.bind (r15 (a.2.2.2.2.2.2.2.2.2.1,(50:Int))) fun (y7:Int) =>
 Option.bind (r15 (a.2.2.2.2.2.2.1,(4:Int))) fun (y8:Int) =>
 some ((),((5:Int),(a.2.2.2.2.1.2.2.1,(a.2.2.1,(a.2.2.2.2.1.2.2.2.1.1,(a.2.2.2.2.1.2.2.2.1.2,(a.2.2.2.2.1.2.2.2.2.1,(a.2.2.2.2.1.2.2.2.2.2.1,(y7,(y8,(a.2.2.2.2.1.2.2.2.2.2.2.2.2.1,(false,(0:Int)))))))))))))
 else
 bif decide (a.2.2.2.2.1.1=(2:Int)) then
 some ((),((6:Int),(a.2.2.2.2.1.2.2.1,(a.2.2.1,(a.2.2.2.2.1.2.2.2.1.1,(a.2.2.2.2.1.2.2.2.1.2,((0:Int),(a.2.2.2.2.1.2.2.2.2.2.1,((0:Int),((0:Int),(a.2.2.2.2.1.2.2.2.2.2.2.2.2.1,(false,(0:Int)))))))))))))
 else
 bif decide (a.2.2.2.2.1.1=(3:Int)) then
 Option.bind (r15 (a.2.2.2.2.2.2.2.1,(4:Int))) fun (y9:Int) =>
 some ((),((7:Int),(a.2.2.2.2.1.2.2.1,(a.2.2.1,(a.2.2.2.2.1.2.2.2.1.1,(a.2.2.2.2.1.2.2.2.1.2,(a.2.2.2.2.1.2.2.2.2.1,(a.2.2.2.2.1.2.2.2.2.2.1,((0:Int),(a.2.2.2.2.1.2.2.2.2.2.2.2.1,((0:Int),(decide ((0:Int)<y9),(0:Int)))))))))))))
 else
 some ((),((8:Int),(a.2.2.2.2.1.2.2.1,(a.2.2.1,(a.2.2.2.2.1.2.2.2.1.1,(a.2.2.2.2.1.2.2.2.1.2,((0:Int),(a.2.2.2.2.1.2.2.2.2.2.1,((0:Int),((0:Int),((0:Int),(false,(0:Int)))))))))))))) fun (d10:(Unit×(Int×(Int×(Int×(Int×(Int×(Int×(Int×(Int×(Int×(Int×(Bool×Int))))))))))))) =>
 Option.bind (r21 (a.1,a.2.1,a.2.2.1,a.2.2.2.1,(d10.2.1,(d10.2.2.1,(d10.2.2.2.1,((d10.2.2.2.2.1,d10.2.2.2.2.2.1),d10.2.2.2.2.2.2)))))) fun (y11:T_50) =>
 bif decide (y11.2=(0:Int)) then
 some y11.1.1
 else
 some a.2.2.2.1
def an22:Ann:=.two (.leaf) (.two (.leaf) (.two (.join [1,2,6,9,12] [6,9,12] [⟨.normal,[],[.tmp 13 (.pt 13 [(0,0)] 0 0 12),.box 13 [.int .i64,.int .i64,.int .i64,.int .i64,.int .i64,.int .i64,.int .i64,.int .i64,.int .i64,.int .i64,.bool,.int .i64]]⟩] (.two (.leaf) (.one (.two (.leaf) (.two (.two (.leaf) (.two (.leaf) (.two (.leaf) (.two (.leaf) (.leaf))))) (.two (.leaf) (.two (.two (.leaf) (.leaf)) (.two (.leaf) (.two (.two (.leaf) (.two (.leaf) (.two (.leaf) (.leaf)))) (.leaf)))))))))) (.two (.two (.leaf) (.two (.leaf) (.two (.two (.leaf) (.leaf)) (.leaf)))) (.two (.leaf) (.leaf)))))
theorem s22:SoundF cx.P cx.G 22 sg22 r22:=by
 have e:denF cx [(15,⟨sg15,r15⟩),(21,⟨sg21,r21⟩)] an22 Tryd.f22.ntmps (Tryd.f22.body.getD .skip) Tryd.f22.results.toList sg22=r22:=by kernel_rfl
 rw [← e]
 exact sound_of_den (c:=cx) (Known.cons (.ofF s15 (by kernel_rfl)) Tryd.func15 (by kernel_rfl) (by kernel_rfl) (Known.cons (.ofF s21 (by kernel_rfl)) Tryd.func21 (by kernel_rfl) (by kernel_rfl) (Known.nil))) Tryd.func22 (by kernel_rfl) (Nat.le_of_ble_eq_true (by kernel_rfl)) rfl
def sg28:Sig:=⟨[⟨true,.bo,E_77⟩],[⟨true,.own,E_78⟩]⟩
noncomputable def r28 (a:T_62):Option (Int×(Int×(Int×(Int×Int)))) :=
 Option.bind (r15 (a.1,(5:Int))) fun (y1:Int) =>
 Option.bind (
 bif !(decide ((Go.IntKind.wrap .i64 ((1:Int)+y1))=(1:Int))) then
 Option.bind (r15 (a.2.1,(4:Int))) fun (y4:Int) =>
 some ((),((Go.IntKind.wrap .i64 ((1:Int)+y1)),((Go.IntKind.wrap .i64 ((1:Int)+y4)),((0:Int),((0:Int),(0:Int))))))
 else
 some ((),((Go.IntKind.wrap .i64 ((1:Int)+y1)),((0:Int),((0:Int),((0:Int),(0:Int))))))) fun (d5:(Unit×(Int×(Int×(Int×(Int×Int)))))) =>
 Option.bind (
 bif decide (d5.2.1=(2:Int)) then
 Option.bind (r15 (a.2.2.1,(3:Int))) fun (y14:Int) =>
 Option.bind (r15 (a.2.2.2.1,(4:Int))) fun (y15:Int) =>
 some ((),(d5.2.1,(d5.2.2.1,(y14,(y15,d5.2.2.2.2.2)))))
 else
 bif decide (d5.2.1=(3:Int)) then
 Option.bind (r15 (a.2.2.2.1,(4:Int))) fun (y16:Int) =>
 Option.bind (r15 (a.2.2.2.2.1,(99:Int))) fun (y17:Int) =>
 some ((),(d5.2.1,(d5.2.2.1,(d5.2.2.2.1,(y16,y17)))))
 else
 some ((),d5.2)) fun (d18:(Unit×(Int×(Int×(Int×(Int×Int)))))) =>
 some d18.2
def an28:Ann:=.two (.leaf) (.two (.leaf) (.two (.join [1,2] [1,2] [⟨.normal,[],[.tmp 3 (.pt 3 [(0,0)] 0 0 5),.box 3 [.int .i64,.int .i64,.int .i64,.int .i64,.int .i64]]⟩] (.two (.leaf) (.two (.leaf) (.leaf)))) (.two (.join [2] [2] [⟨.normal,[],[.tmp 3 (.pt 3 [(0,0)] 0 0 5),.box 3 [.int .i64,.int .i64,.int .i64,.int .i64,.int .i64]]⟩] (.two (.leaf) (.one (.two (.leaf) (.two (.two (.leaf) (.leaf)) (.two (.leaf) (.two (.two (.leaf) (.leaf)) (.leaf)))))))) (.two (.leaf) (.leaf)))))
theorem s28:SoundF cx.P cx.G 28 sg28 r28:=by
 have e:denF cx [(15,⟨sg15,r15⟩)] an28 Tryd.f28.ntmps (Tryd.f28.body.getD .skip) Tryd.f28.results.toList sg28=r28:=by kernel_rfl
 rw [← e]
 exact sound_of_den (c:=cx) (Known.cons (.ofF s15 (by kernel_rfl)) Tryd.func15 (by kernel_rfl) (by kernel_rfl) (Known.nil)) Tryd.func28 (by kernel_rfl) (Nat.le_of_ble_eq_true (by kernel_rfl)) rfl
noncomputable def r14_L0 (y655:T_50) (b604:T_62) (a:(T_63×(Int×(Int×(List (T_62)×Int))))) (d667:T_55):Option (T_55 ⊕ T_56) :=
 bif decide (d667.2.1<(↑y655.1.2.1.length:Int)) then
 Option.bind (
 Option.bind (idxI y655.1.2.1 d667.2.1) fun (b674:T_59) =>
 Option.bind (r15 (b604.2.2.2.2.2,(3:Int))) fun (y675:Int) =>
 bif decide ((0:Int)<y675) then
 Option.bind (r22 (a.1,a.2.1,a.2.2.1,d667.2.2,b674,b604)) fun (y676:T_57) =>
 some ((),y676)
 else
 some ((),d667.2.2)) fun (d677:T_56) =>
 some (Sum.inl ((),((Go.IntKind.wrap .i64 (d667.2.1+(1:Int))),d677.2)))
 else
 some (Sum.inr ((),d667.2.2))
noncomputable def r14_L1 (a:(T_63×(Int×(Int×(List (T_62)×Int))))) (d446:T_55):Option (T_55 ⊕ T_56) :=
 Option.bind (
 bif decide (d446.2.1<(↑a.2.2.2.1.length:Int)) then
 some (decide (d446.2.1<a.2.2.2.2))
 else
 some false) fun (d447:Bool) =>
 bif d447 then
 Option.bind (
 Option.bind (idxI a.2.2.2.1 d446.2.1) fun (b604:T_62) =>
 Option.bind (r15 (b604.1,(3:Int))) fun (y605:Int) =>
 bif decide ((0:Int)<y605) then
 Option.bind (r28 ((Go.IntKind.wrap .i64 (Int.tdiv b604.2.2.2.1 (9:Int))),(b604.2.1,(b604.2.2.1,(b604.2.2.2.1,(b604.2.2.2.2.1,(0:Int))))))) fun (y606:(Int×(Int×(Int×(Int×Int))))) =>
 Option.bind (
 Option.bind (r17 (a.1,a.2.1,a.2.2.1,d446.2.2,(6000:Int),y606)) fun (y655:T_50) =>
 bif decide (y655.2=(0:Int)) then
 Option.bind (loopR (r14_L0 y655 b604 a) ((),((0:Int),y655.1.1))) fun (q678:T_56) =>
 some ((),q678.2)
 else
 some ((),d446.2.2)) fun (d679:T_56) =>
 some ((),d679.2)
 else
 Option.bind (r20 (a.1,b604)) fun (y680:T_59) =>
 Option.bind (r21 (a.1,a.2.1,a.2.2.1,d446.2.2,(y680.1,(y680.2.1,(a.2.2.1,((a.2.2.1,y680.2.2.2.1.2),y680.2.2.2.2)))))) fun (y681:T_50) =>
 bif decide (y681.2=(0:Int)) then
 some ((),y681.1.1)
 else
 some ((),d446.2.2)) fun (d682:T_56) =>
 some (Sum.inl ((),((Go.IntKind.wrap .i64 (d446.2.1+(1:Int))),d682.2)))
 else
 some (Sum.inr ((),d446.2.2))
def sg14:Sig:=⟨[⟨true,.ro,E_79⟩,⟨false,.bo,(.int .i64)⟩,⟨false,.bo,(.int .i64)⟩,⟨false,.bo,E_76⟩,⟨false,.bo,(.int .i64)⟩],[⟨true,.ro,E_70⟩]⟩
noncomputable def r14 (a:(T_63×(Int×(Int×(List (T_62)×Int))))):Option T_57 :=
 Option.bind (loopR (r14_L1 a) ((),((0:Int),((1:Int),[])))) fun (q683:T_56) =>
 some q683.2
def an14:Ann:=.two (.leaf) (.two (.leaf) (.two (.two (.leaf) (.one (.frz [(11,[(0,0),(0,1)])] (.loop [1,2,3,4,5,10] [5,10] [] [.tmp 11 (.pt 11 [(0,0)] 0 0 2),.tmp 12 (.int .i64),.box 11 [.int .i64,.sl .ro E_72]] [⟨.exit 0,[],[.tmp 11 (.pt 11 [(0,0)] 0 0 2),.box 11 [.int .i64,.sl .ro E_72]]⟩] (.two (.two (.join [1,2,3,4,5,10,11,12] [5,10,11] [⟨.normal,[],[.tmp 31 (.bool)]⟩] (.leaf)) (.two (.leaf) (.leaf))) (.two (.join [1,2,3,4,5,10,12] [5,10] [⟨.normal,[],[.tmp 11 (.pt 11 [(0,0)] 0 0 2),.box 11 [.int .i64,.sl .ro E_72]]⟩] (.one (.two (.leaf) (.two (.two (.leaf) (.two (.two (.leaf) (.two (.join [1,2,3,4,5,10,12] [5,10] [⟨.normal,[],[.tmp 11 (.pt 11 [(0,0)] 0 0 2),.box 11 [.int .i64,.sl .ro E_72]]⟩] (.two (.leaf) (.two (.leaf) (.two (.two (.leaf) (.two (.leaf) (.one (.loop [1,2,3,4,5,10,12,13,69,70] [5,10,13] [] [.tmp 11 (.pt 11 [(0,0)] 0 0 2),.tmp 71 (.int .i64),.box 11 [.int .i64,.sl .ro E_72]] [⟨.exit 2,[],[.tmp 11 (.pt 11 [(0,0)] 0 0 2),.box 11 [.int .i64,.sl .ro E_72]]⟩] (.two (.leaf) (.two (.two (.leaf) (.leaf)) (.two (.join [1,2,3,4,5,10,12,13,69,70,71] [5,10,13] [⟨.normal,[],[.tmp 11 (.pt 11 [(0,0)] 0 0 2),.box 11 [.int .i64,.sl .ro E_72]]⟩] (.one (.two (.leaf) (.two (.leaf) (.two (.leaf) (.leaf)))))) (.leaf)))))))) (.leaf))))) (.leaf))) (.leaf))) (.two (.leaf) (.two (.leaf) (.two (.leaf) (.two (.leaf) (.two (.leaf) (.two (.leaf) (.leaf))))))))))) (.leaf))))))) (.two (.leaf) (.leaf))))
theorem s14:SoundF cx.P cx.G 14 sg14 r14:=by
 have e:denF cx [(15,⟨sg15,r15⟩),(17,⟨sg17,r17⟩),(20,⟨sg20,r20⟩),(21,⟨sg21,r21⟩),(22,⟨sg22,r22⟩),(28,⟨sg28,r28⟩)] an14 Tryd.f14.ntmps (Tryd.f14.body.getD .skip) Tryd.f14.results.toList sg14=r14:=by kernel_rfl
 rw [← e]
 exact sound_of_den (c:=cx) (Known.cons (.ofF s15 (by kernel_rfl)) Tryd.func15 (by kernel_rfl) (by kernel_rfl) (Known.cons (.ofF s17 (by kernel_rfl)) Tryd.func17 (by kernel_rfl) (by kernel_rfl) (Known.cons (.ofF s20 (by kernel_rfl)) Tryd.func20 (by kernel_rfl) (by kernel_rfl) (Known.cons (.ofF s21 (by kernel_rfl)) Tryd.func21 (by kernel_rfl) (by kernel_rfl) (Known.cons (.ofF s22 (by kernel_rfl)) Tryd.func22 (by kernel_rfl) (by kernel_rfl) (Known.cons (.ofF s28 (by kernel_rfl)) Tryd.func28 (by kernel_rfl) (by kernel_rfl) (Known.nil))))))) Tryd.func14 (by kernel_rfl) (Nat.le_of_ble_eq_true (by kernel_rfl)) rfl
def sg3:Sig:=⟨[⟨false,.bo,(.int .i64)⟩,⟨false,.bo,E_76⟩,⟨false,.bo,(.int .i64)⟩],[⟨false,.own,.bool⟩]⟩
noncomputable def r3 (a:(Int×(List (T_62)×Int))):Option Bool :=
 Option.bind (r13 a.1) fun (y1:T_63) =>
 Option.bind (r15 (a.2.2,y1.1)) fun (y4:Int) =>
 Option.bind (r14 (y1,(1:Int),y4,a.2.1,(40:Int))) fun (y5:T_57) =>
 Option.bind (
 Option.bind (r16 (y1,y5)) fun (y6:Int) =>
 bif decide (y6=(0:Int)) then
 Option.bind (r16 (y1,((0:Int),[]))) fun (y7:Int) =>
 some (decide (y7=(9:Int)))
 else
 some false) fun (g8:Bool) =>
 bif g8 then
 some (decide ((0:Int)<y5.1))
 else
 some false
def an3:Ann:=.two (.leaf) (.two (.leaf) (.two (.draw 8) (.two (.segs [(10,([8],([8],[.tmp 27 (.bool)])))]) (.leaf))))
theorem s3:SoundF cx.P cx.G 3 sg3 r3:=by
 have e:denF cx [(13,⟨sg13,r13⟩),(14,⟨sg14,r14⟩),(15,⟨sg15,r15⟩),(16,⟨sg16,r16⟩)] an3 Tryd.f3.ntmps (Tryd.f3.body.getD .skip) Tryd.f3.results.toList sg3=r3:=by kernel_rfl
 rw [← e]
 exact sound_of_den (c:=cx) (Known.cons (.ofF s13 (by kernel_rfl)) Tryd.func13 (by kernel_rfl) (by kernel_rfl) (Known.cons (.ofF s14 (by kernel_rfl)) Tryd.func14 (by kernel_rfl) (by kernel_rfl) (Known.cons (.ofF s15 (by kernel_rfl)) Tryd.func15 (by kernel_rfl) (by kernel_rfl) (Known.cons (.ofF s16 (by kernel_rfl)) Tryd.func16 (by kernel_rfl) (by kernel_rfl) (Known.nil))))) Tryd.func3 (by kernel_rfl) (Nat.le_of_ble_eq_true (by kernel_rfl)) rfl
noncomputable def r39_L0 (a:(List Int×List Int)) (d1:Int):Option (Int ⊕ (Unit ⊕ Bool)) :=
 bif decide (d1<(↑a.1.length:Int)) then
 Option.bind (idxI a.1 d1) fun (b4:Int) =>
 Option.bind (idxI a.2 d1) fun (b5:Int) =>
 bif !(decide (b4=b5)) then
 some (Sum.inr (Sum.inr false))
 else
 some (Sum.inl (Go.IntKind.wrap .i64 (d1+(1:Int))))
 else
 some (Sum.inr (Sum.inl ()))
def sg39:Sig:=⟨[⟨false,.bo,(.sl (.int .i64))⟩,⟨false,.bo,(.sl (.int .i64))⟩],[⟨false,.own,.bool⟩]⟩
noncomputable def r39 (a:(List Int×List Int)):Option Bool :=
 bif !(decide ((↑a.1.length:Int)=(↑a.2.length:Int))) then
 some false
 else
 Option.bind (loopR (r39_L0 a) (0:Int)) fun (q6:(Unit ⊕ Bool)) =>
 Sum.elim (fun (_:Unit) =>
 some true)
 (fun (v8:Bool) =>
 some v8) q6
def an39:Ann:=.two (.leaf) (.two (.two (.leaf) (.two (.two (.leaf) (.leaf)) (.leaf))) (.two (.two (.leaf) (.one (.loop [0,1] [] [] [.tmp 5 (.int .i64)] [⟨.exit 0,[],[]⟩,⟨.ret,[],[.tmp 4 (.bool)]⟩] (.two (.two (.leaf) (.two (.leaf) (.leaf))) (.two (.one (.two (.draw 8) (.two (.two (.leaf) (.leaf)) (.leaf)))) (.leaf)))))) (.two (.leaf) (.leaf))))
theorem s39:SoundF cx.P cx.G 39 sg39 r39:=by
 have e:denF cx [] an39 Tryd.f39.ntmps (Tryd.f39.body.getD .skip) Tryd.f39.results.toList sg39=r39:=by kernel_rfl
 rw [← e]
 exact sound_of_den (c:=cx) (Known.nil) Tryd.func39 (by kernel_rfl) (Nat.le_of_ble_eq_true (by kernel_rfl)) rfl
noncomputable def r18_L0 (b3:T_58) (b4:T_58) (d21:Int):Option (Int ⊕ (Unit ⊕ Bool)) :=
 bif decide (d21<(↑b3.2.2.1.length:Int)) then
 Option.bind (idxI b3.2.2.1 d21) fun (b24:T_61) =>
 Option.bind (idxI b4.2.2.1 d21) fun (b25:T_61) =>
 bif !((decide (b24.1=b25.1) && (decide (b24.2.1=b25.2.1) && (decide (b24.2.2.1=b25.2.2.1) && (decide (b24.2.2.2.1=b25.2.2.2.1) && (decide (b24.2.2.2.2.1=b25.2.2.2.2.1) && (decide (b24.2.2.2.2.2.1=b25.2.2.2.2.2.1) && (decide (b24.2.2.2.2.2.2.1=b25.2.2.2.2.2.2.1) && (decide (b24.2.2.2.2.2.2.2=b25.2.2.2.2.2.2.2) && true))))))))) then
 some (Sum.inr (Sum.inr false))
 else
 some (Sum.inl (Go.IntKind.wrap .i64 (d21+(1:Int))))
 else
 some (Sum.inr (Sum.inl ()))
noncomputable def r18_L1 (a:(T_57×T_57)) (d2:Int):Option (Int ⊕ (Unit ⊕ Bool)) :=
 bif decide (d2<(↑a.1.2.length:Int)) then
 Option.bind (idxI a.1.2 d2) fun (b3:T_58) =>
 Option.bind (idxI a.2.2 d2) fun (b4:T_58) =>
 Option.bind (
 Option.bind (
 bif !(!(decide (b3.1=b4.1))) then
 some (!(decide (b3.2.1=b4.2.1)))
 else
 some true) fun (g15:Bool) =>
 Option.bind (
 bif !(g15) then
 some (!(decide (b3.2.2.2.2.1=b4.2.2.2.2.1)))
 else
 some true) fun (g16:Bool) =>
 Option.bind (
 bif !(g16) then
 some (!(decide (b3.2.2.2.2.2=b4.2.2.2.2.2)))
 else
 some true) fun (g17:Bool) =>
 Option.bind (
 bif !(g17) then
 some (!(decide ((↑b3.2.2.1.length:Int)=(↑b4.2.2.1.length:Int))))
 else
 some true) fun (g18:Bool) =>
 bif !(g18) then
 Option.bind (r39 (b3.2.2.2.1,b4.2.2.2.1)) fun (y19:Bool) =>
 some !(y19)
 else
 some true) fun (d20:Bool) =>
 bif d20 then
 some (Sum.inr (Sum.inr false))
 else
 Option.bind (loopR (r18_L0 b3 b4) (0:Int)) fun (q26:(Unit ⊕ Bool)) =>
 Sum.elim (fun (_:Unit) =>
 some (Sum.inl (Go.IntKind.wrap .i64 (d2+(1:Int)))))
 (fun (v28:Bool) =>
 some (Sum.inr (Sum.inr v28))) q26
 else
 some (Sum.inr (Sum.inl ()))
def sg18:Sig:=⟨[⟨true,.bo,E_70⟩,⟨true,.bo,E_70⟩],[⟨false,.own,.bool⟩]⟩
noncomputable def r18 (a:(T_57×T_57)):Option Bool :=
 Option.bind (
 bif !(!(decide (a.1.1=a.2.1))) then
 some (!(decide ((↑a.1.2.length:Int)=(↑a.2.2.length:Int))))
 else
 some true) fun (d1:Bool) =>
 bif d1 then
 some false
 else
 Option.bind (loopR (r18_L1 a) (0:Int)) fun (q29:(Unit ⊕ Bool)) =>
 Sum.elim (fun (_:Unit) =>
 some true)
 (fun (v31:Bool) =>
 some v31) q29
def an18:Ann:=.two (.leaf) (.two (.two (.join [2,3] [2,3] [⟨.normal,[],[.tmp 22 (.bool)]⟩] (.leaf)) (.two (.two (.leaf) (.leaf)) (.leaf))) (.two (.two (.leaf) (.one (.loop [2,3,25] [2,3] [] [.tmp 26 (.int .i64)] [⟨.exit 0,[],[]⟩,⟨.ret,[],[.tmp 4 (.bool)]⟩] (.two (.leaf) (.two (.two (.leaf) (.leaf)) (.two (.one (.two (.leaf) (.two (.leaf) (.two (.leaf) (.two (.two (.join [2,3,6,7,25,26] [2,3,6,7] [⟨.normal,[],[.tmp 81 (.bool)]⟩] (.segs [(12,([2,3,6,7,25,26],([2,3,6,7],[.tmp 50 (.bool)]))),(7,([2,3,6,7,25,26],([2,3,6,7],[.tmp 57 (.bool)]))),(7,([2,3,6,7,25,26],([2,3,6,7],[.tmp 64 (.bool)]))),(9,([2,3,6,7,25,26],([2,3,6,7],[.tmp 73 (.bool)])))])) (.two (.two (.leaf) (.leaf)) (.leaf))) (.two (.leaf) (.one (.loop [2,3,6,7,25,26,84] [2,3,6,7] [] [.tmp 85 (.int .i64)] [⟨.exit 2,[],[]⟩,⟨.ret,[],[.tmp 4 (.bool)]⟩] (.two (.leaf) (.two (.two (.leaf) (.leaf)) (.two (.one (.two (.leaf) (.two (.draw 10) (.two (.two (.leaf) (.leaf)) (.leaf))))) (.leaf)))))))))))) (.leaf))))))) (.two (.leaf) (.leaf))))
theorem s18:SoundF cx.P cx.G 18 sg18 r18:=by
 have e:denF cx [(39,⟨sg39,r39⟩)] an18 Tryd.f18.ntmps (Tryd.f18.body.getD .skip) Tryd.f18.results.toList sg18=r18:=by kernel_rfl
 rw [← e]
 exact sound_of_den (c:=cx) (Known.cons (.ofF s39 (by kernel_rfl)) Tryd.func39 (by kernel_rfl) (by kernel_rfl) (Known.nil)) Tryd.func18 (by kernel_rfl) (Nat.le_of_ble_eq_true (by kernel_rfl)) rfl
def sg4:Sig:=⟨[⟨false,.bo,(.int .i64)⟩,⟨false,.bo,E_76⟩,⟨false,.bo,(.int .i64)⟩],[⟨false,.own,.bool⟩]⟩
noncomputable def r4 (a:(Int×(List (T_62)×Int))):Option Bool :=
 Option.bind (r13 a.1) fun (y1:T_63) =>
 Option.bind (r14 (y1,(1:Int),(0:Int),a.2.1,(30:Int))) fun (y2:T_57) =>
 Option.bind (r15 (a.2.2,(1200:Int))) fun (y3:Int) =>
 Option.bind (r17 (y1,(1:Int),(0:Int),y2,y3,((1:Int),((0:Int),((0:Int),((0:Int),(0:Int))))))) fun (y4:T_50) =>
 Option.bind (
 bif !(!(decide (y4.2=(0:Int)))) then
 some (!(decide ((↑y4.1.2.2.2.1.length:Int)=(1:Int))))
 else
 some true) fun (d5:Bool) =>
 bif d5 then
 some false
 else
 Option.bind (
 bif !(decide ((↑y2.2.length:Int)=(6:Int))) then
 some (decide (y3<(600:Int)))
 else
 some true) fun (d6:Bool) =>
 bif d6 then
 Option.bind (
 Option.bind (idxI y4.1.2.2.2.1 (0:Int)) fun (b7:T_62) =>
 bif decide (b7.2.2.2.2.2=(8:Int)) then
 Option.bind (r18 (y2,y4.1.1)) fun (y8:Bool) =>
 some y8
 else
 some false) fun (g9:Bool) =>
 bif g9 then
 some (decide ((↑y4.1.2.2.1.length:Int)=(0:Int)))
 else
 some false
 else
 Option.bind (idxI y4.1.2.2.2.1 (0:Int)) fun (b12:T_62) =>
 bif (decide (b12.1=(0:Int)) && (decide (b12.2.1=(1:Int)) && (decide (b12.2.2.1=y2.1) && (decide (b12.2.2.2.1=(0:Int)) && (decide (b12.2.2.2.2.1=(0:Int)) && (decide (b12.2.2.2.2.2=(0:Int)) && true)))))) then
 bif decide (y4.1.1.1=(Go.IntKind.wrap .i64 (y2.1+(1:Int)))) then
 bif decide ((↑y4.1.2.2.1.length:Int)=(1:Int)) then
 Option.bind (idxI y4.1.2.2.1 (0:Int)) fun (b13:(Int×((Int×Int)×(Int×(Int×(Int×(Bool×List Int))))))) =>
 some (decide (b13.1=(5:Int)))
 else
 some false
 else
 some false
 else
 some false
def an4:Ann:=.two (.leaf) (.two (.leaf) (.two (.leaf) (.two (.leaf) (.two (.leaf) (.two (.two (.join [8,9,10] [8,10] [⟨.normal,[],[.tmp 34 (.bool)]⟩] (.leaf)) (.two (.two (.leaf) (.leaf)) (.leaf))) (.two (.two (.join [8,10] [8,10] [⟨.normal,[],[.tmp 42 (.bool)]⟩] (.leaf)) (.two (.two (.segs [(12,([10],([10],[.tmp 54 (.bool)])))]) (.leaf)) (.leaf))) (.two (.draw 15) (.leaf))))))))
theorem s4:SoundF cx.P cx.G 4 sg4 r4:=by
 have e:denF cx [(13,⟨sg13,r13⟩),(14,⟨sg14,r14⟩),(15,⟨sg15,r15⟩),(17,⟨sg17,r17⟩),(18,⟨sg18,r18⟩)] an4 Tryd.f4.ntmps (Tryd.f4.body.getD .skip) Tryd.f4.results.toList sg4=r4:=by kernel_rfl
 rw [← e]
 exact sound_of_den (c:=cx) (Known.cons (.ofF s13 (by kernel_rfl)) Tryd.func13 (by kernel_rfl) (by kernel_rfl) (Known.cons (.ofF s14 (by kernel_rfl)) Tryd.func14 (by kernel_rfl) (by kernel_rfl) (Known.cons (.ofF s15 (by kernel_rfl)) Tryd.func15 (by kernel_rfl) (by kernel_rfl) (Known.cons (.ofF s17 (by kernel_rfl)) Tryd.func17 (by kernel_rfl) (by kernel_rfl) (Known.cons (.ofF s18 (by kernel_rfl)) Tryd.func18 (by kernel_rfl) (by kernel_rfl) (Known.nil)))))) Tryd.func4 (by kernel_rfl) (Nat.le_of_ble_eq_true (by kernel_rfl)) rfl
def sg5:Sig:=⟨[⟨false,.bo,(.int .i64)⟩,⟨false,.bo,E_76⟩,⟨false,.bo,(.int .i64)⟩,⟨false,.bo,(.int .i64)⟩],[⟨false,.own,.bool⟩]⟩
noncomputable def r5 (a:(Int×(List (T_62)×(Int×Int)))):Option Bool :=
 Option.bind (r13 a.1) fun (y1:T_63) =>
 Option.bind (r14 (y1,(0:Int),(0:Int),a.2.1,(30:Int))) fun (y2:T_57) =>
 Option.bind (r15 (a.2.2.2,(9:Int))) fun (y4:Int) =>
 Option.bind (r15 (a.2.2.1,(↑([((4:Int),((Go.IntKind.wrap .i64 (y2.1+y4)),((0:Int),((0:Int),(0:Int))))),((2:Int),(y2.1,((0:Int),((1:Int),(0:Int))))),((5:Int),((0:Int),((0:Int),((0:Int),(0:Int))))),((3:Int),((1048576:Int),((0:Int),((1:Int),(0:Int)))))].length):Int))) fun (y5:Int) =>
 bif inB y5 ([((4:Int),((Go.IntKind.wrap .i64 (y2.1+y4)),((0:Int),((0:Int),(0:Int))))),((2:Int),(y2.1,((0:Int),((1:Int),(0:Int))))),((5:Int),((0:Int),((0:Int),((0:Int),(0:Int))))),((3:Int),((1048576:Int),((0:Int),((1:Int),(0:Int)))))].length) then
 Option.bind (idxN [((4:Int),((Go.IntKind.wrap .i64 (y2.1+y4)),((0:Int),((0:Int),(0:Int))))),((2:Int),(y2.1,((0:Int),((1:Int),(0:Int))))),((5:Int),((0:Int),((0:Int),((0:Int),(0:Int))))),((3:Int),((1048576:Int),((0:Int),((1:Int),(0:Int)))))] (Int.toNat y5)) fun (x6:(Int×(Int×(Int×(Int×Int))))) =>
 Option.bind (r17 (y1,(0:Int),(0:Int),y2,(6000:Int),x6)) fun (y7:T_50) =>
 Option.bind (r17 (y1,(0:Int),(0:Int),y2,(6000:Int),((6:Int),((0:Int),((0:Int),((0:Int),(0:Int))))))) fun (y8:T_50) =>
 Option.bind (
 bif decide (y7.2=(0:Int)) then
 some (decide (y8.2=(3:Int)))
 else
 some false) fun (g9:Bool) =>
 Option.bind (
 bif g9 then
 some (decide ((↑y7.1.2.2.2.1.length:Int)=(1:Int)))
 else
 some false) fun (g10:Bool) =>
 Option.bind (
 bif g10 then
 Option.bind (idxI y7.1.2.2.2.1 (0:Int)) fun (b11:T_62) =>
 some (decide (b11.2.2.2.2.2=(6:Int)))
 else
 some false) fun (g12:Bool) =>
 Option.bind (
 bif g12 then
 some (decide ((Go.IntKind.wrap .i64 ((Go.IntKind.wrap .i64 ((Go.IntKind.wrap .i64 ((↑y7.1.2.1.length:Int)+(↑y7.1.2.2.1.length:Int)))+y7.1.2.2.2.2.1))+y7.1.2.2.2.2.2))=(0:Int)))
 else
 some false) fun (g13:Bool) =>
 bif g13 then
 Option.bind (r18 (y7.1.1,y2)) fun (y14:Bool) =>
 some y14
 else
 some false
 else
 none
def an5:Ann:=.two (.leaf) (.two (.leaf) (.two (.leaf) (.two (.draw 11) (.two (.leaf) (.two (.leaf) (.two (.leaf) (.two (.segs [(6,([10,13],([10,13],[.tmp 60 (.bool)]))),(6,([10,13],([10,13],[.tmp 66 (.bool)]))),(8,([10,13],([10,13],[.tmp 74 (.bool)]))),(16,([10,13],([10,13],[.tmp 90 (.bool)])))]) (.leaf))))))))
theorem s5:SoundF cx.P cx.G 5 sg5 r5:=by
 have e:denF cx [(13,⟨sg13,r13⟩),(14,⟨sg14,r14⟩),(15,⟨sg15,r15⟩),(17,⟨sg17,r17⟩),(18,⟨sg18,r18⟩)] an5 Tryd.f5.ntmps (Tryd.f5.body.getD .skip) Tryd.f5.results.toList sg5=r5:=by kernel_rfl
 rw [← e]
 exact sound_of_den (c:=cx) (Known.cons (.ofF s13 (by kernel_rfl)) Tryd.func13 (by kernel_rfl) (by kernel_rfl) (Known.cons (.ofF s14 (by kernel_rfl)) Tryd.func14 (by kernel_rfl) (by kernel_rfl) (Known.cons (.ofF s15 (by kernel_rfl)) Tryd.func15 (by kernel_rfl) (by kernel_rfl) (Known.cons (.ofF s17 (by kernel_rfl)) Tryd.func17 (by kernel_rfl) (by kernel_rfl) (Known.cons (.ofF s18 (by kernel_rfl)) Tryd.func18 (by kernel_rfl) (by kernel_rfl) (Known.nil)))))) Tryd.func5 (by kernel_rfl) (Nat.le_of_ble_eq_true (by kernel_rfl)) rfl
def sg19:Sig:=⟨[],[⟨false,.own,.bool⟩]⟩
noncomputable def r19 (_a:Unit):Option Bool :=
 Option.bind (r13 (0:Int)) fun (y1:T_63) =>
 Option.bind (r16 (y1,((0:Int),[]))) fun (y2:Int) =>
 some (decide (y2=(9:Int)))
def an19:Ann:=.two (.leaf) (.two (.leaf) (.leaf))
theorem s19:SoundF cx.P cx.G 19 sg19 r19:=by
 have e:denF cx [(13,⟨sg13,r13⟩),(16,⟨sg16,r16⟩)] an19 Tryd.f19.ntmps (Tryd.f19.body.getD .skip) Tryd.f19.results.toList sg19=r19:=by kernel_rfl
 rw [← e]
 exact sound_of_den (c:=cx) (Known.cons (.ofF s13 (by kernel_rfl)) Tryd.func13 (by kernel_rfl) (by kernel_rfl) (Known.cons (.ofF s16 (by kernel_rfl)) Tryd.func16 (by kernel_rfl) (by kernel_rfl) (Known.nil))) Tryd.func19 (by kernel_rfl) (Nat.le_of_ble_eq_true (by kernel_rfl)) rfl
def sg6:Sig:=⟨[⟨false,.bo,(.int .i64)⟩,⟨false,.bo,E_76⟩,⟨true,.bo,E_77⟩],[⟨false,.own,.bool⟩]⟩
noncomputable def r6 (a:(Int×(List (T_62)×T_62))):Option Bool :=
 Option.bind (r19 ()) fun (y1:Bool) =>
 bif !(y1) then
 some false
 else
 Option.bind (r13 a.1) fun (y2:T_63) =>
 Option.bind (r14 (y2,(1:Int),(0:Int),a.2.1,(30:Int))) fun (y3:T_57) =>
 Option.bind (r20 (y2,a.2.2)) fun (y4:T_59) =>
 Option.bind (
 bif !(decide (y4.1<(5:Int))) then
 some (decide (y4.1=(9:Int)))
 else
 some true) fun (d5:Bool) =>
 bif d5 then
 Option.bind (r16 (y2,y3)) fun (y6:Int) =>
 some (decide (y6=(0:Int)))
 else
 Option.bind (r21 (y2,(1:Int),(0:Int),y3,(y4.1,(y4.2.1,((0:Int),(((0:Int),y4.2.2.2.1.2),y4.2.2.2.2)))))) fun (y7:T_50) =>
 Option.bind (r21 (y2,(1:Int),(0:Int),y7.1.1,(y4.1,(y4.2.1,((0:Int),(((0:Int),y4.2.2.2.1.2),y4.2.2.2.2)))))) fun (y8:T_50) =>
 Option.bind (
 bif decide (y7.2=(0:Int)) then
 some (decide (y8.2=(0:Int)))
 else
 some false) fun (g9:Bool) =>
 Option.bind (
 bif g9 then
 Option.bind (r18 (y7.1.1,y8.1.1)) fun (y10:Bool) =>
 some y10
 else
 some false) fun (g11:Bool) =>
 bif g11 then
 some (decide ((Go.IntKind.wrap .i64 ((Go.IntKind.wrap .i64 ((↑y8.1.2.2.2.1.length:Int)+(↑y8.1.2.2.1.length:Int)))+y8.1.2.2.2.2.2))=(0:Int)))
 else
 some false
def an6:Ann:=.two (.leaf) (.two (.two (.leaf) (.two (.two (.leaf) (.leaf)) (.leaf))) (.two (.leaf) (.two (.leaf) (.two (.leaf) (.two (.leaf) (.two (.leaf) (.two (.two (.join [7,8,9] [7,8,9] [⟨.normal,[],[.tmp 34 (.bool)]⟩] (.leaf)) (.two (.two (.leaf) (.leaf)) (.leaf))) (.two (.leaf) (.two (.leaf) (.two (.segs [(6,([10,12],([10,12],[.tmp 59 (.bool)]))),(7,([12],([12],[.tmp 66 (.bool)])))]) (.leaf)))))))))))
theorem s6:SoundF cx.P cx.G 6 sg6 r6:=by
 have e:denF cx [(13,⟨sg13,r13⟩),(14,⟨sg14,r14⟩),(16,⟨sg16,r16⟩),(18,⟨sg18,r18⟩),(19,⟨sg19,r19⟩),(20,⟨sg20,r20⟩),(21,⟨sg21,r21⟩)] an6 Tryd.f6.ntmps (Tryd.f6.body.getD .skip) Tryd.f6.results.toList sg6=r6:=by kernel_rfl
 rw [← e]
 exact sound_of_den (c:=cx) (Known.cons (.ofF s13 (by kernel_rfl)) Tryd.func13 (by kernel_rfl) (by kernel_rfl) (Known.cons (.ofF s14 (by kernel_rfl)) Tryd.func14 (by kernel_rfl) (by kernel_rfl) (Known.cons (.ofF s16 (by kernel_rfl)) Tryd.func16 (by kernel_rfl) (by kernel_rfl) (Known.cons (.ofF s18 (by kernel_rfl)) Tryd.func18 (by kernel_rfl) (by kernel_rfl) (Known.cons (.ofF s19 (by kernel_rfl)) Tryd.func19 (by kernel_rfl) (by kernel_rfl) (Known.cons (.ofF s20 (by kernel_rfl)) Tryd.func20 (by kernel_rfl) (by kernel_rfl) (Known.cons (.ofF s21 (by kernel_rfl)) Tryd.func21 (by kernel_rfl) (by kernel_rfl) (Known.nil)))))))) Tryd.func6 (by kernel_rfl) (Nat.le_of_ble_eq_true (by kernel_rfl)) rfl
noncomputable def r8_L0 (y3:Int) (y1:T_63) (d11:T_55):Option (T_55 ⊕ (T_56 ⊕ Bool)) :=
 bif decide (d11.2.1<(Go.IntKind.wrap .i64 ((1:Int)+y3))) then
 Option.bind (r17 (y1,(1:Int),(0:Int),d11.2.2,(6000:Int),((2:Int),((1:Int),((Int.tmod d11.2.1 (2:Int)),(d11.2.1,(0:Int))))))) fun (y12:T_50) =>
 Option.bind (
 bif !(!(decide (y12.2=(0:Int)))) then
 some (!(decide ((↑y12.1.2.1.length:Int)=(1:Int))))
 else
 some true) fun (d13:Bool) =>
 bif d13 then
 some (Sum.inr (Sum.inr false))
 else
 Option.bind (idxI y12.1.2.1 (0:Int)) fun (b16:T_59) =>
 Option.bind (r22 (y1,(1:Int),(0:Int),y12.1.1,b16,((0:Int),(d11.2.1,((0:Int),((0:Int),(d11.2.1,(0:Int)))))))) fun (y17:T_57) =>
 some (Sum.inl ((),((Go.IntKind.wrap .i64 (d11.2.1+(1:Int))),y17)))
 else
 some (Sum.inr (Sum.inl ((),d11.2.2)))
noncomputable def r8_L1 (y21:T_50) (y1:T_63) (y32:Int) (y3:Int) (d40:T_55):Option (T_55 ⊕ (Unit ⊕ Bool)) :=
 bif decide (d40.2.1<(↑y21.1.2.1.length:Int)) then
 Option.bind (idxI y21.1.2.1 d40.2.1) fun (b41:T_59) =>
 Option.bind (r21 (y1,(1:Int),(0:Int),d40.2.2,((7:Int),(b41.2.2.1,((0:Int),(b41.2.2.2.1,(b41.2.2.2.2.1,(b41.2.2.2.2.2.1,((0:Int),(b41.2.2.2.2.2.2.2.1,((0:Int),(!(decide (d40.2.1=y32)),(0:Int))))))))))))) fun (y42:T_50) =>
 bif !(decide (y42.2=(0:Int))) then
 some (Sum.inr (Sum.inr false))
 else
 bif decide (d40.2.1=y32) then
 Option.bind (
 bif decide ((↑y42.1.2.2.2.1.length:Int)=(1:Int)) then
 Option.bind (idxI y42.1.2.2.2.1 (0:Int)) fun (b43:T_62) =>
 some (decide (b43.2.2.2.2.2=(11:Int)))
 else
 some false) fun (g44:Bool) =>
 bif g44 then
 some (Sum.inr (Sum.inr (decide (y42.1.2.2.2.2.2=(0:Int)))))
 else
 some (Sum.inr (Sum.inr false))
 else
 bif decide (d40.2.1=(Go.IntKind.wrap .i64 ((Go.IntKind.wrap .i64 ((1:Int)+y3)) - (1:Int)))) then
 Option.bind (
 bif decide (y42.1.2.2.2.2.2=(1:Int)) then
 some (decide ((↑y42.1.2.2.2.1.length:Int)=(1:Int)))
 else
 some false) fun (g45:Bool) =>
 bif g45 then
 Option.bind (idxI y42.1.2.2.2.1 (0:Int)) fun (b46:T_62) =>
 some (Sum.inr (Sum.inr (decide (b46.2.2.2.2.2=(0:Int)))))
 else
 some (Sum.inr (Sum.inr false))
 else
 bif decide ((0:Int)<(↑y42.1.2.2.2.1.length:Int)) then
 some (Sum.inr (Sum.inr false))
 else
 some (Sum.inl ((),((Go.IntKind.wrap .i64 (d40.2.1+(1:Int))),y42.1.1)))
 else
 some (Sum.inr (Sum.inl ()))
def sg8:Sig:=⟨[⟨false,.bo,(.int .i64)⟩,⟨false,.bo,(.sl (.int .i64))⟩,⟨false,.bo,(.int .i64)⟩],[⟨false,.own,.bool⟩]⟩
noncomputable def r8 (a:(Int×(List Int×Int))):Option Bool :=
 Option.bind (r13 a.1) fun (y1:T_63) =>
 Option.bind (r17 (y1,(1:Int),(0:Int),((1:Int),[]),(6000:Int),((1:Int),((0:Int),((0:Int),((0:Int),(0:Int))))))) fun (y2:T_50) =>
 Option.bind (r15 ((↑a.2.1.length:Int),(5:Int))) fun (y3:Int) =>
 Option.bind (loopR (r8_L0 y3 y1) ((),((0:Int),y2.1.1))) fun (q18:(T_56 ⊕ Bool)) =>
 Sum.elim (fun (v19:T_56) =>
 Option.bind (r17 (y1,(1:Int),(0:Int),v19.2,(6000:Int),((4:Int),((1:Int),((0:Int),((0:Int),(0:Int))))))) fun (y21:T_50) =>
 Option.bind (
 Option.bind (
 bif !(!(decide (y2.2=(0:Int)))) then
 some (!(decide (y21.2=(0:Int))))
 else
 some true) fun (g28:Bool) =>
 Option.bind (
 bif !(g28) then
 some (!(decide ((↑y21.1.2.1.length:Int)=(Go.IntKind.wrap .i64 ((1:Int)+y3)))))
 else
 some true) fun (g29:Bool) =>
 Option.bind (
 bif !(g29) then
 some (!(decide ((↑y21.1.2.2.2.1.length:Int)=(0:Int))))
 else
 some true) fun (g30:Bool) =>
 bif !(g30) then
 some (!(decide (y21.1.2.2.2.2.1=(1:Int))))
 else
 some true) fun (d31:Bool) =>
 bif d31 then
 some false
 else
 Option.bind (r15 (a.2.2,(Go.IntKind.wrap .i64 ((Go.IntKind.wrap .i64 ((1:Int)+y3))+(1:Int))))) fun (y32:Int) =>
 Option.bind (loopR (r8_L1 y21 y1 y32 y3) ((),((0:Int),y21.1.1))) fun (q47:(Unit ⊕ Bool)) =>
 Sum.elim (fun (_:Unit) =>
 some false)
 (fun (v49:Bool) =>
 some v49) q47)
 (fun (v20:Bool) =>
 some v20) q18
def an8:Ann:=.two (.leaf) (.two (.leaf) (.two (.leaf) (.two (.leaf) (.two (.leaf) (.two (.two (.leaf) (.one (.loop [2,7,9,11] [7] [] [.tmp 10 (.pt 10 [(0,0)] 0 0 2),.tmp 12 (.int .i64),.box 10 [.int .i64,.sl .ro E_72]] [⟨.exit 0,[],[.tmp 10 (.pt 10 [(0,0)] 0 0 2),.box 10 [.int .i64,.sl .ro E_72]]⟩,⟨.ret,[],[.tmp 6 (.bool)]⟩] (.two (.two (.leaf) (.two (.leaf) (.leaf))) (.two (.one (.two (.leaf) (.two (.two (.join [2,7,9,10,11,12,13] [7,10,13] [⟨.normal,[],[.tmp 60 (.bool)]⟩] (.leaf)) (.two (.two (.leaf) (.leaf)) (.leaf))) (.draw 10)))) (.leaf)))))) (.two (.leaf) (.two (.two (.join [2,7,10,11,15] [7,10,15] [⟨.normal,[],[.tmp 102 (.bool)]⟩] (.segs [(6,([2,7,10,11,15],([7,10,15],[.tmp 84 (.bool)]))),(7,([2,7,10,11,15],([7,10,15],[.tmp 91 (.bool)]))),(6,([2,7,10,11,15],([7,10,15],[.tmp 97 (.bool)])))])) (.two (.two (.leaf) (.leaf)) (.leaf))) (.two (.leaf) (.two (.leaf) (.two (.two (.leaf) (.one (.loop [7,11,17,110,111] [7] [] [.tmp 10 (.pt 10 [(0,0)] 0 0 2),.tmp 112 (.int .i64),.box 10 [.int .i64,.sl .ro E_72]] [⟨.exit 2,[],[]⟩,⟨.ret,[],[.tmp 6 (.bool)]⟩] (.two (.leaf) (.two (.two (.leaf) (.leaf)) (.two (.one (.two (.leaf) (.two (.leaf) (.two (.leaf) (.two (.leaf) (.one (.two (.leaf) (.two (.two (.leaf) (.leaf)) (.two (.leaf) (.two (.two (.segs [(12,([21],([7,21],[.tmp 158 (.bool)])))]) (.leaf)) (.two (.leaf) (.two (.two (.segs [(9,([21],([7,21],[.tmp 177 (.bool)])))]) (.leaf)) (.two (.leaf) (.two (.two (.leaf) (.leaf)) (.leaf))))))))))))))) (.leaf))))))) (.two (.leaf) (.leaf))))))))))))
theorem s8:SoundF cx.P cx.G 8 sg8 r8:=by
 have e:denF cx [(13,⟨sg13,r13⟩),(15,⟨sg15,r15⟩),(17,⟨sg17,r17⟩),(21,⟨sg21,r21⟩),(22,⟨sg22,r22⟩)] an8 Tryd.f8.ntmps (Tryd.f8.body.getD .skip) Tryd.f8.results.toList sg8=r8:=by kernel_rfl
 rw [← e]
 exact sound_of_den (c:=cx) (Known.cons (.ofF s13 (by kernel_rfl)) Tryd.func13 (by kernel_rfl) (by kernel_rfl) (Known.cons (.ofF s15 (by kernel_rfl)) Tryd.func15 (by kernel_rfl) (by kernel_rfl) (Known.cons (.ofF s17 (by kernel_rfl)) Tryd.func17 (by kernel_rfl) (by kernel_rfl) (Known.cons (.ofF s21 (by kernel_rfl)) Tryd.func21 (by kernel_rfl) (by kernel_rfl) (Known.cons (.ofF s22 (by kernel_rfl)) Tryd.func22 (by kernel_rfl) (by kernel_rfl) (Known.nil)))))) Tryd.func8 (by kernel_rfl) (Nat.le_of_ble_eq_true (by kernel_rfl)) rfl
end Go.Hv
