import Derived.Test.YtlfcemfcgmidlaaDoorHvThree
namespace Go.Hv
open Go.RowKit Go.Proofs Go.V Go.Proofs
noncomputable def r38_L0 (x2:T_58) (a:T_45) (d35:(Unit×(Int×List Int))):Option ((Unit×(Int×List Int)) ⊕ (Unit×List Int)) :=
 bif decide (d35.2.1<(↑x2.2.2.1.length:Int)) then
 Option.bind (
 Option.bind (idxN a.1.2.2.2.1.2 (Int.toNat a.2)) fun (x56:T_58) =>
 bif inB d35.2.1 x56.2.2.1.length then
 Option.bind (idxN a.1.2.2.2.1.2 (Int.toNat a.2)) fun (x57:T_58) =>
 Option.bind (idxN x57.2.2.1 (Int.toNat d35.2.1)) fun (x58:T_61) =>
 bif decide (a.1.1.1=0) then
 none
 else
 Option.bind (
 bif decide (x58.2.1=a.1.2.1) then
 Option.bind (r74 (d35.2.2,(Int.tmod x58.2.2.1 a.1.1.1))) fun (y64:Bool) =>
 some !(y64)
 else
 some false) fun (d65:Bool) =>
 bif d65 then
 bif roomOk false d35.2.2.length 1 8 then
 some ((),app d35.2.2 [(Int.tmod x58.2.2.1 a.1.1.1)])
 else
 none
 else
 some ((),d35.2.2)
 else
 none) fun (d66:(Unit×List Int)) =>
 some (Sum.inl ((),((Go.IntKind.wrap .i64 (d35.2.1+(1:Int))),d66.2)))
 else
 some (Sum.inr ((),d35.2.2))
noncomputable def r38_L1 (d220:T_60) (d521:(Unit×(Unit×(Int×List Int)))):Option ((Unit×(Unit×(Int×List Int))) ⊕ (Unit×(Unit×List Int))) :=
 Option.bind (
 bif decide (d220.2.2.1<d521.2.2.1) then
 bif inB d521.2.2.1 d521.2.2.2.length then
 Option.bind (idxN d521.2.2.2 (Int.toNat d521.2.2.1)) fun (x537:Int) =>
 bif inB (Go.IntKind.wrap .i64 (d521.2.2.1 - (1:Int))) d521.2.2.2.length then
 Option.bind (idxN d521.2.2.2 (Int.toNat (Go.IntKind.wrap .i64 (d521.2.2.1 - (1:Int))))) fun (x538:Int) =>
 Option.bind (r139 (x537,x538)) fun (y539:Bool) =>
 some y539
 else
 none
 else
 none
 else
 some false) fun (d540:Bool) =>
 bif d540 then
 Option.bind (
 bif inB (Go.IntKind.wrap .i64 (d521.2.2.1 - (1:Int))) d521.2.2.2.length then
 Option.bind (idxN d521.2.2.2 (Int.toNat (Go.IntKind.wrap .i64 (d521.2.2.1 - (1:Int))))) fun (x655:Int) =>
 bif inB d521.2.2.1 d521.2.2.2.length then
 Option.bind (idxN d521.2.2.2 (Int.toNat d521.2.2.1)) fun (x656:Int) =>
 bif inB d521.2.2.1 d521.2.2.2.length then
 Option.bind (idxN d521.2.2.2 (Int.toNat d521.2.2.1)) fun (_:Int) =>
 bif inB (Go.IntKind.wrap .i64 (d521.2.2.1 - (1:Int))) ((List.set d521.2.2.2 (Int.toNat d521.2.2.1) x655).length) then
 Option.bind (idxN (List.set d521.2.2.2 (Int.toNat d521.2.2.1) x655) (Int.toNat (Go.IntKind.wrap .i64 (d521.2.2.1 - (1:Int))))) fun (_:Int) =>
 some ((),((),List.set (List.set d521.2.2.2 (Int.toNat d521.2.2.1) x655) (Int.toNat (Go.IntKind.wrap .i64 (d521.2.2.1 - (1:Int)))) x656))
 else
 none
 else
 none
 else
 none
 else
 none) fun (d669:(Unit×(Unit×List Int))) =>
 some (Sum.inl ((),((),((Go.IntKind.wrap .i64 (d521.2.2.1 - (1:Int))),d669.2.2))))
 else
 some (Sum.inr ((),((),d521.2.2.2)))
noncomputable def r38_L2 (d220:T_60) (d371:(Unit×(Unit×(Int×List Int)))):Option ((Unit×(Unit×(Int×List Int))) ⊕ (Unit×List Int)) :=
 bif decide (d371.2.2.1<d220.2.2.2.1) then
 Option.bind (loopR (r38_L1 d220) ((),((),d371.2.2))) fun (q670:(Unit×(Unit×List Int))) =>
 some (Sum.inl ((),((),((Go.IntKind.wrap .i64 (d371.2.2.1+(1:Int))),q670.2.2))))
 else
 some (Sum.inr ((),d371.2.2.2))
noncomputable def r38_L3 (d220:T_60):Option (T_60 ⊕ (Unit×List Int)) :=
 bif decide ((Go.IntKind.wrap .i64 (d220.2.2.2.1 - d220.2.2.1))≤(12:Int)) then
 Option.bind (loopR (r38_L2 d220) ((),((),((Go.IntKind.wrap .i64 (d220.2.2.1+(1:Int))),d220.2.2.2.2.2.2.2)))) fun (q671:(Unit×List Int)) =>
 some (Sum.inr ((),q671.2))
 else
 bif decide (d220.2.2.2.2.1=(0:Int)) then
 none
 else
 bif !(d220.2.2.2.2.2.1) then
 none
 else
 Option.bind (r136 (d220.2.2.2.2.2.2.2,d220.2.2.1,d220.2.2.2.1)) fun (y672:(Int×Int)) =>
 bif decide (y672.2=(2:Int)) then
 none
 else
 Option.bind (
 Option.bind (
 bif d220.2.2.2.2.2.1 then
 some d220.2.2.2.2.2.2.1
 else
 some false) fun (g675:Bool) =>
 bif g675 then
 some (decide (y672.2=(1:Int)))
 else
 some false) fun (d676:Bool) =>
 bif d676 then
 none
 else
 Option.bind (
 bif decide ((0:Int)<d220.2.2.1) then
 bif inB (Go.IntKind.wrap .i64 (d220.2.2.1 - (1:Int))) d220.2.2.2.2.2.2.2.length then
 Option.bind (idxN d220.2.2.2.2.2.2.2 (Int.toNat (Go.IntKind.wrap .i64 (d220.2.2.1 - (1:Int))))) fun (x692:Int) =>
 bif inB y672.1 d220.2.2.2.2.2.2.2.length then
 Option.bind (idxN d220.2.2.2.2.2.2.2 (Int.toNat y672.1)) fun (x693:Int) =>
 Option.bind (r139 (x692,x693)) fun (y694:Bool) =>
 some !(y694)
 else
 none
 else
 none
 else
 some false) fun (d695:Bool) =>
 bif d695 then
 none
 else
 none
noncomputable def r38_L4 (q696:(Unit×List Int)) (x1:T_58) (d700:T_42):Option (T_42 ⊕ T_44) :=
 bif decide (d700.2.1<(↑q696.2.length:Int)) then
 bif inB d700.2.1 q696.2.length then
 Option.bind (idxN q696.2 (Int.toNat d700.2.1)) fun (x701:Int) =>
 Option.bind (
 bif roomOk false d700.2.2.2.2.2.2.2.2.2.1.length 1 96 then
 some ((),((),(d700.2.2.1,(d700.2.2.2.1,(d700.2.2.2.2.1,(d700.2.2.2.2.2.1,(d700.2.2.2.2.2.2.1,(d700.2.2.2.2.2.2.2.1,(d700.2.2.2.2.2.2.2.2.1,(app d700.2.2.2.2.2.2.2.2.2.1 [((4:Int),(d700.2.2.2.2.2.2.1,(x701,((d700.2.2.2.2.2.2.1,x1.1),((0:Int),((0:Int),((0:Int),((0:Int),((0:Int),(false,(0:Int)))))))))))],d700.2.2.2.2.2.2.2.2.2.2))))))))))
 else
 none) fun (d702:T_41) =>
 bif inB (Go.IntKind.wrap .i64 ((↑d702.2.2.2.2.2.2.2.2.2.1.length:Int) - (1:Int))) d702.2.2.2.2.2.2.2.2.2.1.length then
 some (Sum.inl ((),((Go.IntKind.wrap .i64 (d700.2.1+(1:Int))),d702.2.2)))
 else
 none
 else
 none
 else
 some (Sum.inr ((),d700.2.2))
noncomputable def r38_L0q (x2:T_58) (a:T_45):(Unit×(Int×List Int))→Option ((Unit×(Int×List Int)) ⊕ (Unit×List Int)):=fun d35 =>
 bif decide (d35.2.1<(↑x2.2.2.1.length:Int)) then
 Option.bind (
 Option.bind (idxN a.1.2.2.2.1.2 (Int.toNat a.2)) fun (x56:T_58) =>
 bif inB d35.2.1 x56.2.2.1.length then
 Option.bind (idxN a.1.2.2.2.1.2 (Int.toNat a.2)) fun (x57:T_58) =>
 Option.bind (idxN x57.2.2.1 (Int.toNat d35.2.1)) fun (x58:T_61) =>
 bif decide (a.1.1.1=0) then
 none
 else
 Option.bind (
 bif decide (x58.2.1=a.1.2.1) then
 Option.bind (r74 (d35.2.2,(Int.tmod x58.2.2.1 a.1.1.1))) fun (y64:Bool) =>
 some !(y64)
 else
 some false) fun (d65:Bool) =>
 bif d65 then
 bif roomOk false d35.2.2.length 1 8 then
 some ((),app d35.2.2 [(Int.tmod x58.2.2.1 a.1.1.1)])
 else
 none
 else
 some ((),d35.2.2)
 else
 none) fun (d66:(Unit×List Int)) =>
 some (Sum.inl ((),((Go.IntKind.wrap .i64 (d35.2.1+(1:Int))),d66.2)))
 else
 some (Sum.inr ((),d35.2.2))
theorem r38_L0e (x2:T_58) (a:T_45):r38_L0q x2 a=r38_L0 x2 a:=by unfold r38_L0q r38_L0; rfl
noncomputable def r38_L1_s0 (d521:(Unit×(Unit×(Int×List Int)))) (x655:Int) (x656:Int):Option (Unit×(Unit×List Int)) :=
 Option.bind (idxN d521.2.2.2 (Int.toNat d521.2.2.1)) fun (_:Int) =>
 bif inB (Go.IntKind.wrap .i64 (d521.2.2.1 - (1:Int))) ((List.set d521.2.2.2 (Int.toNat d521.2.2.1) x655).length) then
 Option.bind (idxN (List.set d521.2.2.2 (Int.toNat d521.2.2.1) x655) (Int.toNat (Go.IntKind.wrap .i64 (d521.2.2.1 - (1:Int))))) fun (_:Int) =>
 some ((),((),List.set (List.set d521.2.2.2 (Int.toNat d521.2.2.1) x655) (Int.toNat (Go.IntKind.wrap .i64 (d521.2.2.1 - (1:Int)))) x656))
 else
 none
noncomputable def r38_L1q (d220:T_60):(Unit×(Unit×(Int×List Int)))→Option ((Unit×(Unit×(Int×List Int))) ⊕ (Unit×(Unit×List Int))):=fun d521 =>
 Option.bind (
 bif decide (d220.2.2.1<d521.2.2.1) then
 bif inB d521.2.2.1 d521.2.2.2.length then
 Option.bind (idxN d521.2.2.2 (Int.toNat d521.2.2.1)) fun (x537:Int) =>
 bif inB (Go.IntKind.wrap .i64 (d521.2.2.1 - (1:Int))) d521.2.2.2.length then
 Option.bind (idxN d521.2.2.2 (Int.toNat (Go.IntKind.wrap .i64 (d521.2.2.1 - (1:Int))))) fun (x538:Int) =>
 Option.bind (r139 (x537,x538)) fun (y539:Bool) =>
 some y539
 else
 none
 else
 none
 else
 some false) fun (d540:Bool) =>
 bif d540 then
 Option.bind (
 bif inB (Go.IntKind.wrap .i64 (d521.2.2.1 - (1:Int))) d521.2.2.2.length then
 Option.bind (idxN d521.2.2.2 (Int.toNat (Go.IntKind.wrap .i64 (d521.2.2.1 - (1:Int))))) fun (x655:Int) =>
 bif inB d521.2.2.1 d521.2.2.2.length then
 Option.bind (idxN d521.2.2.2 (Int.toNat d521.2.2.1)) fun (x656:Int) =>
 bif inB d521.2.2.1 d521.2.2.2.length then
 sameR (
 r38_L1_s0 d521 x655 x656)
 (
 sameR (
 r38_L1_s0 d521 x655 x656)
 (
 sameR (
 r38_L1_s0 d521 x655 x656)
 (
 sameR (
 r38_L1_s0 d521 x655 x656)
 (
 sameR (
 r38_L1_s0 d521 x655 x656)
 (
 r38_L1_s0 d521 x655 x656)))))
 else
 none
 else
 none
 else
 none) fun (d669:(Unit×(Unit×List Int))) =>
 some (Sum.inl ((),((),((Go.IntKind.wrap .i64 (d521.2.2.1 - (1:Int))),d669.2.2))))
 else
 some (Sum.inr ((),((),d521.2.2.2)))
theorem r38_L1e (d220:T_60):r38_L1q d220=r38_L1 d220:=by unfold r38_L1q r38_L1; simp only [r38_L1_s0,sameR_self]
noncomputable def r38_L2q (d220:T_60):(Unit×(Unit×(Int×List Int)))→Option ((Unit×(Unit×(Int×List Int))) ⊕ (Unit×List Int)):=fun d371 =>
 bif decide (d371.2.2.1<d220.2.2.2.1) then
 Option.bind (loopR (r38_L1q d220) ((),((),d371.2.2))) fun (q670:(Unit×(Unit×List Int))) =>
 some (Sum.inl ((),((),((Go.IntKind.wrap .i64 (d371.2.2.1+(1:Int))),q670.2.2))))
 else
 some (Sum.inr ((),d371.2.2.2))
theorem r38_L2e (d220:T_60):r38_L2q d220=r38_L2 d220:=by unfold r38_L2q r38_L2; simp only [r38_L1e]
noncomputable def r38_L3q:T_60→Option (T_60 ⊕ (Unit×List Int)):=fun d220 =>
 bif decide ((Go.IntKind.wrap .i64 (d220.2.2.2.1 - d220.2.2.1))≤(12:Int)) then
 Option.bind (loopR (r38_L2q d220) ((),((),((Go.IntKind.wrap .i64 (d220.2.2.1+(1:Int))),d220.2.2.2.2.2.2.2)))) fun (q671:(Unit×List Int)) =>
 some (Sum.inr ((),q671.2))
 else
 bif decide (d220.2.2.2.2.1=(0:Int)) then
 none
 else
 bif !(d220.2.2.2.2.2.1) then
 none
 else
 Option.bind (r136 (d220.2.2.2.2.2.2.2,d220.2.2.1,d220.2.2.2.1)) fun (y672:(Int×Int)) =>
 bif decide (y672.2=(2:Int)) then
 none
 else
 Option.bind (
 Option.bind (
 bif d220.2.2.2.2.2.1 then
 some d220.2.2.2.2.2.2.1
 else
 some false) fun (g675:Bool) =>
 bif g675 then
 some (decide (y672.2=(1:Int)))
 else
 some false) fun (d676:Bool) =>
 bif d676 then
 none
 else
 Option.bind (
 bif decide ((0:Int)<d220.2.2.1) then
 bif inB (Go.IntKind.wrap .i64 (d220.2.2.1 - (1:Int))) d220.2.2.2.2.2.2.2.length then
 Option.bind (idxN d220.2.2.2.2.2.2.2 (Int.toNat (Go.IntKind.wrap .i64 (d220.2.2.1 - (1:Int))))) fun (x692:Int) =>
 bif inB y672.1 d220.2.2.2.2.2.2.2.length then
 Option.bind (idxN d220.2.2.2.2.2.2.2 (Int.toNat y672.1)) fun (x693:Int) =>
 Option.bind (r139 (x692,x693)) fun (y694:Bool) =>
 some !(y694)
 else
 none
 else
 none
 else
 some false) fun (d695:Bool) =>
 bif d695 then
 none
 else
 none
theorem r38_L3e:r38_L3q=r38_L3:=by unfold r38_L3q r38_L3; simp only [r38_L2e]
noncomputable def r38_L4_s0 (d700:T_42) (x701:Int) (x1:T_58):Option T_41 :=
 some ((),((),(d700.2.2.1,(d700.2.2.2.1,(d700.2.2.2.2.1,(d700.2.2.2.2.2.1,(d700.2.2.2.2.2.2.1,(d700.2.2.2.2.2.2.2.1,(d700.2.2.2.2.2.2.2.2.1,(app d700.2.2.2.2.2.2.2.2.2.1 [((4:Int),(d700.2.2.2.2.2.2.1,(x701,((d700.2.2.2.2.2.2.1,x1.1),((0:Int),((0:Int),((0:Int),((0:Int),((0:Int),(false,(0:Int)))))))))))],d700.2.2.2.2.2.2.2.2.2.2))))))))))
noncomputable def r38_L4q (q696:(Unit×List Int)) (x1:T_58):T_42→Option (T_42 ⊕ T_44):=fun d700 =>
 bif decide (d700.2.1<(↑q696.2.length:Int)) then
 bif inB d700.2.1 q696.2.length then
 Option.bind (idxN q696.2 (Int.toNat d700.2.1)) fun (x701:Int) =>
 Option.bind (
 sameR (
 bif roomOk false d700.2.2.2.2.2.2.2.2.2.1.length 1 96 then
 r38_L4_s0 d700 x701 x1
 else
 none)
 (
 sameR (
 bif roomOk false d700.2.2.2.2.2.2.2.2.2.1.length 1 96 then
 r38_L4_s0 d700 x701 x1
 else
 none)
 (
 bif roomOk false d700.2.2.2.2.2.2.2.2.2.1.length 1 96 then
 r38_L4_s0 d700 x701 x1
 else
 none))) fun (d702:T_41) =>
 bif inB (Go.IntKind.wrap .i64 ((↑d702.2.2.2.2.2.2.2.2.2.1.length:Int) - (1:Int))) d702.2.2.2.2.2.2.2.2.2.1.length then
 some (Sum.inl ((),((Go.IntKind.wrap .i64 (d700.2.1+(1:Int))),d702.2.2)))
 else
 none
 else
 none
 else
 some (Sum.inr ((),d700.2.2))
theorem r38_L4e (q696:(Unit×List Int)) (x1:T_58):r38_L4q q696 x1=r38_L4 q696 x1:=by unfold r38_L4q r38_L4; simp only [r38_L4_s0,sameR_self]
def sg38:Sig:=⟨[⟨false,.own,E_65⟩,⟨false,.bo,(.int .i64)⟩],[⟨false,.own,E_65⟩]⟩
noncomputable def r38 (a:T_45):Option T_48 :=
 bif inB a.2 a.1.2.2.2.1.2.length then
 Option.bind (idxN a.1.2.2.2.1.2 (Int.toNat a.2)) fun (x1:T_58) =>
 Option.bind (idxN a.1.2.2.2.1.2 (Int.toNat a.2)) fun (x2:T_58) =>
 Option.bind (loopR (r38_L0 x2 a) ((),((0:Int),[]))) fun (q67:(Unit×List Int)) =>
 Option.bind (r127 (Go.IntKind.wrap .u64 (↑q67.2.length:Int))) fun (y68:Int) =>
 Option.bind (loopR r38_L3 ((),((),((0:Int),((↑q67.2.length:Int),(y68,(true,(true,q67.2)))))))) fun (q696:(Unit×List Int)) =>
 Option.bind (loopR (r38_L4 q696 x1) ((),((0:Int),(a.1.1.1,(a.1.1.2.1,(a.1.1.2.2,(a.1.2.1,(a.1.2.2.1,(a.1.2.2.2.1.1,(a.1.2.2.2.1.2,a.1.2.2.2.2)))))))))) fun (q703:T_44) =>
 Option.bind (r103 (q703.2.2.2.2.2.2.2.1,a.2,(Go.IntKind.wrap .i64 (a.2+(1:Int))))) fun (y704:List (T_58)) =>
 some ((q703.2.1,(q703.2.2.1,q703.2.2.2.1)),(q703.2.2.2.2.1,(q703.2.2.2.2.2.1,((q703.2.2.2.2.2.2.1,y704),q703.2.2.2.2.2.2.2.2))))
 else
 none
noncomputable def r38q:T_45→Option T_48:=fun a =>
 bif inB a.2 a.1.2.2.2.1.2.length then
 Option.bind (idxN a.1.2.2.2.1.2 (Int.toNat a.2)) fun (x1:T_58) =>
 Option.bind (idxN a.1.2.2.2.1.2 (Int.toNat a.2)) fun (x2:T_58) =>
 Option.bind (loopR (r38_L0q x2 a) ((),((0:Int),[]))) fun (q67:(Unit×List Int)) =>
 Option.bind (r127 (Go.IntKind.wrap .u64 (↑q67.2.length:Int))) fun (y68:Int) =>
 Option.bind (loopR r38_L3q ((),((),((0:Int),((↑q67.2.length:Int),(y68,(true,(true,q67.2)))))))) fun (q696:(Unit×List Int)) =>
 Option.bind (loopR (r38_L4q q696 x1) ((),((0:Int),(a.1.1.1,(a.1.1.2.1,(a.1.1.2.2,(a.1.2.1,(a.1.2.2.1,(a.1.2.2.2.1.1,(a.1.2.2.2.1.2,a.1.2.2.2.2)))))))))) fun (q703:T_44) =>
 Option.bind (r103 (q703.2.2.2.2.2.2.2.1,a.2,(Go.IntKind.wrap .i64 (a.2+(1:Int))))) fun (y704:List (T_58)) =>
 some ((q703.2.1,(q703.2.2.1,q703.2.2.2.1)),(q703.2.2.2.2.1,(q703.2.2.2.2.2.1,((q703.2.2.2.2.2.2.1,y704),q703.2.2.2.2.2.2.2.2))))
 else
 none
theorem r38e:r38q=r38:=by unfold r38q r38; simp only [r38_L0e,r38_L3e,r38_L4e]
def an38:Ann:=.two (.leaf) (.two (.two (.inl 2 33 (.two (.leaf) (.two (.leaf) (.two (.two (.leaf) (.one (.loop [0,1,4,33,43,44] [0] [(38,(.int .i64))] [.tmp 38 (.own 38 [(0,0)] (.int .i64)),.tmp 45 (.int .i64),.row 38 [.sl .own (.int .i64)]] [⟨.exit 0,[],[.tmp 38 (.own 38 [(0,0)] (.int .i64)),.row 38 [.sl .own (.int .i64)]]⟩] (.two (.leaf) (.two (.two (.leaf) (.leaf)) (.two (.join [0,1,4,33,43,44,45] [0] [⟨.normal,[(38,(.int .i64))],[.tmp 38 (.own 38 [(0,0)] (.int .i64)),.row 38 [.sl .own (.int .i64)]]⟩] (.one (.two (.leaf) (.two (.draw 7) (.two (.join [0,1,4,33,38,41,43,44,45] [0,38] [⟨.normal,[],[.tmp 69 (.bool)]⟩] (.draw 10)) (.two (.leaf) (.leaf))))))) (.leaf))))))) (.two (.inl 1 78 (.two (.leaf) (.inl 5 89 (.two (.leaf) (.two (.leaf) (.one (.loop [0,1,4] [0] [] [.tmp 38 (.own 38 [(0,0)] (.int .i64)),.tmp 89 (.own 38 [(0,0)] (.int .i64)),.tmp 90 (.int .i64),.tmp 91 (.int .i64),.tmp 92 (.int .i64),.tmp 97 (.bool),.tmp 98 (.bool),.row 38 [.sl .own (.int .i64)]] [⟨.ret,[],[.tmp 38 (.own 38 [(0,0)] (.int .i64)),.row 38 [.sl .own (.int .i64)]]⟩] (.one (.two (.leaf) (.two (.two (.leaf) (.two (.two (.inl 3 223 (.two (.leaf) (.one (.loop [0,1,4,224,225] [0] [] [.tmp 38 (.own 38 [(0,0)] (.int .i64)),.tmp 223 (.own 38 [(0,0)] (.int .i64)),.tmp 229 (.int .i64),.row 38 [.sl .own (.int .i64)]] [⟨.exit 0,[],[.tmp 38 (.own 38 [(0,0)] (.int .i64)),.row 38 [.sl .own (.int .i64)]]⟩] (.two (.two (.leaf) (.two (.leaf) (.leaf))) (.two (.one (.two (.leaf) (.one (.loop [0,1,4,224,225,229] [0] [] [.tmp 38 (.own 38 [(0,0)] (.int .i64)),.tmp 223 (.own 38 [(0,0)] (.int .i64)),.tmp 230 (.int .i64),.row 38 [.sl .own (.int .i64)]] [⟨.exit 2,[],[.tmp 38 (.own 38 [(0,0)] (.int .i64)),.tmp 223 (.own 38 [(0,0)] (.int .i64)),.row 38 [.sl .own (.int .i64)]]⟩] (.two (.two (.join [0,1,4,38,223,224,225,229,230] [0,38] [⟨.normal,[],[.tmp 253 (.bool)]⟩] (.draw 13)) (.two (.leaf) (.leaf))) (.two (.one (.join [0,1,4,224,225,229,230] [0] [⟨.normal,[],[.tmp 38 (.own 38 [(0,0)] (.int .i64)),.tmp 223 (.own 38 [(0,0)] (.int .i64)),.row 38 [.sl .own (.int .i64)]]⟩] (.stages [0,1,2,3,4,5,6,7,8,9,10,11,12,13,14]))) (.leaf))))))) (.leaf)))))) (.leaf)) (.leaf)) (.leaf))) (.two (.two (.leaf) (.two (.two .leaf .leaf) (.leaf))) (.two (.two (.leaf) (.two (.two .leaf .leaf) (.leaf))) (.two (.leaf) (.two (.two (.leaf) (.two (.two .leaf .leaf) (.leaf))) (.two (.two (.join [0,1,4,38,89,90,91,92,97,98,99,100] [0,38] [⟨.normal,[],[.tmp 157 (.bool)]⟩] (.segs [(4,([0,1,4,38,89,90,91,92,97,98,99,100,101],([0,38],[.tmp 153 (.bool)])))])) (.two (.two .leaf .leaf) (.leaf))) (.two (.two (.join [0,1,4,38,89,90,91,92,97,98,99,100] [0,38] [⟨.normal,[],[.tmp 176 (.bool)]⟩] (.draw 12)) (.two (.two .leaf .leaf) (.leaf))) (.two .leaf .leaf)))))))))))))) (.leaf))) (.leaf)) (.two (.leaf) (.leaf)))))) (.leaf)) (.one (.loop [1,4,18,19] [38] [] [.tmp 0 (.pt 0 [(0,0)] 0 0 0),.tmp 20 (.int .i64),.box 0 [.int .i64,.sl .ro (.pair (.int .i64) (.int .i64)),.int .i64,.int .i64,.int .i64,.int .i64,.sl .own E_72,.sl .own E_73,.sl .own E_74,.sl .own E_77,.int .i64,.int .i64]] [⟨.exit 0,[],[.tmp 0 (.pt 0 [(0,0)] 0 0 0),.box 0 [.int .i64,.sl .ro (.pair (.int .i64) (.int .i64)),.int .i64,.int .i64,.int .i64,.int .i64,.sl .own E_72,.sl .own E_73,.sl .own E_74,.sl .own E_77,.int .i64,.int .i64]]⟩] (.two (.leaf) (.two (.two (.leaf) (.leaf)) (.two (.one (.two (.leaf) (.inl 4 272 (.two (.leaf) (.two (.join [1,4,18,19,20] [38] [⟨.normal,[],[.tmp 0 (.pt 0 [(0,0)] 0 0 0),.tmp 272 (.pt 0 [(0,0)] 0 0 0),.box 0 [.int .i64,.sl .ro (.pair (.int .i64) (.int .i64)),.int .i64,.int .i64,.int .i64,.int .i64,.sl .own E_72,.sl .own E_73,.sl .own E_74,.sl .own E_77,.int .i64,.int .i64]]⟩] (.drawT [0,1,2,3,4,5,6,7,8,9,10,11,12,13,14,15,16,17,18,19] [0])) (.two (.draw 12) (.leaf)))) (.leaf)))) (.leaf))))))) (.inl 2 318 (.leaf) (.leaf)))
theorem s38:SoundM cx.P cx.G 38 sg38 r38:=by
 have e:denM cx [(74,⟨sg74,r74⟩),(103,⟨sg103,r103⟩),(127,⟨sg127,r127⟩),(136,⟨sg136,r136⟩),(139,⟨sg139,r139⟩)] an38 Tryd.f38.ntmps (Tryd.f38.body.getD .skip) Tryd.f38.results.toList sg38=r38q:=by kernel_rfl
 rw [← r38e,← e]
 exact sound_of_denM (c:=cx) (Known.cons (.ofF s74 (by kernel_rfl)) Tryd.func74 (by kernel_rfl) (by kernel_rfl) (Known.cons (.ofD s103 (by kernel_rfl)) Tryd.func103 (by kernel_rfl) (by kernel_rfl) (Known.cons (.ofF s127 (by kernel_rfl)) Tryd.func127 (by kernel_rfl) (by kernel_rfl) (Known.cons (.ofF s136 (by kernel_rfl)) Tryd.func136 (by kernel_rfl) (by kernel_rfl) (Known.cons (.ofF s139 (by kernel_rfl)) Tryd.func139 (by kernel_rfl) (by kernel_rfl) (Known.nil)))))) Tryd.func38 (by kernel_rfl) (Nat.le_of_ble_eq_true (by kernel_rfl)) rfl
end Go.Hv
