import Derived.Test.YtlfcemfcgmidlaaDoorHvOne
namespace Go.Hv
open Go.RowKit Go.Proofs Go.V Go.Proofs
noncomputable def r66_L0 (x2:T_58) (a:T_45) (d35:(Unit×(Int×List Int))):Option ((Unit×(Int×List Int)) ⊕ (Unit×List Int)) :=
 bif decide (d35.2.1<(↑x2.2.2.1.length:Int)) then
 Option.bind (
 Option.bind (idxN a.1.2.2.2.1.2 (Int.toNat a.2)) fun (x56:T_58) =>
 bif inB d35.2.1 x56.2.2.1.length then
 Option.bind (idxN a.1.2.2.2.1.2 (Int.toNat a.2)) fun (x57:T_58) =>
 Option.bind (idxN x57.2.2.1 (Int.toNat d35.2.1)) fun (x58:T_61) =>
 bif decide (a.1.1.1=0) then
 none
 else
 Option.bind (
 bif decide (x58.2.1=a.1.2.1) then
 Option.bind (r74 (d35.2.2,(Int.tmod x58.2.2.1 a.1.1.1))) fun (y64:Bool) =>
 some !(y64)
 else
 some false) fun (d65:Bool) =>
 bif d65 then
 bif roomOk false d35.2.2.length 1 8 then
 some ((),app d35.2.2 [(Int.tmod x58.2.2.1 a.1.1.1)])
 else
 none
 else
 some ((),d35.2.2)
 else
 none) fun (d66:(Unit×List Int)) =>
 some (Sum.inl ((),((Go.IntKind.wrap .i64 (d35.2.1+(1:Int))),d66.2)))
 else
 some (Sum.inr ((),d35.2.2))
noncomputable def r66_L1 (d220:T_60) (d521:(Unit×(Unit×(Int×List Int)))):Option ((Unit×(Unit×(Int×List Int))) ⊕ (Unit×(Unit×List Int))) :=
 Option.bind (
 bif decide (d220.2.2.1<d521.2.2.1) then
 bif inB d521.2.2.1 d521.2.2.2.length then
 Option.bind (idxN d521.2.2.2 (Int.toNat d521.2.2.1)) fun (x537:Int) =>
 bif inB (Go.IntKind.wrap .i64 (d521.2.2.1 - (1:Int))) d521.2.2.2.length then
 Option.bind (idxN d521.2.2.2 (Int.toNat (Go.IntKind.wrap .i64 (d521.2.2.1 - (1:Int))))) fun (x538:Int) =>
 Option.bind (r139 (x537,x538)) fun (y539:Bool) =>
 some y539
 else
 none
 else
 none
 else
 some false) fun (d540:Bool) =>
 bif d540 then
 Option.bind (
 bif inB (Go.IntKind.wrap .i64 (d521.2.2.1 - (1:Int))) d521.2.2.2.length then
 Option.bind (idxN d521.2.2.2 (Int.toNat (Go.IntKind.wrap .i64 (d521.2.2.1 - (1:Int))))) fun (x655:Int) =>
 bif inB d521.2.2.1 d521.2.2.2.length then
 Option.bind (idxN d521.2.2.2 (Int.toNat d521.2.2.1)) fun (x656:Int) =>
 bif inB d521.2.2.1 d521.2.2.2.length then
 Option.bind (idxN d521.2.2.2 (Int.toNat d521.2.2.1)) fun (_:Int) =>
 bif inB (Go.IntKind.wrap .i64 (d521.2.2.1 - (1:Int))) ((List.set d521.2.2.2 (Int.toNat d521.2.2.1) x655).length) then
 Option.bind (idxN (List.set d521.2.2.2 (Int.toNat d521.2.2.1) x655) (Int.toNat (Go.IntKind.wrap .i64 (d521.2.2.1 - (1:Int))))) fun (_:Int) =>
 some ((),((),List.set (List.set d521.2.2.2 (Int.toNat d521.2.2.1) x655) (Int.toNat (Go.IntKind.wrap .i64 (d521.2.2.1 - (1:Int)))) x656))
 else
 none
 else
 none
 else
 none
 else
 none) fun (d669:(Unit×(Unit×List Int))) =>
 some (Sum.inl ((),((),((Go.IntKind.wrap .i64 (d521.2.2.1 - (1:Int))),d669.2.2))))
 else
 some (Sum.inr ((),((),d521.2.2.2)))
noncomputable def r66_L2 (d220:T_60) (d371:(Unit×(Unit×(Int×List Int)))):Option ((Unit×(Unit×(Int×List Int))) ⊕ (Unit×List Int)) :=
 bif decide (d371.2.2.1<d220.2.2.2.1) then
 Option.bind (loopR (r66_L1 d220) ((),((),d371.2.2))) fun (q670:(Unit×(Unit×List Int))) =>
 some (Sum.inl ((),((),((Go.IntKind.wrap .i64 (d371.2.2.1+(1:Int))),q670.2.2))))
 else
 some (Sum.inr ((),d371.2.2.2))
noncomputable def r66_L3 (d220:T_60):Option (T_60 ⊕ (Unit×List Int)) :=
 bif decide ((Go.IntKind.wrap .i64 (d220.2.2.2.1 - d220.2.2.1))≤(12:Int)) then
 Option.bind (loopR (r66_L2 d220) ((),((),((Go.IntKind.wrap .i64 (d220.2.2.1+(1:Int))),d220.2.2.2.2.2.2.2)))) fun (q671:(Unit×List Int)) =>
 some (Sum.inr ((),q671.2))
 else
 bif decide (d220.2.2.2.2.1=(0:Int)) then
 none
 else
 bif !(d220.2.2.2.2.2.1) then
 none
 else
 Option.bind (r136 (d220.2.2.2.2.2.2.2,d220.2.2.1,d220.2.2.2.1)) fun (y672:(Int×Int)) =>
 bif decide (y672.2=(2:Int)) then
 none
 else
 Option.bind (
 Option.bind (
 bif d220.2.2.2.2.2.1 then
 some d220.2.2.2.2.2.2.1
 else
 some false) fun (g675:Bool) =>
 bif g675 then
 some (decide (y672.2=(1:Int)))
 else
 some false) fun (d676:Bool) =>
 bif d676 then
 none
 else
 Option.bind (
 bif decide ((0:Int)<d220.2.2.1) then
 bif inB (Go.IntKind.wrap .i64 (d220.2.2.1 - (1:Int))) d220.2.2.2.2.2.2.2.length then
 Option.bind (idxN d220.2.2.2.2.2.2.2 (Int.toNat (Go.IntKind.wrap .i64 (d220.2.2.1 - (1:Int))))) fun (x692:Int) =>
 bif inB y672.1 d220.2.2.2.2.2.2.2.length then
 Option.bind (idxN d220.2.2.2.2.2.2.2 (Int.toNat y672.1)) fun (x693:Int) =>
 Option.bind (r139 (x692,x693)) fun (y694:Bool) =>
 some !(y694)
 else
 none
 else
 none
 else
 some false) fun (d695:Bool) =>
 bif d695 then
 none
 else
 none
noncomputable def r66_L4 (x792:T_58) (d699:T_36) (d793:Int):Option (Int ⊕ (Unit ⊕ Int)) :=
 bif decide (d793<(↑x792.2.2.1.length:Int)) then
 Option.bind (idxN d699.2.2.2.2.2.2.2.2.1 d699.2.1.2) fun (x794:T_58) =>
 bif inB d793 x794.2.2.1.length then
 Option.bind (idxN d699.2.2.2.2.2.2.2.2.1 d699.2.1.2) fun (x795:T_58) =>
 Option.bind (idxN x795.2.2.1 (Int.toNat d793)) fun (x796:T_61) =>
 bif x796.1 then
 some (Sum.inr (Sum.inr d793))
 else
 some (Sum.inl (Go.IntKind.wrap .i64 (d793+(1:Int))))
 else
 none
 else
 some (Sum.inr (Sum.inl ()))
noncomputable def r66_L5 (x817:T_58) (x816:T_58) (d824:T_34):Option (T_34 ⊕ T_44) :=
 bif decide (d824.2.2.2.1<(↑x817.2.2.2.1.length:Int)) then
 Option.bind (idxN d824.2.2.2.2.2.2.2.2.2.2.1 d824.2.2.1.2.2.1) fun (x825:T_58) =>
 bif inB d824.2.2.2.1 x825.2.2.2.1.length then
 Option.bind (idxN d824.2.2.2.2.2.2.2.2.2.2.1 d824.2.2.1.2.2.1) fun (x826:T_58) =>
 Option.bind (idxN x826.2.2.2.1 (Int.toNat d824.2.2.2.1)) fun (x827:Int) =>
 Option.bind (
 bif roomOk false d824.2.2.2.2.2.2.2.2.2.2.2.1.length 1 96 then
 some ((),((),(((),((),(d824.2.2.1.2.2.1,()))),((),(d824.2.2.2.2.1,(d824.2.2.2.2.2.1,(d824.2.2.2.2.2.2.1,(d824.2.2.2.2.2.2.2.1,(d824.2.2.2.2.2.2.2.2.1,(d824.2.2.2.2.2.2.2.2.2.1,(d824.2.2.2.2.2.2.2.2.2.2.1,(app d824.2.2.2.2.2.2.2.2.2.2.2.1 [((4:Int),(d824.2.2.2.2.2.2.2.2.1,(x827,((d824.2.2.2.2.2.2.2.2.1,x816.1),((0:Int),((0:Int),((0:Int),((0:Int),((0:Int),(false,(0:Int)))))))))))],d824.2.2.2.2.2.2.2.2.2.2.2.2))))))))))))
 else
 none) fun (d828:T_33) =>
 bif inB (Go.IntKind.wrap .i64 ((↑d828.2.2.2.2.2.2.2.2.2.2.2.1.length:Int) - (1:Int))) d828.2.2.2.2.2.2.2.2.2.2.2.1.length then
 Option.bind (idxN d828.2.2.2.2.2.2.2.2.2.2.2.1 (Int.toNat (Go.IntKind.wrap .i64 ((↑d828.2.2.2.2.2.2.2.2.2.2.2.1.length:Int) - (1:Int))))) fun (x829:T_59) =>
 some (Sum.inl ((),((),(((),((),(d828.2.2.1.2.2.1,()))),((Go.IntKind.wrap .i64 (d824.2.2.2.1+(1:Int))),(d828.2.2.2.2.1,(d828.2.2.2.2.2.1,(d828.2.2.2.2.2.2.1,(d828.2.2.2.2.2.2.2.1,(d828.2.2.2.2.2.2.2.2.1,(d828.2.2.2.2.2.2.2.2.2.1,(d828.2.2.2.2.2.2.2.2.2.2.1,(List.set d828.2.2.2.2.2.2.2.2.2.2.2.1 (Int.toNat (Go.IntKind.wrap .i64 ((↑d828.2.2.2.2.2.2.2.2.2.2.2.1.length:Int) - (1:Int)))) (x829.1,(x829.2.1,(x829.2.2.1,(x829.2.2.2.1,(x829.2.2.2.2.1,(x829.2.2.2.2.2.1,(x829.2.2.2.2.2.2.1,(x829.2.2.2.2.2.2.2.1,(x829.2.2.2.2.2.2.2.2.1,(true,x829.2.2.2.2.2.2.2.2.2.2)))))))))),d828.2.2.2.2.2.2.2.2.2.2.2.2)))))))))))))
 else
 none
 else
 none
 else
 some (Sum.inr ((),d824.2.2.2.2))
noncomputable def r66_L0q (x2:T_58) (a:T_45):(Unit×(Int×List Int))→Option ((Unit×(Int×List Int)) ⊕ (Unit×List Int)):=fun d35 =>
 bif decide (d35.2.1<(↑x2.2.2.1.length:Int)) then
 Option.bind (
 Option.bind (idxN a.1.2.2.2.1.2 (Int.toNat a.2)) fun (x56:T_58) =>
 bif inB d35.2.1 x56.2.2.1.length then
 Option.bind (idxN a.1.2.2.2.1.2 (Int.toNat a.2)) fun (x57:T_58) =>
 Option.bind (idxN x57.2.2.1 (Int.toNat d35.2.1)) fun (x58:T_61) =>
 bif decide (a.1.1.1=0) then
 none
 else
 Option.bind (
 bif decide (x58.2.1=a.1.2.1) then
 Option.bind (r74 (d35.2.2,(Int.tmod x58.2.2.1 a.1.1.1))) fun (y64:Bool) =>
 some !(y64)
 else
 some false) fun (d65:Bool) =>
 bif d65 then
 bif roomOk false d35.2.2.length 1 8 then
 some ((),app d35.2.2 [(Int.tmod x58.2.2.1 a.1.1.1)])
 else
 none
 else
 some ((),d35.2.2)
 else
 none) fun (d66:(Unit×List Int)) =>
 some (Sum.inl ((),((Go.IntKind.wrap .i64 (d35.2.1+(1:Int))),d66.2)))
 else
 some (Sum.inr ((),d35.2.2))
theorem r66_L0e (x2:T_58) (a:T_45):r66_L0q x2 a=r66_L0 x2 a:=by unfold r66_L0q r66_L0; rfl
noncomputable def r66_L1_s0 (d521:(Unit×(Unit×(Int×List Int)))) (x655:Int) (x656:Int):Option (Unit×(Unit×List Int)) :=
 Option.bind (idxN d521.2.2.2 (Int.toNat d521.2.2.1)) fun (_:Int) =>
 bif inB (Go.IntKind.wrap .i64 (d521.2.2.1 - (1:Int))) ((List.set d521.2.2.2 (Int.toNat d521.2.2.1) x655).length) then
 Option.bind (idxN (List.set d521.2.2.2 (Int.toNat d521.2.2.1) x655) (Int.toNat (Go.IntKind.wrap .i64 (d521.2.2.1 - (1:Int))))) fun (_:Int) =>
 some ((),((),List.set (List.set d521.2.2.2 (Int.toNat d521.2.2.1) x655) (Int.toNat (Go.IntKind.wrap .i64 (d521.2.2.1 - (1:Int)))) x656))
 else
 none
noncomputable def r66_L1q (d220:T_60):(Unit×(Unit×(Int×List Int)))→Option ((Unit×(Unit×(Int×List Int))) ⊕ (Unit×(Unit×List Int))):=fun d521 =>
 Option.bind (
 bif decide (d220.2.2.1<d521.2.2.1) then
 bif inB d521.2.2.1 d521.2.2.2.length then
 Option.bind (idxN d521.2.2.2 (Int.toNat d521.2.2.1)) fun (x537:Int) =>
 bif inB (Go.IntKind.wrap .i64 (d521.2.2.1 - (1:Int))) d521.2.2.2.length then
 Option.bind (idxN d521.2.2.2 (Int.toNat (Go.IntKind.wrap .i64 (d521.2.2.1 - (1:Int))))) fun (x538:Int) =>
 Option.bind (r139 (x537,x538)) fun (y539:Bool) =>
 some y539
 else
 none
 else
 none
 else
 some false) fun (d540:Bool) =>
 bif d540 then
 Option.bind (
 bif inB (Go.IntKind.wrap .i64 (d521.2.2.1 - (1:Int))) d521.2.2.2.length then
 Option.bind (idxN d521.2.2.2 (Int.toNat (Go.IntKind.wrap .i64 (d521.2.2.1 - (1:Int))))) fun (x655:Int) =>
 bif inB d521.2.2.1 d521.2.2.2.length then
 Option.bind (idxN d521.2.2.2 (Int.toNat d521.2.2.1)) fun (x656:Int) =>
 bif inB d521.2.2.1 d521.2.2.2.length then
 sameR (
 r66_L1_s0 d521 x655 x656)
 (
 sameR (
 r66_L1_s0 d521 x655 x656)
 (
 sameR (
 r66_L1_s0 d521 x655 x656)
 (
 sameR (
 r66_L1_s0 d521 x655 x656)
 (
 sameR (
 r66_L1_s0 d521 x655 x656)
 (
 r66_L1_s0 d521 x655 x656)))))
 else
 none
 else
 none
 else
 none) fun (d669:(Unit×(Unit×List Int))) =>
 some (Sum.inl ((),((),((Go.IntKind.wrap .i64 (d521.2.2.1 - (1:Int))),d669.2.2))))
 else
 some (Sum.inr ((),((),d521.2.2.2)))
theorem r66_L1e (d220:T_60):r66_L1q d220=r66_L1 d220:=by unfold r66_L1q r66_L1; simp only [r66_L1_s0,sameR_self]
noncomputable def r66_L2q (d220:T_60):(Unit×(Unit×(Int×List Int)))→Option ((Unit×(Unit×(Int×List Int))) ⊕ (Unit×List Int)):=fun d371 =>
 bif decide (d371.2.2.1<d220.2.2.2.1) then
 Option.bind (loopR (r66_L1q d220) ((),((),d371.2.2))) fun (q670:(Unit×(Unit×List Int))) =>
 some (Sum.inl ((),((),((Go.IntKind.wrap .i64 (d371.2.2.1+(1:Int))),q670.2.2))))
 else
 some (Sum.inr ((),d371.2.2.2))
theorem r66_L2e (d220:T_60):r66_L2q d220=r66_L2 d220:=by unfold r66_L2q r66_L2; simp only [r66_L1e]
noncomputable def r66_L3q:T_60→Option (T_60 ⊕ (Unit×List Int)):=fun d220 =>
 bif decide ((Go.IntKind.wrap .i64 (d220.2.2.2.1 - d220.2.2.1))≤(12:Int)) then
 Option.bind (loopR (r66_L2q d220) ((),((),((Go.IntKind.wrap .i64 (d220.2.2.1+(1:Int))),d220.2.2.2.2.2.2.2)))) fun (q671:(Unit×List Int)) =>
 some (Sum.inr ((),q671.2))
 else
 bif decide (d220.2.2.2.2.1=(0:Int)) then
 none
 else
 bif !(d220.2.2.2.2.2.1) then
 none
 else
 Option.bind (r136 (d220.2.2.2.2.2.2.2,d220.2.2.1,d220.2.2.2.1)) fun (y672:(Int×Int)) =>
 bif decide (y672.2=(2:Int)) then
 none
 else
 Option.bind (
 Option.bind (
 bif d220.2.2.2.2.2.1 then
 some d220.2.2.2.2.2.2.1
 else
 some false) fun (g675:Bool) =>
 bif g675 then
 some (decide (y672.2=(1:Int)))
 else
 some false) fun (d676:Bool) =>
 bif d676 then
 none
 else
 Option.bind (
 bif decide ((0:Int)<d220.2.2.1) then
 bif inB (Go.IntKind.wrap .i64 (d220.2.2.1 - (1:Int))) d220.2.2.2.2.2.2.2.length then
 Option.bind (idxN d220.2.2.2.2.2.2.2 (Int.toNat (Go.IntKind.wrap .i64 (d220.2.2.1 - (1:Int))))) fun (x692:Int) =>
 bif inB y672.1 d220.2.2.2.2.2.2.2.length then
 Option.bind (idxN d220.2.2.2.2.2.2.2 (Int.toNat y672.1)) fun (x693:Int) =>
 Option.bind (r139 (x692,x693)) fun (y694:Bool) =>
 some !(y694)
 else
 none
 else
 none
 else
 some false) fun (d695:Bool) =>
 bif d695 then
 none
 else
 none
theorem r66_L3e:r66_L3q=r66_L3:=by unfold r66_L3q r66_L3; simp only [r66_L2e]
noncomputable def r66_L4q (x792:T_58) (d699:T_36):Int→Option (Int ⊕ (Unit ⊕ Int)):=fun d793 =>
 bif decide (d793<(↑x792.2.2.1.length:Int)) then
 Option.bind (idxN d699.2.2.2.2.2.2.2.2.1 d699.2.1.2) fun (x794:T_58) =>
 bif inB d793 x794.2.2.1.length then
 Option.bind (idxN d699.2.2.2.2.2.2.2.2.1 d699.2.1.2) fun (x795:T_58) =>
 Option.bind (idxN x795.2.2.1 (Int.toNat d793)) fun (x796:T_61) =>
 bif x796.1 then
 some (Sum.inr (Sum.inr d793))
 else
 some (Sum.inl (Go.IntKind.wrap .i64 (d793+(1:Int))))
 else
 none
 else
 some (Sum.inr (Sum.inl ()))
theorem r66_L4e (x792:T_58) (d699:T_36):r66_L4q x792 d699=r66_L4 x792 d699:=by unfold r66_L4q r66_L4; rfl
noncomputable def r66_L5_s0 (d824:T_34) (x827:Int) (x816:T_58):Option T_33 :=
 some ((),((),(((),((),(d824.2.2.1.2.2.1,()))),((),(d824.2.2.2.2.1,(d824.2.2.2.2.2.1,(d824.2.2.2.2.2.2.1,(d824.2.2.2.2.2.2.2.1,(d824.2.2.2.2.2.2.2.2.1,(d824.2.2.2.2.2.2.2.2.2.1,(d824.2.2.2.2.2.2.2.2.2.2.1,(app d824.2.2.2.2.2.2.2.2.2.2.2.1 [((4:Int),(d824.2.2.2.2.2.2.2.2.1,(x827,((d824.2.2.2.2.2.2.2.2.1,x816.1),((0:Int),((0:Int),((0:Int),((0:Int),((0:Int),(false,(0:Int)))))))))))],d824.2.2.2.2.2.2.2.2.2.2.2.2))))))))))))
noncomputable def r66_L5q (x817:T_58) (x816:T_58):T_34→Option (T_34 ⊕ T_44):=fun d824 =>
 bif decide (d824.2.2.2.1<(↑x817.2.2.2.1.length:Int)) then
 Option.bind (idxN d824.2.2.2.2.2.2.2.2.2.2.1 d824.2.2.1.2.2.1) fun (x825:T_58) =>
 bif inB d824.2.2.2.1 x825.2.2.2.1.length then
 Option.bind (idxN d824.2.2.2.2.2.2.2.2.2.2.1 d824.2.2.1.2.2.1) fun (x826:T_58) =>
 Option.bind (idxN x826.2.2.2.1 (Int.toNat d824.2.2.2.1)) fun (x827:Int) =>
 Option.bind (
 sameR (
 bif roomOk false d824.2.2.2.2.2.2.2.2.2.2.2.1.length 1 96 then
 r66_L5_s0 d824 x827 x816
 else
 none)
 (
 sameR (
 bif roomOk false d824.2.2.2.2.2.2.2.2.2.2.2.1.length 1 96 then
 r66_L5_s0 d824 x827 x816
 else
 none)
 (
 bif roomOk false d824.2.2.2.2.2.2.2.2.2.2.2.1.length 1 96 then
 r66_L5_s0 d824 x827 x816
 else
 none))) fun (d828:T_33) =>
 bif inB (Go.IntKind.wrap .i64 ((↑d828.2.2.2.2.2.2.2.2.2.2.2.1.length:Int) - (1:Int))) d828.2.2.2.2.2.2.2.2.2.2.2.1.length then
 Option.bind (idxN d828.2.2.2.2.2.2.2.2.2.2.2.1 (Int.toNat (Go.IntKind.wrap .i64 ((↑d828.2.2.2.2.2.2.2.2.2.2.2.1.length:Int) - (1:Int))))) fun (x829:T_59) =>
 some (Sum.inl ((),((),(((),((),(d828.2.2.1.2.2.1,()))),((Go.IntKind.wrap .i64 (d824.2.2.2.1+(1:Int))),(d828.2.2.2.2.1,(d828.2.2.2.2.2.1,(d828.2.2.2.2.2.2.1,(d828.2.2.2.2.2.2.2.1,(d828.2.2.2.2.2.2.2.2.1,(d828.2.2.2.2.2.2.2.2.2.1,(d828.2.2.2.2.2.2.2.2.2.2.1,(List.set d828.2.2.2.2.2.2.2.2.2.2.2.1 (Int.toNat (Go.IntKind.wrap .i64 ((↑d828.2.2.2.2.2.2.2.2.2.2.2.1.length:Int) - (1:Int)))) (x829.1,(x829.2.1,(x829.2.2.1,(x829.2.2.2.1,(x829.2.2.2.2.1,(x829.2.2.2.2.2.1,(x829.2.2.2.2.2.2.1,(x829.2.2.2.2.2.2.2.1,(x829.2.2.2.2.2.2.2.2.1,(true,x829.2.2.2.2.2.2.2.2.2.2)))))))))),d828.2.2.2.2.2.2.2.2.2.2.2.2)))))))))))))
 else
 none
 else
 none
 else
 some (Sum.inr ((),d824.2.2.2.2))
theorem r66_L5e (x817:T_58) (x816:T_58):r66_L5q x817 x816=r66_L5 x817 x816:=by unfold r66_L5q r66_L5; simp only [r66_L5_s0,sameR_self]
def sg66:Sig:=⟨[⟨false,.own,E_65⟩,⟨false,.bo,(.int .i64)⟩],[⟨false,.own,E_65⟩]⟩
noncomputable def r66 (a:T_45):Option T_48 :=
 bif inB a.2 a.1.2.2.2.1.2.length then
 Option.bind (idxN a.1.2.2.2.1.2 (Int.toNat a.2)) fun (_:T_58) =>
 Option.bind (idxN a.1.2.2.2.1.2 (Int.toNat a.2)) fun (x2:T_58) =>
 Option.bind (loopR (r66_L0 x2 a) ((),((0:Int),[]))) fun (q67:(Unit×List Int)) =>
 Option.bind (r127 (Go.IntKind.wrap .u64 (↑q67.2.length:Int))) fun (y68:Int) =>
 Option.bind (loopR r66_L3 ((),((),((0:Int),((↑q67.2.length:Int),(y68,(true,(true,q67.2)))))))) fun (q696:(Unit×List Int)) =>
 Option.bind (idxN a.1.2.2.2.1.2 (Int.toNat a.2)) fun (x697:T_58) =>
 Option.bind (idxN a.1.2.2.2.1.2 (Int.toNat a.2)) fun (x698:T_58) =>
 Option.bind (
 bif roomOk false a.1.2.2.2.2.2.2.1.length 1 48 then
 some ((),((((),((),())),(Int.toNat a.2)),(a.1.1.1,(a.1.1.2.1,(a.1.1.2.2,(a.1.2.1,(a.1.2.2.1,(a.1.2.2.2.1.1,(a.1.2.2.2.1.2,(a.1.2.2.2.2.1,(a.1.2.2.2.2.2.1,(app a.1.2.2.2.2.2.2.1 [(a.1.2.2.1,((4:Int),(x698.1,((0:Int),((0:Int),(0:Int))))))],(a.1.2.2.2.2.2.2.2.1,x697.1)))))))))))))
 else
 none) fun (d699:T_36) =>
 bif decide ((↑q696.2.length:Int)=(0:Int)) then
 Option.bind (r103 (d699.2.2.2.2.2.2.2.2.1,a.2,(Go.IntKind.wrap .i64 (a.2+(1:Int))))) fun (y700:List (T_58)) =>
 some ((d699.2.2.1,(d699.2.2.2.1,d699.2.2.2.2.1)),(d699.2.2.2.2.2.1,(d699.2.2.2.2.2.2.1,((d699.2.2.2.2.2.2.2.1,y700),d699.2.2.2.2.2.2.2.2.2))))
 else
 Option.bind (
 Option.bind (idxN d699.2.2.2.2.2.2.2.2.1 d699.2.1.2) fun (_:T_58) =>
 Option.bind (
 Option.bind (idxN d699.2.2.2.2.2.2.2.2.1 d699.2.1.2) fun (x792:T_58) =>
 Option.bind (loopR (r66_L4 x792 d699) (0:Int)) fun (q797:(Unit ⊕ Int)) =>
 Sum.elim (fun (_:Unit) =>
 some (-1:Int))
 (fun (v799:Int) =>
 some v799) q797) fun (d800:Int) =>
 bif decide ((0:Int)≤d800) then
 Option.bind (
 Option.bind (idxN d699.2.2.2.2.2.2.2.2.1 d699.2.1.2) fun (x808:T_58) =>
 Option.bind (r99 q696.2) fun (y809:List Int) =>
 Option.bind (
 bif roomOk false d699.2.2.2.2.2.2.2.2.2.2.1.length 1 80 then
 some ((),((((),((),())),d699.2.1.2),((((),((),())),d699.2.1.2),((((),((),())),d699.2.1.2),((((),((),())),d699.2.1.2),(d699.2.2.1,(d699.2.2.2.1,(d699.2.2.2.2.1,(d699.2.2.2.2.2.1,(d699.2.2.2.2.2.2.1,(d699.2.2.2.2.2.2.2.1,(d699.2.2.2.2.2.2.2.2.1,(d699.2.2.2.2.2.2.2.2.2.1,(app d699.2.2.2.2.2.2.2.2.2.2.1 [((3:Int),((d699.2.2.2.2.2.2.1,x808.1),((0:Int),((0:Int),((0:Int),(false,y809))))))],d699.2.2.2.2.2.2.2.2.2.2.2))))))))))))))
 else
 none) fun (d810:T_18) =>
 some ((),((((),((),())),d810.2.1.2),d810.2.2.2.2.2))) fun (d811:T_36) =>
 some ((),((((),((),())),d811.2.1.2),d811.2.2))
 else
 some ((),((((),((),())),d699.2.1.2),d699.2.2))) fun (d812:T_36) =>
 Option.bind (idxN d812.2.2.2.2.2.2.2.2.1 d812.2.1.2) fun (x813:T_58) =>
 Option.bind (idxN (List.set d812.2.2.2.2.2.2.2.2.1 d812.2.1.2 (x813.1,((3:Int),x813.2.2))) d812.2.1.2) fun (x814:T_58) =>
 Option.bind (idxN (List.set (List.set d812.2.2.2.2.2.2.2.2.1 d812.2.1.2 (x813.1,((3:Int),x813.2.2))) d812.2.1.2 (x814.1,(x814.2.1,(x814.2.2.1,(q696.2,x814.2.2.2.2))))) d812.2.1.2) fun (x815:T_58) =>
 Option.bind (idxN (List.set (List.set (List.set d812.2.2.2.2.2.2.2.2.1 d812.2.1.2 (x813.1,((3:Int),x813.2.2))) d812.2.1.2 (x814.1,(x814.2.1,(x814.2.2.1,(q696.2,x814.2.2.2.2))))) d812.2.1.2 (x815.1,(x815.2.1,(x815.2.2.1,(x815.2.2.2.1,(x815.2.2.2.2.1,(0:Int))))))) d812.2.1.2) fun (x816:T_58) =>
 Option.bind (idxN (List.set (List.set (List.set d812.2.2.2.2.2.2.2.2.1 d812.2.1.2 (x813.1,((3:Int),x813.2.2))) d812.2.1.2 (x814.1,(x814.2.1,(x814.2.2.1,(q696.2,x814.2.2.2.2))))) d812.2.1.2 (x815.1,(x815.2.1,(x815.2.2.1,(x815.2.2.2.1,(x815.2.2.2.2.1,(0:Int))))))) d812.2.1.2) fun (x817:T_58) =>
 Option.bind (loopR (r66_L5 x817 x816) ((),((),(((),((),(d812.2.1.2,()))),((0:Int),(d812.2.2.1,(d812.2.2.2.1,(d812.2.2.2.2.1,(d812.2.2.2.2.2.1,(d812.2.2.2.2.2.2.1,(d812.2.2.2.2.2.2.2.1,(List.set (List.set (List.set d812.2.2.2.2.2.2.2.2.1 d812.2.1.2 (x813.1,((3:Int),x813.2.2))) d812.2.1.2 (x814.1,(x814.2.1,(x814.2.2.1,(q696.2,x814.2.2.2.2))))) d812.2.1.2 (x815.1,(x815.2.1,(x815.2.2.1,(x815.2.2.2.1,(x815.2.2.2.2.1,(0:Int)))))),d812.2.2.2.2.2.2.2.2.2)))))))))))) fun (q830:T_44) =>
 some ((q830.2.1,(q830.2.2.1,q830.2.2.2.1)),(q830.2.2.2.2.1,(q830.2.2.2.2.2.1,((q830.2.2.2.2.2.2.1,q830.2.2.2.2.2.2.2.1),q830.2.2.2.2.2.2.2.2))))
 else
 none
noncomputable def r66_s0 (a:T_45) (x698:T_58) (x697:T_58):Option T_36 :=
 some ((),((((),((),())),(Int.toNat a.2)),(a.1.1.1,(a.1.1.2.1,(a.1.1.2.2,(a.1.2.1,(a.1.2.2.1,(a.1.2.2.2.1.1,(a.1.2.2.2.1.2,(a.1.2.2.2.2.1,(a.1.2.2.2.2.2.1,(app a.1.2.2.2.2.2.2.1 [(a.1.2.2.1,((4:Int),(x698.1,((0:Int),((0:Int),(0:Int))))))],(a.1.2.2.2.2.2.2.2.1,x697.1)))))))))))))
noncomputable def r66_s1 (d699:T_36) (x808:T_58) (y809:List Int):Option T_18 :=
 bif roomOk false d699.2.2.2.2.2.2.2.2.2.2.1.length 1 80 then
 some ((),((((),((),())),d699.2.1.2),((((),((),())),d699.2.1.2),((((),((),())),d699.2.1.2),((((),((),())),d699.2.1.2),(d699.2.2.1,(d699.2.2.2.1,(d699.2.2.2.2.1,(d699.2.2.2.2.2.1,(d699.2.2.2.2.2.2.1,(d699.2.2.2.2.2.2.2.1,(d699.2.2.2.2.2.2.2.2.1,(d699.2.2.2.2.2.2.2.2.2.1,(app d699.2.2.2.2.2.2.2.2.2.2.1 [((3:Int),((d699.2.2.2.2.2.2.1,x808.1),((0:Int),((0:Int),((0:Int),(false,y809))))))],d699.2.2.2.2.2.2.2.2.2.2.2))))))))))))))
 else
 none
noncomputable def r66q:T_45→Option T_48:=fun a =>
 bif inB a.2 a.1.2.2.2.1.2.length then
 Option.bind (idxN a.1.2.2.2.1.2 (Int.toNat a.2)) fun (_:T_58) =>
 Option.bind (idxN a.1.2.2.2.1.2 (Int.toNat a.2)) fun (x2:T_58) =>
 Option.bind (loopR (r66_L0q x2 a) ((),((0:Int),[]))) fun (q67:(Unit×List Int)) =>
 Option.bind (r127 (Go.IntKind.wrap .u64 (↑q67.2.length:Int))) fun (y68:Int) =>
 Option.bind (loopR r66_L3q ((),((),((0:Int),((↑q67.2.length:Int),(y68,(true,(true,q67.2)))))))) fun (q696:(Unit×List Int)) =>
 Option.bind (idxN a.1.2.2.2.1.2 (Int.toNat a.2)) fun (x697:T_58) =>
 Option.bind (idxN a.1.2.2.2.1.2 (Int.toNat a.2)) fun (x698:T_58) =>
 Option.bind (
 sameR (
 bif roomOk false a.1.2.2.2.2.2.2.1.length 1 48 then
 r66_s0 a x698 x697
 else
 none)
 (
 sameR (
 bif roomOk false a.1.2.2.2.2.2.2.1.length 1 48 then
 r66_s0 a x698 x697
 else
 none)
 (
 bif roomOk false a.1.2.2.2.2.2.2.1.length 1 48 then
 r66_s0 a x698 x697
 else
 none))) fun (d699:T_36) =>
 bif decide ((↑q696.2.length:Int)=(0:Int)) then
 Option.bind (r103 (d699.2.2.2.2.2.2.2.2.1,a.2,(Go.IntKind.wrap .i64 (a.2+(1:Int))))) fun (y700:List (T_58)) =>
 some ((d699.2.2.1,(d699.2.2.2.1,d699.2.2.2.2.1)),(d699.2.2.2.2.2.1,(d699.2.2.2.2.2.2.1,((d699.2.2.2.2.2.2.2.1,y700),d699.2.2.2.2.2.2.2.2.2))))
 else
 Option.bind (
 Option.bind (idxN d699.2.2.2.2.2.2.2.2.1 d699.2.1.2) fun (_:T_58) =>
 Option.bind (
 Option.bind (idxN d699.2.2.2.2.2.2.2.2.1 d699.2.1.2) fun (x792:T_58) =>
 Option.bind (loopR (r66_L4q x792 d699) (0:Int)) fun (q797:(Unit ⊕ Int)) =>
 Sum.elim (fun (_:Unit) =>
 some (-1:Int))
 (fun (v799:Int) =>
 some v799) q797) fun (d800:Int) =>
 bif decide ((0:Int)≤d800) then
 Option.bind (
 Option.bind (idxN d699.2.2.2.2.2.2.2.2.1 d699.2.1.2) fun (x808:T_58) =>
 Option.bind (r99 q696.2) fun (y809:List Int) =>
 Option.bind (
 sameR (
 r66_s1 d699 x808 y809)
 (
 sameR (
 r66_s1 d699 x808 y809)
 (
 sameR (
 r66_s1 d699 x808 y809)
 (
 sameR (
 r66_s1 d699 x808 y809)
 (
 sameR (
 r66_s1 d699 x808 y809)
 (
 sameR (
 r66_s1 d699 x808 y809)
 (
 sameR (
 sameR (
 r66_s1 d699 x808 y809)
 (
 r66_s1 d699 x808 y809))
 (
 sameR (
 sameR (
 r66_s1 d699 x808 y809)
 (
 r66_s1 d699 x808 y809))
 (
 sameR (
 sameR (
 r66_s1 d699 x808 y809)
 (
 r66_s1 d699 x808 y809))
 (
 sameR (
 sameR (
 r66_s1 d699 x808 y809)
 (
 r66_s1 d699 x808 y809))
 (
 sameR (
 sameR (
 r66_s1 d699 x808 y809)
 (
 r66_s1 d699 x808 y809))
 (
 sameR (
 r66_s1 d699 x808 y809)
 (
 r66_s1 d699 x808 y809))))))))))))) fun (d810:T_18) =>
 some ((),((((),((),())),d810.2.1.2),d810.2.2.2.2.2))) fun (d811:T_36) =>
 some ((),((((),((),())),d811.2.1.2),d811.2.2))
 else
 some ((),((((),((),())),d699.2.1.2),d699.2.2))) fun (d812:T_36) =>
 Option.bind (idxN d812.2.2.2.2.2.2.2.2.1 d812.2.1.2) fun (x813:T_58) =>
 Option.bind (idxN (List.set d812.2.2.2.2.2.2.2.2.1 d812.2.1.2 (x813.1,((3:Int),x813.2.2))) d812.2.1.2) fun (x814:T_58) =>
 Option.bind (idxN (List.set (List.set d812.2.2.2.2.2.2.2.2.1 d812.2.1.2 (x813.1,((3:Int),x813.2.2))) d812.2.1.2 (x814.1,(x814.2.1,(x814.2.2.1,(q696.2,x814.2.2.2.2))))) d812.2.1.2) fun (x815:T_58) =>
 Option.bind (idxN (List.set (List.set (List.set d812.2.2.2.2.2.2.2.2.1 d812.2.1.2 (x813.1,((3:Int),x813.2.2))) d812.2.1.2 (x814.1,(x814.2.1,(x814.2.2.1,(q696.2,x814.2.2.2.2))))) d812.2.1.2 (x815.1,(x815.2.1,(x815.2.2.1,(x815.2.2.2.1,(x815.2.2.2.2.1,(0:Int))))))) d812.2.1.2) fun (x816:T_58) =>
 Option.bind (idxN (List.set (List.set (List.set d812.2.2.2.2.2.2.2.2.1 d812.2.1.2 (x813.1,((3:Int),x813.2.2))) d812.2.1.2 (x814.1,(x814.2.1,(x814.2.2.1,(q696.2,x814.2.2.2.2))))) d812.2.1.2 (x815.1,(x815.2.1,(x815.2.2.1,(x815.2.2.2.1,(x815.2.2.2.2.1,(0:Int))))))) d812.2.1.2) fun (x817:T_58) =>
 Option.bind (loopR (r66_L5q x817 x816) ((),((),(((),((),(d812.2.1.2,()))),((0:Int),(d812.2.2.1,(d812.2.2.2.1,(d812.2.2.2.2.1,(d812.2.2.2.2.2.1,(d812.2.2.2.2.2.2.1,(d812.2.2.2.2.2.2.2.1,(List.set (List.set (List.set d812.2.2.2.2.2.2.2.2.1 d812.2.1.2 (x813.1,((3:Int),x813.2.2))) d812.2.1.2 (x814.1,(x814.2.1,(x814.2.2.1,(q696.2,x814.2.2.2.2))))) d812.2.1.2 (x815.1,(x815.2.1,(x815.2.2.1,(x815.2.2.2.1,(x815.2.2.2.2.1,(0:Int)))))),d812.2.2.2.2.2.2.2.2.2)))))))))))) fun (q830:T_44) =>
 some ((q830.2.1,(q830.2.2.1,q830.2.2.2.1)),(q830.2.2.2.2.1,(q830.2.2.2.2.2.1,((q830.2.2.2.2.2.2.1,q830.2.2.2.2.2.2.2.1),q830.2.2.2.2.2.2.2.2))))
 else
 none
theorem r66e:r66q=r66:=by unfold r66q r66; simp only [r66_s0,r66_s1,sameR_self,r66_L0e,r66_L3e,r66_L4e,r66_L5e]
def an66:Ann:=.two (.leaf) (.two (.inl 4 67 (.two (.leaf) (.two (.leaf) (.two (.two (.leaf) (.one (.loop [0,1,4,67,77,78] [0] [(72,(.int .i64))] [.tmp 72 (.own 72 [(0,0)] (.int .i64)),.tmp 79 (.int .i64),.row 72 [.sl .own (.int .i64)]] [⟨.exit 0,[],[.tmp 72 (.own 72 [(0,0)] (.int .i64)),.row 72 [.sl .own (.int .i64)]]⟩] (.two (.leaf) (.two (.two (.leaf) (.leaf)) (.two (.join [0,1,4,67,77,78,79] [0] [⟨.normal,[(72,(.int .i64))],[.tmp 72 (.own 72 [(0,0)] (.int .i64)),.row 72 [.sl .own (.int .i64)]]⟩] (.one (.two (.leaf) (.two (.draw 7) (.two (.join [0,1,4,67,72,75,77,78,79] [0,72] [⟨.normal,[],[.tmp 103 (.bool)]⟩] (.draw 10)) (.two (.leaf) (.leaf))))))) (.leaf))))))) (.two (.inl 1 112 (.two (.leaf) (.inl 5 123 (.two (.leaf) (.two (.leaf) (.one (.loop [0,1,4] [0] [] [.tmp 72 (.own 72 [(0,0)] (.int .i64)),.tmp 123 (.own 72 [(0,0)] (.int .i64)),.tmp 124 (.int .i64),.tmp 125 (.int .i64),.tmp 126 (.int .i64),.tmp 131 (.bool),.tmp 132 (.bool),.row 72 [.sl .own (.int .i64)]] [⟨.ret,[],[.tmp 72 (.own 72 [(0,0)] (.int .i64)),.row 72 [.sl .own (.int .i64)]]⟩] (.one (.two (.leaf) (.two (.two (.leaf) (.two (.two (.inl 3 257 (.two (.leaf) (.one (.loop [0,1,4,258,259] [0] [] [.tmp 72 (.own 72 [(0,0)] (.int .i64)),.tmp 257 (.own 72 [(0,0)] (.int .i64)),.tmp 263 (.int .i64),.row 72 [.sl .own (.int .i64)]] [⟨.exit 0,[],[.tmp 72 (.own 72 [(0,0)] (.int .i64)),.row 72 [.sl .own (.int .i64)]]⟩] (.two (.two (.leaf) (.two (.leaf) (.leaf))) (.two (.one (.two (.leaf) (.one (.loop [0,1,4,258,259,263] [0] [] [.tmp 72 (.own 72 [(0,0)] (.int .i64)),.tmp 257 (.own 72 [(0,0)] (.int .i64)),.tmp 264 (.int .i64),.row 72 [.sl .own (.int .i64)]] [⟨.exit 2,[],[.tmp 72 (.own 72 [(0,0)] (.int .i64)),.tmp 257 (.own 72 [(0,0)] (.int .i64)),.row 72 [.sl .own (.int .i64)]]⟩] (.two (.two (.join [0,1,4,72,257,258,259,263,264] [0,72] [⟨.normal,[],[.tmp 287 (.bool)]⟩] (.draw 13)) (.two (.leaf) (.leaf))) (.two (.one (.join [0,1,4,258,259,263,264] [0] [⟨.normal,[],[.tmp 72 (.own 72 [(0,0)] (.int .i64)),.tmp 257 (.own 72 [(0,0)] (.int .i64)),.row 72 [.sl .own (.int .i64)]]⟩] (.stages [0,1,2,3,4,5,6,7,8,9,10,11,12,13,14]))) (.leaf))))))) (.leaf)))))) (.leaf)) (.leaf)) (.leaf))) (.two (.two (.leaf) (.two (.two .leaf .leaf) (.leaf))) (.two (.two (.leaf) (.two (.two .leaf .leaf) (.leaf))) (.two (.leaf) (.two (.two (.leaf) (.two (.two .leaf .leaf) (.leaf))) (.two (.two (.join [0,1,4,72,123,124,125,126,131,132,133,134] [0,72] [⟨.normal,[],[.tmp 191 (.bool)]⟩] (.segs [(4,([0,1,4,72,123,124,125,126,131,132,133,134,135],([0,72],[.tmp 187 (.bool)])))])) (.two (.two .leaf .leaf) (.leaf))) (.two (.two (.join [0,1,4,72,123,124,125,126,131,132,133,134] [0,72] [⟨.normal,[],[.tmp 210 (.bool)]⟩] (.draw 12)) (.two (.two .leaf .leaf) (.leaf))) (.two .leaf .leaf)))))))))))))) (.leaf))) (.leaf)) (.two (.leaf) (.leaf)))))) (.leaf)) (.two (.leaf) (.two (.inl 5 306 (.join [1,5] [72] [⟨.normal,[],[.tmp 0 (.pt 0 [(0,0)] 0 0 0),.tmp 4 (.ptx 0 [(some 0,0),(some 0,6)] 0 6),.box 0 [.int .i64,.sl .ro (.pair (.int .i64) (.int .i64)),.int .i64,.int .i64,.int .i64,.int .i64,.sl .own E_72,.sl .own E_73,.sl .own E_74,.sl .own E_77,.int .i64,.int .i64]]⟩] (.drawT [0,1,2,3,4,5,6,7,8,9,10,11,12,13,14,15,16] [0])) (.leaf)) (.two (.two (.leaf) (.two (.two (.inl 2 339 (.leaf) (.leaf)) (.leaf)) (.leaf))) (.two (.join [5] [72] [⟨.normal,[],[.tmp 0 (.pt 0 [(0,0)] 0 0 0),.tmp 4 (.ptx 0 [(some 0,0),(some 0,6)] 0 6),.box 0 [.int .i64,.sl .ro (.pair (.int .i64) (.int .i64)),.int .i64,.int .i64,.int .i64,.int .i64,.sl .own E_72,.sl .own E_73,.sl .own E_74,.sl .own E_77,.int .i64,.int .i64]]⟩] (.two (.inl 4 358 (.two (.leaf) (.two (.inl 2 367 (.join [0,4,5] [0,72] [⟨.ret,[],[.tmp 371 (.int .i64)]⟩] (.two (.leaf) (.two (.two (.leaf) (.one (.loop [0,4,5,367,368,374] [0,72] [] [.tmp 375 (.int .i64)] [⟨.exit 0,[],[]⟩,⟨.ret,[],[.tmp 371 (.int .i64)]⟩] (.two (.leaf) (.two (.two (.leaf) (.leaf)) (.two (.one (.two (.leaf) (.two (.inl 5 386 (.two (.leaf) (.two (.leaf) (.leaf))) (.leaf)) (.two (.two (.leaf) (.leaf)) (.leaf))))) (.leaf))))))) (.two (.leaf) (.leaf))))) (.leaf)) (.leaf))) (.leaf)) (.two (.join [5] [72] [⟨.normal,[],[.tmp 0 (.pt 0 [(0,0)] 0 0 0),.tmp 4 (.ptx 0 [(some 0,0),(some 0,6)] 0 6),.box 0 [.int .i64,.sl .ro (.pair (.int .i64) (.int .i64)),.int .i64,.int .i64,.int .i64,.int .i64,.sl .own E_72,.sl .own E_73,.sl .own E_74,.sl .own E_77,.int .i64,.int .i64]]⟩] (.stagesI [0,1,2,3,4,5,6] 7 391 (.join [5,49] [72] [⟨.normal,[],[.tmp 0 (.pt 0 [(0,0)] 0 0 0),.tmp 4 (.ptx 0 [(some 0,0),(some 0,6)] 0 6),.tmp 45 (.ptx 0 [(some 0,0),(some 0,6)] 0 6),.tmp 46 (.ptx 0 [(some 0,0),(some 0,6)] 0 6),.tmp 47 (.ptx 0 [(some 0,0),(some 0,6)] 0 6),.box 0 [.int .i64,.sl .ro (.pair (.int .i64) (.int .i64)),.int .i64,.int .i64,.int .i64,.int .i64,.sl .own E_72,.sl .own E_73,.sl .own E_74,.sl .own E_77,.int .i64,.int .i64]]⟩] (.stages [0,1,2,3,4,5,6,7,8,9,10,11,12,13,14])))) (.leaf)))) (.two (.leaf) (.inl 4 419 (.two (.leaf) (.two (.leaf) (.one (.loop [422,427] [] [] [.tmp 0 (.pt 0 [(0,0)] 0 0 0),.tmp 419 (.pt 0 [(0,0)] 0 0 0),.tmp 426 (.ownx 0 [(some 0,0),(some 0,6),(none,3)] (.int .i64)),.tmp 428 (.int .i64),.box 0 [.int .i64,.sl .ro (.pair (.int .i64) (.int .i64)),.int .i64,.int .i64,.int .i64,.int .i64,.sl .own E_72,.sl .own E_73,.sl .own E_74,.sl .own E_77,.int .i64,.int .i64]] [⟨.exit 0,[],[.tmp 0 (.pt 0 [(0,0)] 0 0 0),.box 0 [.int .i64,.sl .ro (.pair (.int .i64) (.int .i64)),.int .i64,.int .i64,.int .i64,.int .i64,.sl .own E_72,.sl .own E_73,.sl .own E_74,.sl .own E_77,.int .i64,.int .i64]]⟩] (.two (.leaf) (.two (.two (.leaf) (.leaf)) (.two (.one (.two (.leaf) (.inl 4 440 (.two (.leaf) (.two (.join [422,427,428] [] [⟨.normal,[],[.tmp 0 (.pt 0 [(0,0)] 0 0 0),.tmp 419 (.pt 0 [(0,0)] 0 0 0),.tmp 426 (.ownx 0 [(some 0,0),(some 0,6),(none,3)] (.int .i64)),.tmp 440 (.pt 0 [(0,0)] 0 0 0),.box 0 [.int .i64,.sl .ro (.pair (.int .i64) (.int .i64)),.int .i64,.int .i64,.int .i64,.int .i64,.sl .own E_72,.sl .own E_73,.sl .own E_74,.sl .own E_77,.int .i64,.int .i64]]⟩] (.drawT [0,1,2,3,4,5,6,7,8,9,10,11,12,13,14,15,16,17,18,19] [0])) (.two (.draw 12) (.leaf)))) (.leaf)))) (.leaf)))))))) (.leaf))))))))
theorem s66:SoundM cx.P cx.G 66 sg66 r66:=by
 have e:denM cx [(74,⟨sg74,r74⟩),(99,⟨sg99,r99⟩),(103,⟨sg103,r103⟩),(127,⟨sg127,r127⟩),(136,⟨sg136,r136⟩),(139,⟨sg139,r139⟩)] an66 Tryd.f66.ntmps (Tryd.f66.body.getD .skip) Tryd.f66.results.toList sg66=r66q:=by kernel_rfl
 rw [← r66e,← e]
 exact sound_of_denM (c:=cx) (Known.cons (.ofF s74 (by kernel_rfl)) Tryd.func74 (by kernel_rfl) (by kernel_rfl) (Known.cons (.ofF s99 (by kernel_rfl)) Tryd.func99 (by kernel_rfl) (by kernel_rfl) (Known.cons (.ofD s103 (by kernel_rfl)) Tryd.func103 (by kernel_rfl) (by kernel_rfl) (Known.cons (.ofF s127 (by kernel_rfl)) Tryd.func127 (by kernel_rfl) (by kernel_rfl) (Known.cons (.ofF s136 (by kernel_rfl)) Tryd.func136 (by kernel_rfl) (by kernel_rfl) (Known.cons (.ofF s139 (by kernel_rfl)) Tryd.func139 (by kernel_rfl) (by kernel_rfl) (Known.nil))))))) Tryd.func66 (by kernel_rfl) (Nat.le_of_ble_eq_true (by kernel_rfl)) rfl
end Go.Hv
