import Derived.Test.YtlfcemfcgmidlaaDoorHvSix
namespace Go.Hv
open Go.RowKit Go.Proofs Go.V Go.Proofs
noncomputable def r23_L0 (a:(T_63×(Int×(Int×T_57)))) (d99:T_42):Option (T_42 ⊕ T_44) :=
 bif decide (d99.2.1<(↑a.2.2.2.2.length:Int)) then
 Option.bind (
 Option.bind (idxI a.2.2.2.2 d99.2.1) fun (b114:T_58) =>
 Option.bind (r35 (((d99.2.2.1,(d99.2.2.2.1,d99.2.2.2.2.1)),(d99.2.2.2.2.2.1,(d99.2.2.2.2.2.2.1,((d99.2.2.2.2.2.2.2.1,d99.2.2.2.2.2.2.2.2.1),d99.2.2.2.2.2.2.2.2.2)))),b114.1)) fun (y115:T_46) =>
 bif inB y115.1 y115.2.2.2.2.1.2.length then
 Option.bind (idxN y115.2.2.2.2.1.2 (Int.toNat y115.1)) fun (x116:T_58) =>
 bif inB y115.1 y115.2.2.2.2.1.2.length then
 Option.bind (idxN y115.2.2.2.2.1.2 (Int.toNat y115.1)) fun (x117:T_58) =>
 bif inB y115.1 ((List.set y115.2.2.2.2.1.2 (Int.toNat y115.1) (x117.1,(x117.2.1,(x117.2.2.1,(x117.2.2.2.1,(x117.2.2.2.2.1,(Go.IntKind.wrap .i64 (x116.2.2.2.2.2+(1:Int))))))))).length) then
 Option.bind (idxN (List.set y115.2.2.2.2.1.2 (Int.toNat y115.1) (x117.1,(x117.2.1,(x117.2.2.1,(x117.2.2.2.1,(x117.2.2.2.2.1,(Go.IntKind.wrap .i64 (x116.2.2.2.2.2+(1:Int))))))))) (Int.toNat y115.1)) fun (x119:T_58) =>
 bif decide (a.1.2.2≤x119.2.2.2.2.2) then
 Option.bind (r46 ((y115.2.1,(y115.2.2.1,(y115.2.2.2.1,((y115.2.2.2.2.1.1,List.set y115.2.2.2.2.1.2 (Int.toNat y115.1) (x117.1,(x117.2.1,(x117.2.2.1,(x117.2.2.2.1,(x117.2.2.2.2.1,(Go.IntKind.wrap .i64 (x116.2.2.2.2.2+(1:Int))))))))),y115.2.2.2.2.2)))),y115.1)) fun (y120:T_48) =>
 some ((),(y120.1.1,(y120.1.2.1,(y120.1.2.2,(y120.2.1,(y120.2.2.1,(y120.2.2.2.1.1,(y120.2.2.2.1.2,y120.2.2.2.2))))))))
 else
 some ((),(y115.2.1.1,(y115.2.1.2.1,(y115.2.1.2.2,(y115.2.2.1,(y115.2.2.2.1,(y115.2.2.2.2.1.1,(List.set y115.2.2.2.2.1.2 (Int.toNat y115.1) (x117.1,(x117.2.1,(x117.2.2.1,(x117.2.2.2.1,(x117.2.2.2.2.1,(Go.IntKind.wrap .i64 (x116.2.2.2.2.2+(1:Int)))))))),y115.2.2.2.2.2))))))))
 else
 none
 else
 none
 else
 none) fun (d121:T_44) =>
 some (Sum.inl ((),((Go.IntKind.wrap .i64 (d99.2.1+(1:Int))),d121.2)))
 else
 some (Sum.inr ((),d99.2.2))
def sg23:Sig:=⟨[⟨true,.ro,E_79⟩,⟨false,.bo,(.int .i64)⟩,⟨false,.bo,(.int .i64)⟩,⟨true,.bo,E_70⟩],[⟨true,.ro,E_69⟩,⟨false,.own,(.int .i64)⟩]⟩
noncomputable def r23 (a:(T_63×(Int×(Int×T_57)))):Option T_50 :=
 Option.bind (r16 (a.1,a.2.2.2)) fun (y1:Int) =>
 bif !(decide (y1=(0:Int))) then
 bif !(decide (y1=(0:Int))) then
 some ((((0:Int),[]),([],([],([],((0:Int),(0:Int)))))),y1)
 else
 none
 else
 Option.bind (
 bif !(decide (a.2.1<(0:Int))) then
 some (decide ((↑a.1.2.1.length:Int)≤a.2.1))
 else
 some true) fun (d2:Bool) =>
 bif d2 then
 some ((((0:Int),[]),([],([],([],((0:Int),(0:Int)))))),(6:Int))
 else
 Option.bind (
 bif !(decide (a.2.2.1<(0:Int))) then
 some (decide (a.1.1≤a.2.2.1))
 else
 some true) fun (d3:Bool) =>
 bif d3 then
 some ((((0:Int),[]),([],([],([],((0:Int),(0:Int)))))),(2:Int))
 else
 Option.bind (r60 a.2.2.2) fun (y5:T_57) =>
 Option.bind (loopR (r23_L0 a) ((),((0:Int),(a.1.1,(a.1.2.1,(a.1.2.2,(a.2.1,(a.2.2.1,(y5.1,(y5.2,([],([],([],((0:Int),(0:Int))))))))))))))) fun (q122:T_44) =>
 some (((q122.2.2.2.2.2.2.1,q122.2.2.2.2.2.2.2.1),q122.2.2.2.2.2.2.2.2),(0:Int))
def an23:Ann:=.two (.leaf) (.two (.inl 4 72 (.two (.leaf) (.two (.two (.leaf) (.two (.leaf) (.two (.two (.leaf) (.leaf)) (.leaf)))) (.two (.two (.join [4,7,8,73,74,76,79] [4,7,8,76,79] [⟨.normal,[],[.tmp 97 (.bool)]⟩] (.leaf)) (.two (.two (.leaf) (.leaf)) (.leaf))) (.two (.two (.join [4,7,8,73,74,76,79] [4,7,8,76,79] [⟨.normal,[],[.tmp 105 (.bool)]⟩] (.leaf)) (.two (.two (.leaf) (.leaf)) (.leaf))) (.two (.draw 6) (.leaf)))))) (.leaf)) (.two (.two (.leaf) (.two (.two (.leaf) (.leaf)) (.leaf))) (.nilp 10 (.two (.two (.leaf) (.one (.loop [4,8,28,29] [4,8] [] [.tmp 10 (.pt 113 [(0,0)] 0 0 12),.tmp 30 (.int .i64),.box 113 [.int .i64,.sl .ro (.pair (.int .i64) (.int .i64)),.int .i64,.int .i64,.int .i64,.int .i64,.sl .own E_72,.sl .own E_73,.sl .own E_74,.sl .own E_77,.int .i64,.int .i64]] [⟨.exit 0,[],[.tmp 10 (.pt 113 [(0,0)] 0 0 12),.box 113 [.int .i64,.sl .ro (.pair (.int .i64) (.int .i64)),.int .i64,.int .i64,.int .i64,.int .i64,.sl .own E_72,.sl .own E_73,.sl .own E_74,.sl .own E_77,.int .i64,.int .i64]]⟩] (.two (.leaf) (.two (.two (.leaf) (.leaf)) (.two (.join [4,8,28,29,30] [4,8] [⟨.normal,[],[.tmp 10 (.pt 113 [(0,0)] 0 0 12),.box 113 [.int .i64,.sl .ro (.pair (.int .i64) (.int .i64)),.int .i64,.int .i64,.int .i64,.int .i64,.sl .own E_72,.sl .own E_73,.sl .own E_74,.sl .own E_77,.int .i64,.int .i64]]⟩] (.one (.two (.leaf) (.two (.leaf) (.two (.leaf) (.two (.draw 12) (.two (.leaf) (.leaf)))))))) (.leaf))))))) (.two (.leaf) (.leaf))))))
theorem s23:SoundF cx.P cx.G 23 sg23 r23:=by
 have e:denF cx [(16,⟨sg16,r16⟩),(35,⟨sg35,r35⟩),(46,⟨sg46,r46⟩),(60,⟨sg60,r60⟩)] an23 Tryd.f23.ntmps (Tryd.f23.body.getD .skip) Tryd.f23.results.toList sg23=r23:=by kernel_rfl
 rw [← e]
 exact sound_of_den (c:=cx) (Known.cons (.ofF s16 (by kernel_rfl)) Tryd.func16 (by kernel_rfl) (by kernel_rfl) (Known.cons (.ofM s35 (by kernel_rfl)) Tryd.func35 (by kernel_rfl) (by kernel_rfl) (Known.cons (.ofM s46 (by kernel_rfl)) Tryd.func46 (by kernel_rfl) (by kernel_rfl) (Known.cons (.ofF s60 (by kernel_rfl)) Tryd.func60 (by kernel_rfl) (by kernel_rfl) (Known.nil))))) Tryd.func23 (by kernel_rfl) (Nat.le_of_ble_eq_true (by kernel_rfl)) rfl
noncomputable def r10_L0 (y3:T_57) (d4:(Int×Int)):Option ((Int×Int) ⊕ Int) :=
 bif decide (d4.2<(↑y3.2.length:Int)) then
 Option.bind (
 Option.bind (idxI y3.2 d4.2) fun (b7:T_58) =>
 bif decide (b7.2.1=(3:Int)) then
 some (Go.IntKind.wrap .i64 (d4.1+(1:Int)))
 else
 some d4.1) fun (d8:Int) =>
 some (Sum.inl (d8,(Go.IntKind.wrap .i64 (d4.2+(1:Int)))))
 else
 some (Sum.inr d4.1)
noncomputable def r10_L1 (y2:T_63) (d14:T_55):Option (T_55 ⊕ (T_56 ⊕ Bool)) :=
 bif decide (d14.2.1<y2.2.2) then
 Option.bind (r23 (y2,(1:Int),(0:Int),d14.2.2)) fun (y15:T_50) =>
 Option.bind (
 bif !(!(decide (y15.2=(0:Int)))) then
 some (!(decide ((Go.IntKind.wrap .i64 (y15.1.2.2.2.2.2+y15.1.2.2.2.2.1))=(0:Int))))
 else
 some true) fun (d16:Bool) =>
 bif d16 then
 some (Sum.inr (Sum.inr false))
 else
 some (Sum.inl ((),((Go.IntKind.wrap .i64 (d14.2.1+(1:Int))),y15.1.1)))
 else
 some (Sum.inr (Sum.inl ((),d14.2.2)))
noncomputable def r10_L2 (v18:T_56) (d20:Int):Option (Int ⊕ (Unit ⊕ Bool)) :=
 bif decide (d20<(↑v18.2.2.length:Int)) then
 Option.bind (idxI v18.2.2 d20) fun (b21:T_58) =>
 bif !(decide (b21.2.1=(3:Int))) then
 some (Sum.inr (Sum.inr false))
 else
 some (Sum.inl (Go.IntKind.wrap .i64 (d20+(1:Int))))
 else
 some (Sum.inr (Sum.inl ()))
def sg10:Sig:=⟨[⟨false,.bo,(.int .i64)⟩,⟨false,.bo,E_76⟩],[⟨false,.own,.bool⟩]⟩
noncomputable def r10 (a:(Int×List (T_62))):Option Bool :=
 Option.bind (r19 ()) fun (y1:Bool) =>
 bif !(y1) then
 some false
 else
 Option.bind (r13 a.1) fun (y2:T_63) =>
 Option.bind (r14 (y2,(1:Int),(0:Int),a.2,(30:Int))) fun (y3:T_57) =>
 Option.bind (loopR (r10_L0 y3) ((0:Int),(0:Int))) fun (q9:Int) =>
 Option.bind (r16 (y2,y3)) fun (y10:Int) =>
 bif !(decide (y10=(0:Int))) then
 some false
 else
 Option.bind (loopR (r10_L1 y2) ((),((0:Int),y3))) fun (q17:(T_56 ⊕ Bool)) =>
 Sum.elim (fun (v18:T_56) =>
 Option.bind (loopR (r10_L2 v18) (0:Int)) fun (q22:(Unit ⊕ Bool)) =>
 Sum.elim (fun (_:Unit) =>
 some (decide ((↑v18.2.2.length:Int)=q9)))
 (fun (v24:Bool) =>
 some v24) q22)
 (fun (v19:Bool) =>
 some v19) q17
def an10:Ann:=.two (.leaf) (.two (.two (.leaf) (.two (.two (.leaf) (.leaf)) (.leaf))) (.two (.leaf) (.two (.leaf) (.two (.leaf) (.two (.two (.leaf) (.one (.loop [5,6,23,24] [5,6] [] [.tmp 7 (.int .i64),.tmp 25 (.int .i64)] [⟨.exit 0,[],[.tmp 7 (.int .i64)]⟩] (.two (.leaf) (.two (.two (.leaf) (.leaf)) (.two (.join [5,6,23,24,25] [5,6] [⟨.normal,[],[.tmp 7 (.int .i64)]⟩] (.one (.two (.leaf) (.two (.leaf) (.two (.leaf) (.leaf)))))) (.leaf))))))) (.two (.two (.leaf) (.two (.two (.leaf) (.leaf)) (.leaf))) (.two (.two (.leaf) (.one (.loop [5,7] [5] [] [.tmp 6 (.pt 6 [(0,0)] 0 0 2),.tmp 10 (.int .i64),.box 6 [.int .i64,.sl .ro E_72]] [⟨.exit 2,[],[.tmp 6 (.pt 6 [(0,0)] 0 0 2),.box 6 [.int .i64,.sl .ro E_72]]⟩,⟨.ret,[],[.tmp 4 (.bool)]⟩] (.two (.two (.leaf) (.two (.leaf) (.leaf))) (.two (.one (.two (.leaf) (.two (.two (.join [5,6,7,10,11] [5,6,11] [⟨.normal,[],[.tmp 60 (.bool)]⟩] (.leaf)) (.two (.two (.leaf) (.leaf)) (.leaf))) (.leaf)))) (.leaf)))))) (.two (.two (.leaf) (.one (.loop [6,7,64,65] [6] [] [.tmp 66 (.int .i64)] [⟨.exit 4,[],[]⟩,⟨.ret,[],[.tmp 4 (.bool)]⟩] (.two (.leaf) (.two (.two (.leaf) (.leaf)) (.two (.one (.two (.leaf) (.two (.leaf) (.two (.two (.leaf) (.leaf)) (.leaf))))) (.leaf))))))) (.two (.leaf) (.leaf))))))))))
theorem s10:SoundF cx.P cx.G 10 sg10 r10:=by
 have e:denF cx [(13,⟨sg13,r13⟩),(14,⟨sg14,r14⟩),(16,⟨sg16,r16⟩),(19,⟨sg19,r19⟩),(23,⟨sg23,r23⟩)] an10 Tryd.f10.ntmps (Tryd.f10.body.getD .skip) Tryd.f10.results.toList sg10=r10:=by kernel_rfl
 rw [← e]
 exact sound_of_den (c:=cx) (Known.cons (.ofF s13 (by kernel_rfl)) Tryd.func13 (by kernel_rfl) (by kernel_rfl) (Known.cons (.ofF s14 (by kernel_rfl)) Tryd.func14 (by kernel_rfl) (by kernel_rfl) (Known.cons (.ofF s16 (by kernel_rfl)) Tryd.func16 (by kernel_rfl) (by kernel_rfl) (Known.cons (.ofF s19 (by kernel_rfl)) Tryd.func19 (by kernel_rfl) (by kernel_rfl) (Known.cons (.ofF s23 (by kernel_rfl)) Tryd.func23 (by kernel_rfl) (by kernel_rfl) (Known.nil)))))) Tryd.func10 (by kernel_rfl) (Nat.le_of_ble_eq_true (by kernel_rfl)) rfl
end Go.Hv
