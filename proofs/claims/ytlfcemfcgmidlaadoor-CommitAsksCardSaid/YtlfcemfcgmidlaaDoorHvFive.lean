import Derived.Test.YtlfcemfcgmidlaaDoorHvFour
namespace Go.Hv
open Go.RowKit Go.Proofs Go.V Go.Proofs
def sg17:Sig:=⟨[⟨true,.ro,E_79⟩,⟨false,.bo,(.int .i64)⟩,⟨false,.bo,(.int .i64)⟩,⟨true,.bo,E_70⟩,⟨false,.bo,(.int .i64)⟩,⟨true,.bo,E_78⟩],[⟨true,.ro,E_69⟩,⟨false,.own,(.int .i64)⟩]⟩
noncomputable def r17 (a:T_53):Option T_50 :=
 Option.bind (r16 (a.1,a.2.2.2.1)) fun (y1:Int) =>
 bif !(decide (y1=(0:Int))) then
 bif !(decide (y1=(0:Int))) then
 some ((((0:Int),[]),([],([],([],((0:Int),(0:Int)))))),y1)
 else
 none
 else
 Option.bind (
 bif !(decide (a.2.1<(0:Int))) then
 some (decide ((↑a.1.2.1.length:Int)≤a.2.1))
 else
 some true) fun (d2:Bool) =>
 bif d2 then
 some ((((0:Int),[]),([],([],([],((0:Int),(0:Int)))))),(6:Int))
 else
 Option.bind (
 bif !(decide (a.2.2.1<(0:Int))) then
 some (decide (a.1.1≤a.2.2.1))
 else
 some true) fun (d3:Bool) =>
 bif d3 then
 some ((((0:Int),[]),([],([],([],((0:Int),(0:Int)))))),(2:Int))
 else
 Option.bind (r60 a.2.2.2.1) fun (y5:T_57) =>
 Option.bind (
 bif !(decide (a.2.2.2.2.2.1<(1:Int))) then
 some (decide ((5:Int)<a.2.2.2.2.2.1))
 else
 some true) fun (d76:Bool) =>
 bif d76 then
 some ((((0:Int),[]),([],([],([],((0:Int),(0:Int)))))),(3:Int))
 else
 bif decide (a.2.2.2.2.2.1=(1:Int)) then
 Option.bind (r32 ((a.1,(a.2.1,(a.2.2.1,(y5,([],([],([],((0:Int),(0:Int))))))))),a.2.2.2.2.1)) fun (y77:T_48) =>
 some (y77.2.2.2,(0:Int))
 else
 Option.bind (r33 ((a.1,(a.2.1,(a.2.2.1,(y5,([],([],([],((0:Int),(0:Int))))))))),a.2.2.2.2.2)) fun (y78:T_46) =>
 bif !(decide (y78.1=(0:Int))) then
 Option.bind (
 bif roomOk false y78.2.2.2.2.2.2.2.1.length 1 48 then
 some ((),(y78.2.1.1,(y78.2.1.2.1,(y78.2.1.2.2,(y78.2.2.1,(y78.2.2.2.1,(y78.2.2.2.2.1.1,(y78.2.2.2.2.1.2,(y78.2.2.2.2.2.1,(y78.2.2.2.2.2.2.1,(app y78.2.2.2.2.2.2.2.1 [(y78.2.2.2.1,(a.2.2.2.2.2.1,(a.2.2.2.2.2.2.1,(a.2.2.2.2.2.2.2.2.1,((0:Int),y78.1)))))],y78.2.2.2.2.2.2.2.2)))))))))))
 else
 none) fun (d79:T_44) =>
 some (((d79.2.2.2.2.2.2.1,d79.2.2.2.2.2.2.2.1),d79.2.2.2.2.2.2.2.2),(0:Int))
 else
 Option.bind (r35 (y78.2,a.2.2.2.2.2.2.1)) fun (y80:T_46) =>
 Option.bind (
 bif decide (a.2.2.2.2.2.1=(2:Int)) then
 Option.bind (r36 (y80.2,y80.1,(false,(a.2.2.2.2.2.2.2.1,(a.2.2.2.2.2.2.2.2.1,((0:Int),((0:Int),((0:Int),(false,false))))))))) fun (y91:T_48) =>
 some ((),(y91.1.1,(y91.1.2.1,(y91.1.2.2,(y91.2.1,(y91.2.2.1,(y91.2.2.2.1.1,(y91.2.2.2.1.2,y91.2.2.2.2))))))))
 else
 bif decide (a.2.2.2.2.2.1=(3:Int)) then
 Option.bind (r36 (y80.2,y80.1,(true,(a.2.1,(a.2.2.2.2.2.2.2.2.1,(a.2.2.2.2.2.2.2.2.2,((0:Int),((0:Int),(false,false))))))))) fun (y92:T_48) =>
 some ((),(y92.1.1,(y92.1.2.1,(y92.1.2.2,(y92.2.1,(y92.2.2.1,(y92.2.2.2.1.1,(y92.2.2.2.1.2,y92.2.2.2.2))))))))
 else
 bif decide (a.2.2.2.2.2.1=(4:Int)) then
 Option.bind (r37 (y80.2,y80.1)) fun (y93:T_48) =>
 some ((),(y93.1.1,(y93.1.2.1,(y93.1.2.2,(y93.2.1,(y93.2.2.1,(y93.2.2.2.1.1,(y93.2.2.2.1.2,y93.2.2.2.2))))))))
 else
 Option.bind (r38 (y80.2,y80.1)) fun (y94:T_48) =>
 Option.bind (
 bif roomOk false y94.2.2.2.2.2.2.1.length 1 48 then
 some ((),(y94.1.1,(y94.1.2.1,(y94.1.2.2,(y94.2.1,(y94.2.2.1,(y94.2.2.2.1.1,(y94.2.2.2.1.2,(y94.2.2.2.2.1,(y94.2.2.2.2.2.1,(app y94.2.2.2.2.2.2.1 [(y94.2.2.1,((5:Int),(a.2.2.2.2.2.2.1,((0:Int),((0:Int),(0:Int))))))],y94.2.2.2.2.2.2.2)))))))))))
 else
 none) fun (d95:T_44) =>
 some ((),d95.2)) fun (d96:T_44) =>
 some (((d96.2.2.2.2.2.2.1,d96.2.2.2.2.2.2.2.1),d96.2.2.2.2.2.2.2.2),(0:Int))
noncomputable def r17_s0 (y78:T_46) (a:T_53):Option T_44 :=
 some ((),(y78.2.1.1,(y78.2.1.2.1,(y78.2.1.2.2,(y78.2.2.1,(y78.2.2.2.1,(y78.2.2.2.2.1.1,(y78.2.2.2.2.1.2,(y78.2.2.2.2.2.1,(y78.2.2.2.2.2.2.1,(app y78.2.2.2.2.2.2.2.1 [(y78.2.2.2.1,(a.2.2.2.2.2.1,(a.2.2.2.2.2.2.1,(a.2.2.2.2.2.2.2.2.1,((0:Int),y78.1)))))],y78.2.2.2.2.2.2.2.2)))))))))))
noncomputable def r17_s1 (y94:T_48) (a:T_53):Option T_44 :=
 some ((),(y94.1.1,(y94.1.2.1,(y94.1.2.2,(y94.2.1,(y94.2.2.1,(y94.2.2.2.1.1,(y94.2.2.2.1.2,(y94.2.2.2.2.1,(y94.2.2.2.2.2.1,(app y94.2.2.2.2.2.2.1 [(y94.2.2.1,((5:Int),(a.2.2.2.2.2.2.1,((0:Int),((0:Int),(0:Int))))))],y94.2.2.2.2.2.2.2)))))))))))
noncomputable def r17q:T_53→Option T_50:=fun a =>
 Option.bind (r16 (a.1,a.2.2.2.1)) fun (y1:Int) =>
 bif !(decide (y1=(0:Int))) then
 bif !(decide (y1=(0:Int))) then
 some ((((0:Int),[]),([],([],([],((0:Int),(0:Int)))))),y1)
 else
 none
 else
 Option.bind (
 bif !(decide (a.2.1<(0:Int))) then
 some (decide ((↑a.1.2.1.length:Int)≤a.2.1))
 else
 some true) fun (d2:Bool) =>
 bif d2 then
 some ((((0:Int),[]),([],([],([],((0:Int),(0:Int)))))),(6:Int))
 else
 Option.bind (
 bif !(decide (a.2.2.1<(0:Int))) then
 some (decide (a.1.1≤a.2.2.1))
 else
 some true) fun (d3:Bool) =>
 bif d3 then
 some ((((0:Int),[]),([],([],([],((0:Int),(0:Int)))))),(2:Int))
 else
 Option.bind (r60 a.2.2.2.1) fun (y5:T_57) =>
 Option.bind (
 bif !(decide (a.2.2.2.2.2.1<(1:Int))) then
 some (decide ((5:Int)<a.2.2.2.2.2.1))
 else
 some true) fun (d76:Bool) =>
 bif d76 then
 some ((((0:Int),[]),([],([],([],((0:Int),(0:Int)))))),(3:Int))
 else
 bif decide (a.2.2.2.2.2.1=(1:Int)) then
 Option.bind (r32 ((a.1,(a.2.1,(a.2.2.1,(y5,([],([],([],((0:Int),(0:Int))))))))),a.2.2.2.2.1)) fun (y77:T_48) =>
 some (y77.2.2.2,(0:Int))
 else
 Option.bind (r33 ((a.1,(a.2.1,(a.2.2.1,(y5,([],([],([],((0:Int),(0:Int))))))))),a.2.2.2.2.2)) fun (y78:T_46) =>
 bif !(decide (y78.1=(0:Int))) then
 Option.bind (
 sameR (
 bif roomOk false y78.2.2.2.2.2.2.2.1.length 1 48 then
 r17_s0 y78 a
 else
 none)
 (
 sameR (
 bif roomOk false y78.2.2.2.2.2.2.2.1.length 1 48 then
 r17_s0 y78 a
 else
 none)
 (
 bif roomOk false y78.2.2.2.2.2.2.2.1.length 1 48 then
 r17_s0 y78 a
 else
 none))) fun (d79:T_44) =>
 some (((d79.2.2.2.2.2.2.1,d79.2.2.2.2.2.2.2.1),d79.2.2.2.2.2.2.2.2),(0:Int))
 else
 Option.bind (r35 (y78.2,a.2.2.2.2.2.2.1)) fun (y80:T_46) =>
 Option.bind (
 bif decide (a.2.2.2.2.2.1=(2:Int)) then
 Option.bind (r36 (y80.2,y80.1,(false,(a.2.2.2.2.2.2.2.1,(a.2.2.2.2.2.2.2.2.1,((0:Int),((0:Int),((0:Int),(false,false))))))))) fun (y91:T_48) =>
 some ((),(y91.1.1,(y91.1.2.1,(y91.1.2.2,(y91.2.1,(y91.2.2.1,(y91.2.2.2.1.1,(y91.2.2.2.1.2,y91.2.2.2.2))))))))
 else
 bif decide (a.2.2.2.2.2.1=(3:Int)) then
 Option.bind (r36 (y80.2,y80.1,(true,(a.2.1,(a.2.2.2.2.2.2.2.2.1,(a.2.2.2.2.2.2.2.2.2,((0:Int),((0:Int),(false,false))))))))) fun (y92:T_48) =>
 some ((),(y92.1.1,(y92.1.2.1,(y92.1.2.2,(y92.2.1,(y92.2.2.1,(y92.2.2.2.1.1,(y92.2.2.2.1.2,y92.2.2.2.2))))))))
 else
 bif decide (a.2.2.2.2.2.1=(4:Int)) then
 Option.bind (r37 (y80.2,y80.1)) fun (y93:T_48) =>
 some ((),(y93.1.1,(y93.1.2.1,(y93.1.2.2,(y93.2.1,(y93.2.2.1,(y93.2.2.2.1.1,(y93.2.2.2.1.2,y93.2.2.2.2))))))))
 else
 Option.bind (r38 (y80.2,y80.1)) fun (y94:T_48) =>
 Option.bind (
 sameR (
 bif roomOk false y94.2.2.2.2.2.2.1.length 1 48 then
 r17_s1 y94 a
 else
 none)
 (
 sameR (
 bif roomOk false y94.2.2.2.2.2.2.1.length 1 48 then
 r17_s1 y94 a
 else
 none)
 (
 bif roomOk false y94.2.2.2.2.2.2.1.length 1 48 then
 r17_s1 y94 a
 else
 none))) fun (d95:T_44) =>
 some ((),d95.2)) fun (d96:T_44) =>
 some (((d96.2.2.2.2.2.2.1,d96.2.2.2.2.2.2.2.1),d96.2.2.2.2.2.2.2.2),(0:Int))
theorem r17e:r17q=r17:=by unfold r17q r17; simp only [r17_s0,r17_s1,sameR_self]
def an17:Ann:=.two (.leaf) (.two (.inl 4 110 (.two (.leaf) (.two (.two (.leaf) (.two (.leaf) (.two (.two (.leaf) (.leaf)) (.leaf)))) (.two (.two (.join [1,4,11,12,111,112,114,117] [11,12,114,117] [⟨.normal,[],[.tmp 135 (.bool)]⟩] (.leaf)) (.two (.two (.leaf) (.leaf)) (.leaf))) (.two (.two (.join [1,4,11,12,111,112,114,117] [11,12,114,117] [⟨.normal,[],[.tmp 143 (.bool)]⟩] (.leaf)) (.two (.two (.leaf) (.leaf)) (.leaf))) (.two (.draw 6) (.leaf)))))) (.leaf)) (.two (.two (.leaf) (.two (.two (.leaf) (.leaf)) (.leaf))) (.nilp 14 (.two (.two (.join [1,4,11,12,14] [11,12,151] [⟨.normal,[],[.tmp 37 (.bool)]⟩] (.leaf)) (.two (.two (.leaf) (.leaf)) (.leaf))) (.two (.two (.leaf) (.two (.two (.leaf) (.two (.leaf) (.leaf))) (.leaf))) (.two (.two (.leaf) (.two (.leaf) (.two (.two (.inl 8 152 (.join [12] [12] [⟨.normal,[],[.tmp 14 (.pt 151 [(0,0)] 0 0 12),.box 151 [.int .i64,.sl .ro (.pair (.int .i64) (.int .i64)),.int .i64,.int .i64,.int .i64,.int .i64,.sl .own E_72,.sl .own E_73,.sl .own E_74,.sl .own E_77,.int .i64,.int .i64]]⟩] (.drawT [0,1,2,3,4,5,6,7,8,9,10,11,12,13,14,15,16] [0])) (.leaf)) (.two (.leaf) (.leaf))) (.leaf)))) (.two (.leaf) (.two (.join [12] [12] [⟨.normal,[],[.tmp 14 (.pt 151 [(0,0)] 0 0 12),.box 151 [.int .i64,.sl .ro (.pair (.int .i64) (.int .i64)),.int .i64,.int .i64,.int .i64,.int .i64,.sl .own E_72,.sl .own E_73,.sl .own E_74,.sl .own E_77,.int .i64,.int .i64]]⟩] (.two (.leaf) (.one (.two (.leaf) (.two (.leaf) (.two (.leaf) (.two (.leaf) (.two (.leaf) (.two (.leaf) (.two (.leaf) (.inl 3 185 (.join [12] [12] [⟨.normal,[],[.tmp 14 (.pt 151 [(0,0)] 0 0 12),.box 151 [.int .i64,.sl .ro (.pair (.int .i64) (.int .i64)),.int .i64,.int .i64,.int .i64,.int .i64,.sl .own E_72,.sl .own E_73,.sl .own E_74,.sl .own E_77,.int .i64,.int .i64]]⟩] (.drawT [0,1,2,3,4,5,6,7,8,9,10,11,12,13,14,15,16] [0])) (.leaf)))))))))))) (.two (.leaf) (.leaf))))))))))
theorem s17:SoundF cx.P cx.G 17 sg17 r17:=by
 have e:denF cx [(16,⟨sg16,r16⟩),(32,⟨sg32,r32⟩),(33,⟨sg33,r33⟩),(35,⟨sg35,r35⟩),(36,⟨sg36,r36⟩),(37,⟨sg37,r37⟩),(38,⟨sg38,r38⟩),(60,⟨sg60,r60⟩)] an17 Tryd.f17.ntmps (Tryd.f17.body.getD .skip) Tryd.f17.results.toList sg17=r17q:=by kernel_rfl
 rw [← r17e,← e]
 exact sound_of_den (c:=cx) (Known.cons (.ofF s16 (by kernel_rfl)) Tryd.func16 (by kernel_rfl) (by kernel_rfl) (Known.cons (.ofM s32 (by kernel_rfl)) Tryd.func32 (by kernel_rfl) (by kernel_rfl) (Known.cons (.ofM s33 (by kernel_rfl)) Tryd.func33 (by kernel_rfl) (by kernel_rfl) (Known.cons (.ofM s35 (by kernel_rfl)) Tryd.func35 (by kernel_rfl) (by kernel_rfl) (Known.cons (.ofM s36 (by kernel_rfl)) Tryd.func36 (by kernel_rfl) (by kernel_rfl) (Known.cons (.ofM s37 (by kernel_rfl)) Tryd.func37 (by kernel_rfl) (by kernel_rfl) (Known.cons (.ofM s38 (by kernel_rfl)) Tryd.func38 (by kernel_rfl) (by kernel_rfl) (Known.cons (.ofF s60 (by kernel_rfl)) Tryd.func60 (by kernel_rfl) (by kernel_rfl) (Known.nil))))))))) Tryd.func17 (by kernel_rfl) (Nat.le_of_ble_eq_true (by kernel_rfl)) rfl
def sg40:Sig:=⟨[⟨true,.bo,E_79⟩,⟨false,.bo,(.int .i64)⟩,⟨false,.bo,(.int .i64)⟩],[⟨true,.own,(.pair (.int .i64) (.int .i64))⟩]⟩
noncomputable def r40 (a:(T_63×(Int×Int))):Option (Int×Int) :=
 Option.bind (r15 (a.2.1,a.1.1)) fun (y1:Int) =>
 Option.bind (r15 (a.2.2,(6:Int))) fun (y2:Int) =>
 some (y1,(Go.IntKind.wrap .i64 ((1:Int)+y2)))
def an40:Ann:=.two (.leaf) (.two (.leaf) (.leaf))
theorem s40:SoundF cx.P cx.G 40 sg40 r40:=by
 have e:denF cx [(15,⟨sg15,r15⟩)] an40 Tryd.f40.ntmps (Tryd.f40.body.getD .skip) Tryd.f40.results.toList sg40=r40:=by kernel_rfl
 rw [← e]
 exact sound_of_den (c:=cx) (Known.cons (.ofF s15 (by kernel_rfl)) Tryd.func15 (by kernel_rfl) (by kernel_rfl) (Known.nil)) Tryd.func40 (by kernel_rfl) (Nat.le_of_ble_eq_true (by kernel_rfl)) rfl
def sg20:Sig:=⟨[⟨true,.bo,E_79⟩,⟨true,.bo,E_77⟩],[⟨true,.own,E_73⟩]⟩
noncomputable def r20 (a:(T_63×T_62)):Option T_59 :=
 Option.bind (r15 (a.2.1,(9:Int))) fun (y5:Int) =>
 Option.bind (r15 (a.2.2.1,a.1.1)) fun (y6:Int) =>
 Option.bind (r15 ((Go.IntKind.wrap .i64 (Int.tdiv a.2.2.1 (7:Int))),a.1.1)) fun (y7:Int) =>
 Option.bind (r40 (a.1,a.2.2.2.1,a.2.2.2.2.1)) fun (y8:(Int×Int)) =>
 Option.bind (r15 (a.2.2.2.2.2.2,(4:Int))) fun (y9:Int) =>
 bif inB y9 ([(0:Int),(0:Int),(11:Int),(8:Int)].length) then
 Option.bind (idxN [(0:Int),(0:Int),(11:Int),(8:Int)] (Int.toNat y9)) fun (x10:Int) =>
 Option.bind (r15 (a.2.2.2.2.2.1,(↑a.1.2.1.length:Int))) fun (y11:Int) =>
 Option.bind (r15 ((Go.IntKind.wrap .i64 (Int.tdiv a.2.2.2.2.2.1 (5:Int))),(8:Int))) fun (y12:Int) =>
 Option.bind (
 bif decide ((Go.IntKind.wrap .i64 ((1:Int)+y5))=(1:Int)) then
 Option.bind (r15 (a.2.2.2.2.2.2,(9:Int))) fun (y35:Int) =>
 some ((),((Go.IntKind.wrap .i64 ((1:Int)+y5)),(y6,(y7,(y8.1,(y8.2,(y11,(y12,((0:Int),((0:Int),(y35,(false,(0:Int)))))))))))))
 else
 bif decide ((Go.IntKind.wrap .i64 ((1:Int)+y5))=(2:Int)) then
 Option.bind (r15 (a.2.2.2.2.2.2,(1073741824:Int))) fun (y36:Int) =>
 Option.bind (r15 ((Go.IntKind.wrap .i64 (Int.tdiv a.2.2.2.2.2.2 (3:Int))),(9:Int))) fun (y37:Int) =>
 some ((),((Go.IntKind.wrap .i64 ((1:Int)+y5)),(y6,(y7,(y8.1,(y8.2,((0:Int),(y12,(y36,((0:Int),(y37,(false,(0:Int)))))))))))))
 else
 bif decide ((Go.IntKind.wrap .i64 ((1:Int)+y5))=(3:Int)) then
 Option.bind (r15 (a.2.2.2.2.2.2,(4:Int))) fun (y38:Int) =>
 some ((),((Go.IntKind.wrap .i64 ((1:Int)+y5)),(y6,(y7,(y8.1,(y8.2,(y11,(y12,((0:Int),(y38,((0:Int),(false,(0:Int)))))))))))))
 else
 bif decide ((Go.IntKind.wrap .i64 ((1:Int)+y5))=(4:Int)) then
 Option.bind (r15 (a.2.2.2.2.2.2,(2:Int))) fun (y39:Int) =>
 some ((),((Go.IntKind.wrap .i64 ((1:Int)+y5)),(y6,(y7,(y8.1,(y8.2,((0:Int),((0:Int),((0:Int),((0:Int),((0:Int),(decide (y39=(1:Int)),(0:Int)))))))))))))
 else
 bif decide ((Go.IntKind.wrap .i64 ((1:Int)+y5))=(5:Int)) then
 Option.bind (r15 ((Go.IntKind.wrap .i64 (Int.tdiv a.2.2.2.2.2.2 (4:Int))),(9:Int))) fun (y40:Int) =>
 bif decide (x10=(0:Int)) then
 Option.bind (r15 (a.2.2.2.2.2.2,(99:Int))) fun (y41:Int) =>
 Option.bind (r15 (a.2.2.2.2.2.2,(5:Int))) fun (y42:Int) =>
 some ((),((Go.IntKind.wrap .i64 ((1:Int)+y5)),(y6,(y7,(y8.1,(y8.2,(y11,(y12,(y41,(y42,(y40,(false,x10))))))))))))
 else
 some ((),((Go.IntKind.wrap .i64 ((1:Int)+y5)),(y6,(y7,(y8.1,(y8.2,(y11,(y12,((0:Int),((0:Int),(y40,(false,x10))))))))))))
 else
 bif decide ((Go.IntKind.wrap .i64 ((1:Int)+y5))=(6:Int)) then
 Option.bind (r15 ((Go.IntKind.wrap .i64 (Int.tdiv a.2.2.2.2.2.2 (4:Int))),(9:Int))) fun (y43:Int) =>
 some ((),((Go.IntKind.wrap .i64 ((1:Int)+y5)),(y6,(y7,(y8.1,(y8.2,((0:Int),(y12,((0:Int),((0:Int),(y43,(false,x10))))))))))))
 else
 bif decide ((Go.IntKind.wrap .i64 ((1:Int)+y5))=(7:Int)) then
 Option.bind (r15 (a.2.2.2.2.2.2,(4:Int))) fun (y44:Int) =>
 Option.bind (r15 (a.2.2.2.2.2.2,(2:Int))) fun (y45:Int) =>
 some ((),((Go.IntKind.wrap .i64 ((1:Int)+y5)),(y6,(y7,(y8.1,(y8.2,(y11,(y12,((0:Int),(y44,((0:Int),(decide (y45=(1:Int)),(0:Int)))))))))))))
 else
 some ((),((Go.IntKind.wrap .i64 ((1:Int)+y5)),(y6,(y7,(y8.1,(y8.2,((0:Int),((0:Int),((0:Int),((0:Int),((0:Int),(false,(0:Int)))))))))))))) fun (d46:(Unit×(Int×(Int×(Int×(Int×(Int×(Int×(Int×(Int×(Int×(Int×(Bool×Int))))))))))))) =>
 some (d46.2.1,(d46.2.2.1,(d46.2.2.2.1,((d46.2.2.2.2.1,d46.2.2.2.2.2.1),d46.2.2.2.2.2.2))))
 else
 none
def an20:Ann:=.two (.leaf) (.two (.draw 23) (.two (.leaf) (.two (.leaf) (.two (.leaf) (.two (.join [4] [4] [⟨.normal,[],[.tmp 5 (.pt 5 [(0,0)] 0 0 12),.box 5 [.int .i64,.int .i64,.int .i64,.int .i64,.int .i64,.int .i64,.int .i64,.int .i64,.int .i64,.int .i64,.bool,.int .i64]]⟩] (.two (.leaf) (.one (.two (.leaf) (.two (.two (.leaf) (.two (.leaf) (.leaf))) (.two (.leaf) (.two (.two (.leaf) (.two (.leaf) (.leaf))) (.two (.leaf) (.two (.two (.leaf) (.two (.leaf) (.leaf))) (.two (.leaf) (.two (.leaf) (.two (.leaf) (.two (.two (.leaf) (.two (.leaf) (.two (.leaf) (.two (.leaf) (.two (.leaf) (.two (.two (.leaf) (.leaf)) (.leaf))))))) (.two (.leaf) (.two (.two (.leaf) (.two (.leaf) (.leaf))) (.two (.leaf) (.two (.two (.leaf) (.two (.leaf) (.two (.leaf) (.leaf)))) (.leaf)))))))))))))))))) (.two (.leaf) (.leaf)))))))
theorem s20:SoundF cx.P cx.G 20 sg20 r20:=by
 have e:denF cx [(15,⟨sg15,r15⟩),(40,⟨sg40,r40⟩)] an20 Tryd.f20.ntmps (Tryd.f20.body.getD .skip) Tryd.f20.results.toList sg20=r20:=by kernel_rfl
 rw [← e]
 exact sound_of_den (c:=cx) (Known.cons (.ofF s15 (by kernel_rfl)) Tryd.func15 (by kernel_rfl) (by kernel_rfl) (Known.cons (.ofF s40 (by kernel_rfl)) Tryd.func40 (by kernel_rfl) (by kernel_rfl) (Known.nil))) Tryd.func20 (by kernel_rfl) (Nat.le_of_ble_eq_true (by kernel_rfl)) rfl
def sg69:Sig:=⟨[⟨true,.bo,E_79⟩,⟨true,.bo,(.pair (.int .i64) (.int .i64))⟩],[⟨false,.own,.bool⟩]⟩
noncomputable def r69 (a:(T_63×(Int×Int))):Option Bool :=
 Option.bind (
 bif decide ((0:Int)≤a.2.1) then
 some (decide (a.2.1<a.1.1))
 else
 some false) fun (g1:Bool) =>
 Option.bind (
 bif g1 then
 some (decide ((1:Int)≤a.2.2))
 else
 some false) fun (g2:Bool) =>
 bif g2 then
 some (decide (a.2.2≤(1048576:Int)))
 else
 some false
def an69:Ann:=.two (.leaf) (.two (.segs [(10,([3],([3],[.tmp 14 (.bool)]))),(5,([3],([3],[.tmp 19 (.bool)])))]) (.leaf))
theorem s69:SoundF cx.P cx.G 69 sg69 r69:=by
 have e:denF cx [] an69 Tryd.f69.ntmps (Tryd.f69.body.getD .skip) Tryd.f69.results.toList sg69=r69:=by kernel_rfl
 rw [← e]
 exact sound_of_den (c:=cx) (Known.nil) Tryd.func69 (by kernel_rfl) (Nat.le_of_ble_eq_true (by kernel_rfl)) rfl
def sg70:Sig:=⟨[⟨false,.bo,(.int .i64)⟩],[⟨false,.own,.bool⟩]⟩
noncomputable def r70 (a:Int):Option Bool :=
 bif decide ((0:Int)≤a) then
 some (decide (a<(8:Int)))
 else
 some false
def an70:Ann:=.two (.leaf) (.two (.leaf) (.leaf))
theorem s70:SoundF cx.P cx.G 70 sg70 r70:=by
 have e:denF cx [] an70 Tryd.f70.ntmps (Tryd.f70.body.getD .skip) Tryd.f70.results.toList sg70=r70:=by kernel_rfl
 rw [← e]
 exact sound_of_den (c:=cx) (Known.nil) Tryd.func70 (by kernel_rfl) (Nat.le_of_ble_eq_true (by kernel_rfl)) rfl
def sg71:Sig:=⟨[⟨false,.bo,(.int .i64)⟩],[⟨false,.own,.bool⟩]⟩
noncomputable def r71 (a:Int):Option Bool :=
 bif decide ((0:Int)≤a) then
 some (decide (a≤(1073741824:Int)))
 else
 some false
def an71:Ann:=.two (.leaf) (.two (.leaf) (.leaf))
theorem s71:SoundF cx.P cx.G 71 sg71 r71:=by
 have e:denF cx [] an71 Tryd.f71.ntmps (Tryd.f71.body.getD .skip) Tryd.f71.results.toList sg71=r71:=by kernel_rfl
 rw [← e]
 exact sound_of_den (c:=cx) (Known.nil) Tryd.func71 (by kernel_rfl) (Nat.le_of_ble_eq_true (by kernel_rfl)) rfl
def sg72:Sig:=⟨[⟨false,.bo,(.int .i64)⟩],[⟨false,.own,.bool⟩]⟩
noncomputable def r72 (a:Int):Option Bool :=
 bif decide ((0:Int)≤a) then
 some (decide (a≤(1048576:Int)))
 else
 some false
def an72:Ann:=.two (.leaf) (.two (.leaf) (.leaf))
theorem s72:SoundF cx.P cx.G 72 sg72 r72:=by
 have e:denF cx [] an72 Tryd.f72.ntmps (Tryd.f72.body.getD .skip) Tryd.f72.results.toList sg72=r72:=by kernel_rfl
 rw [← e]
 exact sound_of_den (c:=cx) (Known.nil) Tryd.func72 (by kernel_rfl) (Nat.le_of_ble_eq_true (by kernel_rfl)) rfl
def sg73:Sig:=⟨[⟨false,.bo,(.int .i64)⟩],[⟨false,.own,.bool⟩]⟩
noncomputable def r73 (a:Int):Option Bool :=
 Option.bind (
 bif !(decide (a=(0:Int))) then
 some (decide (a=(11:Int)))
 else
 some true) fun (g1:Bool) =>
 bif !(g1) then
 some (decide (a=(8:Int)))
 else
 some true
def an73:Ann:=.two (.leaf) (.two (.segs [(6,([0],([],[.tmp 8 (.bool)])))]) (.leaf))
theorem s73:SoundF cx.P cx.G 73 sg73 r73:=by
 have e:denF cx [] an73 Tryd.f73.ntmps (Tryd.f73.body.getD .skip) Tryd.f73.results.toList sg73=r73:=by kernel_rfl
 rw [← e]
 exact sound_of_den (c:=cx) (Known.nil) Tryd.func73 (by kernel_rfl) (Nat.le_of_ble_eq_true (by kernel_rfl)) rfl
def sg41:Sig:=⟨[⟨true,.bo,E_79⟩,⟨true,.bo,E_73⟩],[⟨false,.own,(.int .i64)⟩]⟩
noncomputable def r41 (a:(T_63×T_59)):Option Int :=
 Option.bind (r29 a.1) fun (y1:Int) =>
 bif !(decide (y1=(0:Int))) then
 some y1
 else
 Option.bind (
 bif !(decide (a.2.1<(1:Int))) then
 some (decide ((9:Int)<a.2.1))
 else
 some true) fun (d2:Bool) =>
 bif d2 then
 some (3:Int)
 else
 Option.bind (
 Option.bind (
 bif !(decide (a.2.2.1<(0:Int))) then
 some (decide (a.1.1≤a.2.2.1))
 else
 some true) fun (g35:Bool) =>
 Option.bind (
 bif !(g35) then
 some (decide (a.2.2.2.1<(0:Int)))
 else
 some true) fun (g36:Bool) =>
 Option.bind (
 bif !(g36) then
 some (decide (a.1.1≤a.2.2.2.1))
 else
 some true) fun (g37:Bool) =>
 Option.bind (
 bif !(g37) then
 Option.bind (r69 (a.1,a.2.2.2.2.1)) fun (y38:Bool) =>
 some !(y38)
 else
 some true) fun (g39:Bool) =>
 Option.bind (
 bif !(g39) then
 some (decide (a.2.2.2.2.2.1<(0:Int)))
 else
 some true) fun (g40:Bool) =>
 Option.bind (
 bif !(g40) then
 some (decide ((↑a.1.2.1.length:Int)≤a.2.2.2.2.2.1))
 else
 some true) fun (g41:Bool) =>
 Option.bind (
 bif !(g41) then
 Option.bind (r70 a.2.2.2.2.2.2.1) fun (y42:Bool) =>
 some !(y42)
 else
 some true) fun (g43:Bool) =>
 Option.bind (
 bif !(g43) then
 Option.bind (r71 a.2.2.2.2.2.2.2.1) fun (y44:Bool) =>
 some !(y44)
 else
 some true) fun (g45:Bool) =>
 Option.bind (
 bif !(g45) then
 some (decide (a.2.2.2.2.2.2.2.2.1<(0:Int)))
 else
 some true) fun (g46:Bool) =>
 Option.bind (
 bif !(g46) then
 some (decide ((1048576:Int)<a.2.2.2.2.2.2.2.2.1))
 else
 some true) fun (g47:Bool) =>
 Option.bind (
 bif !(g47) then
 Option.bind (r72 a.2.2.2.2.2.2.2.2.2.1) fun (y48:Bool) =>
 some !(y48)
 else
 some true) fun (g49:Bool) =>
 bif !(g49) then
 Option.bind (r73 a.2.2.2.2.2.2.2.2.2.2.2) fun (y50:Bool) =>
 some !(y50)
 else
 some true) fun (d51:Bool) =>
 bif d51 then
 some (2:Int)
 else
 Option.bind (idxI tab0 a.2.1) fun (b52:(Bool×(Bool×(Bool×(Bool×(Bool×(Bool×(Bool×Bool)))))))) =>
 Option.bind (
 Option.bind (
 bif !(b52.1) then
 some (!(decide (a.2.2.2.2.2.1=(0:Int))))
 else
 some false) fun (g67:Bool) =>
 Option.bind (
 bif !(g67) then
 bif !(b52.2.1) then
 some (!(decide (a.2.2.2.2.2.2.1=(0:Int))))
 else
 some false
 else
 some true) fun (g68:Bool) =>
 Option.bind (
 bif !(g68) then
 bif !(b52.2.2.1) then
 some (!(decide (a.2.2.2.2.2.2.2.1=(0:Int))))
 else
 some false
 else
 some true) fun (g69:Bool) =>
 Option.bind (
 bif !(g69) then
 bif !(b52.2.2.2.1) then
 some (!(decide (a.2.2.2.2.2.2.2.2.1=(0:Int))))
 else
 some false
 else
 some true) fun (g70:Bool) =>
 Option.bind (
 bif !(g70) then
 bif !(b52.2.2.2.2.1) then
 some (!(decide (a.2.2.2.2.2.2.2.2.2.1=(0:Int))))
 else
 some false
 else
 some true) fun (g71:Bool) =>
 Option.bind (
 bif !(g71) then
 bif !(b52.2.2.2.2.2.1) then
 some a.2.2.2.2.2.2.2.2.2.2.1
 else
 some false
 else
 some true) fun (g72:Bool) =>
 Option.bind (
 bif !(g72) then
 bif !(b52.2.2.2.2.2.2.1) then
 some (!(decide (a.2.2.2.2.2.2.2.2.2.2.2=(0:Int))))
 else
 some false
 else
 some true) fun (g73:Bool) =>
 bif !(g73) then
 bif !(decide (a.2.2.2.2.2.2.2.2.2.2.2=(0:Int))) then
 some (!(decide ((Go.IntKind.wrap .i64 (a.2.2.2.2.2.2.2.1+a.2.2.2.2.2.2.2.2.1))=(0:Int))))
 else
 some false
 else
 some true) fun (d74:Bool) =>
 bif d74 then
 some (4:Int)
 else
 some (0:Int)
def an41:Ann:=.two (.leaf) (.two (.two (.leaf) (.two (.leaf) (.two (.two (.leaf) (.leaf)) (.leaf)))) (.two (.two (.join [2,3] [2,3] [⟨.normal,[],[.tmp 19 (.bool)]⟩] (.leaf)) (.two (.two (.leaf) (.leaf)) (.leaf))) (.two (.two (.join [3] [3] [⟨.normal,[],[.tmp 95 (.bool)]⟩] (.segs [(10,([2,3],([2,3],[.tmp 29 (.bool)]))),(5,([2,3],([2,3],[.tmp 34 (.bool)]))),(7,([2,3],([2,3],[.tmp 41 (.bool)]))),(7,([2,3],([2,3],[.tmp 48 (.bool)]))),(5,([2,3],([2,3],[.tmp 53 (.bool)]))),(8,([3],([3],[.tmp 61 (.bool)]))),(6,([3],([3],[.tmp 67 (.bool)]))),(6,([3],([3],[.tmp 73 (.bool)]))),(5,([3],([3],[.tmp 78 (.bool)]))),(5,([3],([3],[.tmp 83 (.bool)]))),(6,([3],([3],[.tmp 89 (.bool)])))])) (.two (.two (.leaf) (.leaf)) (.leaf))) (.two (.leaf) (.two (.two (.join [] [] [⟨.normal,[],[.tmp 179 (.bool)]⟩] (.segs [(8,([3,6],([3,6],[.tmp 107 (.bool)]))),(10,([3,6],([3,6],[.tmp 117 (.bool)]))),(10,([3,6],([3,6],[.tmp 127 (.bool)]))),(10,([3,6],([3,6],[.tmp 137 (.bool)]))),(10,([3,6],([3,6],[.tmp 147 (.bool)]))),(9,([3,6],([3,6],[.tmp 156 (.bool)]))),(10,([3],([3],[.tmp 166 (.bool)])))])) (.two (.two (.leaf) (.leaf)) (.leaf))) (.two (.leaf) (.leaf)))))))
theorem s41:SoundF cx.P cx.G 41 sg41 r41:=by
 have e:denF cx [(29,⟨sg29,r29⟩),(69,⟨sg69,r69⟩),(70,⟨sg70,r70⟩),(71,⟨sg71,r71⟩),(72,⟨sg72,r72⟩),(73,⟨sg73,r73⟩)] an41 Tryd.f41.ntmps (Tryd.f41.body.getD .skip) Tryd.f41.results.toList sg41=r41:=by kernel_rfl
 rw [← e]
 exact sound_of_den (c:=cx) (Known.cons (.ofF s29 (by kernel_rfl)) Tryd.func29 (by kernel_rfl) (by kernel_rfl) (Known.cons (.ofF s69 (by kernel_rfl)) Tryd.func69 (by kernel_rfl) (by kernel_rfl) (Known.cons (.ofF s70 (by kernel_rfl)) Tryd.func70 (by kernel_rfl) (by kernel_rfl) (Known.cons (.ofF s71 (by kernel_rfl)) Tryd.func71 (by kernel_rfl) (by kernel_rfl) (Known.cons (.ofF s72 (by kernel_rfl)) Tryd.func72 (by kernel_rfl) (by kernel_rfl) (Known.cons (.ofF s73 (by kernel_rfl)) Tryd.func73 (by kernel_rfl) (by kernel_rfl) (Known.nil))))))) Tryd.func41 (by kernel_rfl) (Nat.le_of_ble_eq_true (by kernel_rfl)) rfl
def sg42:Sig:=⟨[⟨false,.own,E_65⟩,⟨false,.bo,(.int .i64)⟩,⟨true,.bo,E_73⟩],[⟨false,.own,E_65⟩]⟩
noncomputable def r42 (a:T_25):Option T_48 :=
 bif decide (a.2.1<(0:Int)) then
 Option.bind (
 bif roomOk false a.1.2.2.2.2.1.length 1 96 then
 some ((),((),(a.1.1.1,(a.1.1.2.1,(a.1.1.2.2,(a.1.2.1,(a.1.2.2.1,(a.1.2.2.2.1.1,(a.1.2.2.2.1.2,(app a.1.2.2.2.2.1 [((4:Int),(a.1.2.2.1,(a.2.2.2.1,((a.1.2.2.1,a.2.2.2.2.2.1.2),((0:Int),((0:Int),((0:Int),((0:Int),((0:Int),(false,(0:Int)))))))))))],a.1.2.2.2.2.2))))))))))
 else
 none) fun (d1:T_41) =>
 bif inB (Go.IntKind.wrap .i64 ((↑d1.2.2.2.2.2.2.2.2.2.1.length:Int) - (1:Int))) d1.2.2.2.2.2.2.2.2.2.1.length then
 some ((d1.2.2.1,(d1.2.2.2.1,d1.2.2.2.2.1)),(d1.2.2.2.2.2.1,(d1.2.2.2.2.2.2.1,((d1.2.2.2.2.2.2.2.1,d1.2.2.2.2.2.2.2.2.1),d1.2.2.2.2.2.2.2.2.2))))
 else
 none
 else
 bif inB a.2.1 a.1.2.2.2.1.2.length then
 Option.bind (idxN a.1.2.2.2.1.2 (Int.toNat a.2.1)) fun (x2:T_58) =>
 Option.bind (
 bif decide (x2.2.1=(3:Int)) then
 Option.bind (idxN a.1.2.2.2.1.2 (Int.toNat a.2.1)) fun (x7:T_58) =>
 Option.bind (r74 (x7.2.2.2.1,a.2.2.2.1)) fun (y8:Bool) =>
 some y8
 else
 some false) fun (d9:Bool) =>
 bif d9 then
 Option.bind (
 bif roomOk false a.1.2.2.2.2.1.length 1 96 then
 some ((),((),(a.1.1.1,(a.1.1.2.1,(a.1.1.2.2,(a.1.2.1,(a.1.2.2.1,(a.1.2.2.2.1.1,(a.1.2.2.2.1.2,(app a.1.2.2.2.2.1 [((4:Int),(a.1.2.2.1,(a.2.2.2.1,((a.1.2.2.1,x2.1),((0:Int),((0:Int),((0:Int),((0:Int),((0:Int),(false,(0:Int)))))))))))],a.1.2.2.2.2.2))))))))))
 else
 none) fun (d10:T_41) =>
 bif inB (Go.IntKind.wrap .i64 ((↑d10.2.2.2.2.2.2.2.2.2.1.length:Int) - (1:Int))) d10.2.2.2.2.2.2.2.2.2.1.length then
 Option.bind (idxN d10.2.2.2.2.2.2.2.2.2.1 (Int.toNat (Go.IntKind.wrap .i64 ((↑d10.2.2.2.2.2.2.2.2.2.1.length:Int) - (1:Int))))) fun (x11:T_59) =>
 some ((d10.2.2.1,(d10.2.2.2.1,d10.2.2.2.2.1)),(d10.2.2.2.2.2.1,(d10.2.2.2.2.2.2.1,((d10.2.2.2.2.2.2.2.1,d10.2.2.2.2.2.2.2.2.1),(List.set d10.2.2.2.2.2.2.2.2.2.1 (Int.toNat (Go.IntKind.wrap .i64 ((↑d10.2.2.2.2.2.2.2.2.2.1.length:Int) - (1:Int)))) (x11.1,(x11.2.1,(x11.2.2.1,(x11.2.2.2.1,(x11.2.2.2.2.1,(x11.2.2.2.2.2.1,(x11.2.2.2.2.2.2.1,(x11.2.2.2.2.2.2.2.1,(x11.2.2.2.2.2.2.2.2.1,(true,x11.2.2.2.2.2.2.2.2.2.2)))))))))),d10.2.2.2.2.2.2.2.2.2.2)))))
 else
 none
 else
 some a.1
 else
 none
noncomputable def r42_s0 (a:T_25):Option T_41 :=
 some ((),((),(a.1.1.1,(a.1.1.2.1,(a.1.1.2.2,(a.1.2.1,(a.1.2.2.1,(a.1.2.2.2.1.1,(a.1.2.2.2.1.2,(app a.1.2.2.2.2.1 [((4:Int),(a.1.2.2.1,(a.2.2.2.1,((a.1.2.2.1,a.2.2.2.2.2.1.2),((0:Int),((0:Int),((0:Int),((0:Int),((0:Int),(false,(0:Int)))))))))))],a.1.2.2.2.2.2))))))))))
noncomputable def r42_s1 (a:T_25) (x2:T_58):Option T_41 :=
 some ((),((),(a.1.1.1,(a.1.1.2.1,(a.1.1.2.2,(a.1.2.1,(a.1.2.2.1,(a.1.2.2.2.1.1,(a.1.2.2.2.1.2,(app a.1.2.2.2.2.1 [((4:Int),(a.1.2.2.1,(a.2.2.2.1,((a.1.2.2.1,x2.1),((0:Int),((0:Int),((0:Int),((0:Int),((0:Int),(false,(0:Int)))))))))))],a.1.2.2.2.2.2))))))))))
noncomputable def r42q:T_25→Option T_48:=fun a =>
 bif decide (a.2.1<(0:Int)) then
 Option.bind (
 sameR (
 bif roomOk false a.1.2.2.2.2.1.length 1 96 then
 r42_s0 a
 else
 none)
 (
 sameR (
 bif roomOk false a.1.2.2.2.2.1.length 1 96 then
 r42_s0 a
 else
 none)
 (
 bif roomOk false a.1.2.2.2.2.1.length 1 96 then
 r42_s0 a
 else
 none))) fun (d1:T_41) =>
 bif inB (Go.IntKind.wrap .i64 ((↑d1.2.2.2.2.2.2.2.2.2.1.length:Int) - (1:Int))) d1.2.2.2.2.2.2.2.2.2.1.length then
 some ((d1.2.2.1,(d1.2.2.2.1,d1.2.2.2.2.1)),(d1.2.2.2.2.2.1,(d1.2.2.2.2.2.2.1,((d1.2.2.2.2.2.2.2.1,d1.2.2.2.2.2.2.2.2.1),d1.2.2.2.2.2.2.2.2.2))))
 else
 none
 else
 bif inB a.2.1 a.1.2.2.2.1.2.length then
 Option.bind (idxN a.1.2.2.2.1.2 (Int.toNat a.2.1)) fun (x2:T_58) =>
 Option.bind (
 bif decide (x2.2.1=(3:Int)) then
 Option.bind (idxN a.1.2.2.2.1.2 (Int.toNat a.2.1)) fun (x7:T_58) =>
 Option.bind (r74 (x7.2.2.2.1,a.2.2.2.1)) fun (y8:Bool) =>
 some y8
 else
 some false) fun (d9:Bool) =>
 bif d9 then
 Option.bind (
 sameR (
 bif roomOk false a.1.2.2.2.2.1.length 1 96 then
 r42_s1 a x2
 else
 none)
 (
 sameR (
 bif roomOk false a.1.2.2.2.2.1.length 1 96 then
 r42_s1 a x2
 else
 none)
 (
 bif roomOk false a.1.2.2.2.2.1.length 1 96 then
 r42_s1 a x2
 else
 none))) fun (d10:T_41) =>
 bif inB (Go.IntKind.wrap .i64 ((↑d10.2.2.2.2.2.2.2.2.2.1.length:Int) - (1:Int))) d10.2.2.2.2.2.2.2.2.2.1.length then
 Option.bind (idxN d10.2.2.2.2.2.2.2.2.2.1 (Int.toNat (Go.IntKind.wrap .i64 ((↑d10.2.2.2.2.2.2.2.2.2.1.length:Int) - (1:Int))))) fun (x11:T_59) =>
 some ((d10.2.2.1,(d10.2.2.2.1,d10.2.2.2.2.1)),(d10.2.2.2.2.2.1,(d10.2.2.2.2.2.2.1,((d10.2.2.2.2.2.2.2.1,d10.2.2.2.2.2.2.2.2.1),(List.set d10.2.2.2.2.2.2.2.2.2.1 (Int.toNat (Go.IntKind.wrap .i64 ((↑d10.2.2.2.2.2.2.2.2.2.1.length:Int) - (1:Int)))) (x11.1,(x11.2.1,(x11.2.2.1,(x11.2.2.2.1,(x11.2.2.2.2.1,(x11.2.2.2.2.2.1,(x11.2.2.2.2.2.2.1,(x11.2.2.2.2.2.2.2.1,(x11.2.2.2.2.2.2.2.2.1,(true,x11.2.2.2.2.2.2.2.2.2.2)))))))))),d10.2.2.2.2.2.2.2.2.2.2)))))
 else
 none
 else
 some a.1
 else
 none
theorem r42e:r42q=r42:=by unfold r42q r42; simp only [r42_s0,r42_s1,sameR_self]
def an42:Ann:=.two (.leaf) (.two (.two (.leaf) (.two (.two (.inl 6 43 (.two (.leaf) (.two (.join [] [] [⟨.normal,[],[.tmp 0 (.pt 0 [(0,0)] 0 0 0),.tmp 43 (.pt 0 [(0,0)] 0 0 0),.box 0 [.int .i64,.sl .ro (.pair (.int .i64) (.int .i64)),.int .i64,.int .i64,.int .i64,.int .i64,.sl .own E_72,.sl .own E_73,.sl .own E_74,.sl .own E_77,.int .i64,.int .i64]]⟩] (.drawT [0,1,2,3,4,5,6,7,8,9,10,11,12,13,14,15,16,17,18,19] [0])) (.two (.draw 12) (.leaf)))) (.leaf)) (.leaf)) (.leaf))) (.two (.leaf) (.two (.join [0,5,6] [0,5] [⟨.normal,[],[.tmp 34 (.bool)]⟩] (.leaf)) (.two (.inl 5 89 (.two (.leaf) (.two (.join [] [] [⟨.normal,[],[.tmp 0 (.pt 0 [(0,0)] 0 0 0),.tmp 89 (.pt 0 [(0,0)] 0 0 0),.box 0 [.int .i64,.sl .ro (.pair (.int .i64) (.int .i64)),.int .i64,.int .i64,.int .i64,.int .i64,.sl .own E_72,.sl .own E_73,.sl .own E_74,.sl .own E_77,.int .i64,.int .i64]]⟩] (.drawT [0,1,2,3,4,5,6,7,8,9,10,11,12,13,14,15,16,17,18,19] [0])) (.two (.draw 12) (.leaf)))) (.leaf)) (.leaf)))))
theorem s42:SoundM cx.P cx.G 42 sg42 r42:=by
 have e:denM cx [(74,⟨sg74,r74⟩)] an42 Tryd.f42.ntmps (Tryd.f42.body.getD .skip) Tryd.f42.results.toList sg42=r42q:=by kernel_rfl
 rw [← r42e,← e]
 exact sound_of_denM (c:=cx) (Known.cons (.ofF s74 (by kernel_rfl)) Tryd.func74 (by kernel_rfl) (by kernel_rfl) (Known.nil)) Tryd.func42 (by kernel_rfl) (Nat.le_of_ble_eq_true (by kernel_rfl)) rfl
def sg43:Sig:=⟨[⟨false,.own,E_65⟩,⟨false,.bo,(.int .i64)⟩,⟨true,.bo,E_73⟩,⟨false,.bo,.bool⟩],[⟨false,.own,E_65⟩]⟩
noncomputable def r43 (a:T_24):Option T_48 :=
 bif inB a.2.1 a.1.2.2.2.1.2.length then
 Option.bind (idxN a.1.2.2.2.1.2 (Int.toNat a.2.1)) fun (_:T_58) =>
 Option.bind (idxN a.1.2.2.2.1.2 (Int.toNat a.2.1)) fun (x2:T_58) =>
 bif decide ((Go.IntKind.wrap .i64 ((↑x2.2.2.1.length:Int) - (1:Int)))<(0:Int)) then
 some a.1
 else
 Option.bind (idxN a.1.2.2.2.1.2 (Int.toNat a.2.1)) fun (_:T_58) =>
 Option.bind (idxN a.1.2.2.2.1.2 (Int.toNat a.2.1)) fun (x4:T_58) =>
 bif inB (Go.IntKind.wrap .i64 ((↑x2.2.2.1.length:Int) - (1:Int))) x4.2.2.1.length then
 Option.bind (
 Option.bind (idxN a.1.2.2.2.1.2 (Int.toNat a.2.1)) fun (x69:T_58) =>
 Option.bind (idxN x69.2.2.1 (Int.toNat (Go.IntKind.wrap .i64 ((↑x2.2.2.1.length:Int) - (1:Int))))) fun (x70:T_61) =>
 bif !(x70.2.2.2.2.2.2.1) then
 Option.bind (idxN a.1.2.2.2.1.2 (Int.toNat a.2.1)) fun (x71:T_58) =>
 Option.bind (idxN x71.2.2.1 (Int.toNat (Go.IntKind.wrap .i64 ((↑x2.2.2.1.length:Int) - (1:Int))))) fun (x72:T_61) =>
 bif !(!(decide (x72.2.2.2.2.2.1=a.2.2.1.2.2.2.2.2.2.2.2.1))) then
 Option.bind (idxN a.1.2.2.2.1.2 (Int.toNat a.2.1)) fun (x73:T_58) =>
 Option.bind (idxN x73.2.2.1 (Int.toNat (Go.IntKind.wrap .i64 ((↑x2.2.2.1.length:Int) - (1:Int))))) fun (x74:T_61) =>
 bif !(!(decide (x74.1=a.2.2.2))) then
 Option.bind (idxN a.1.2.2.2.1.2 (Int.toNat a.2.1)) fun (x75:T_58) =>
 Option.bind (idxN x75.2.2.1 (Int.toNat (Go.IntKind.wrap .i64 ((↑x2.2.2.1.length:Int) - (1:Int))))) fun (x76:T_61) =>
 bif !(!(decide (x76.2.2.1=a.2.2.1.2.2.2.2.2.1))) then
 bif !(a.2.2.2) then
 Option.bind (idxN a.1.2.2.2.1.2 (Int.toNat a.2.1)) fun (x77:T_58) =>
 Option.bind (idxN x77.2.2.1 (Int.toNat (Go.IntKind.wrap .i64 ((↑x2.2.2.1.length:Int) - (1:Int))))) fun (x78:T_61) =>
 bif !(!(decide (x78.2.1=a.2.2.1.2.2.2.2.1))) then
 Option.bind (idxN a.1.2.2.2.1.2 (Int.toNat a.2.1)) fun (x79:T_58) =>
 Option.bind (idxN x79.2.2.1 (Int.toNat (Go.IntKind.wrap .i64 ((↑x2.2.2.1.length:Int) - (1:Int))))) fun (x80:T_61) =>
 bif decide (a.1.1.1=0) then
 none
 else
 some (!(decide (a.2.2.1.2.1=(Int.tmod x80.2.2.1 a.1.1.1))))
 else
 some true
 else
 Option.bind (idxN a.1.2.2.2.1.2 (Int.toNat a.2.1)) fun (x81:T_58) =>
 Option.bind (idxN x81.2.2.1 (Int.toNat (Go.IntKind.wrap .i64 ((↑x2.2.2.1.length:Int) - (1:Int))))) fun (x82:T_61) =>
 bif decide (a.1.1.1=0) then
 none
 else
 some (!(decide (a.2.2.1.2.1=(Int.tmod x82.2.2.1 a.1.1.1))))
 else
 some true
 else
 some true
 else
 some true
 else
 some true) fun (d83:Bool) =>
 bif d83 then
 some a.1
 else
 Option.bind (
 bif a.2.2.2 then
 some (3:Int)
 else
 some (2:Int)) fun (d84:Int) =>
 Option.bind (
 Option.bind (idxN a.1.2.2.2.1.2 (Int.toNat a.2.1)) fun (x89:T_58) =>
 Option.bind (
 bif roomOk false a.1.2.2.2.2.2.2.1.length 1 48 then
 some ((),((((),((),())),(Int.toNat a.2.1)),((((),((),((Int.toNat a.2.1),()))),(Int.toNat (Go.IntKind.wrap .i64 ((↑x2.2.2.1.length:Int) - (1:Int))))),((((),((),())),(Int.toNat a.2.1)),((((),((),())),(Int.toNat a.2.1)),((((),((),())),(Int.toNat a.2.1)),(a.1.1.1,(a.1.1.2.1,(a.1.1.2.2,(a.1.2.1,(a.1.2.2.1,(a.1.2.2.2.1.1,(a.1.2.2.2.1.2,(a.1.2.2.2.2.1,(a.1.2.2.2.2.2.1,(app a.1.2.2.2.2.2.2.1 [(a.1.2.2.1,(d84,(x89.1,(a.2.2.1.2.2.2.2.2.1,(a.2.2.1.2.2.2.2.2.2.1,a.2.2.1.2.2.2.2.2.2.2.2.2.2)))))],a.1.2.2.2.2.2.2.2))))))))))))))))
 else
 none) fun (d90:T_11) =>
 some ((),((((),((),())),d90.2.1.2),((((),((),(d90.2.2.1.1.2.2.1,()))),d90.2.2.1.2),d90.2.2.2.2.2.2)))) fun (d91:T_28) =>
 Option.bind (idxN d91.2.2.2.2.2.2.2.2.2.1 d91.2.1.2) fun (x92:T_58) =>
 Option.bind (
 bif !(decide (a.2.2.1.2.2.2.2.2.2.2.2.2.2=(0:Int))) then
 some a.2.2.2
 else
 some false) fun (d93:Bool) =>
 bif d93 then
 Option.bind (r38 (((d91.2.2.2.1,(d91.2.2.2.2.1,d91.2.2.2.2.2.1)),(d91.2.2.2.2.2.2.1,(d91.2.2.2.2.2.2.2.1,((d91.2.2.2.2.2.2.2.2.1,List.set d91.2.2.2.2.2.2.2.2.2.1 d91.2.1.2 (x92.1,(x92.2.1,(x92.2.2.1,(x92.2.2.2.1,(x92.2.2.2.2.1,(0:Int))))))),d91.2.2.2.2.2.2.2.2.2.2)))),a.2.1)) fun (y94:T_48) =>
 some y94
 else
 bif !(decide (a.2.2.1.2.2.2.2.2.2.2.2.2.2=(0:Int))) then
 Option.bind (idxN (List.set d91.2.2.2.2.2.2.2.2.2.1 d91.2.1.2 (x92.1,(x92.2.1,(x92.2.2.1,(x92.2.2.2.1,(x92.2.2.2.2.1,(0:Int))))))) d91.2.1.2) fun (_:T_58) =>
 Option.bind (idxN (List.set d91.2.2.2.2.2.2.2.2.2.1 d91.2.1.2 (x92.1,(x92.2.1,(x92.2.2.1,(x92.2.2.2.1,(x92.2.2.2.2.1,(0:Int))))))) d91.2.1.2) fun (x96:T_58) =>
 bif okB none (some (Go.IntKind.wrap .i64 ((↑x2.2.2.1.length:Int) - (1:Int)))) none x96.2.2.1.length then
 Option.bind (idxN (List.set d91.2.2.2.2.2.2.2.2.2.1 d91.2.1.2 (x92.1,(x92.2.1,(x92.2.2.1,(x92.2.2.2.1,(x92.2.2.2.2.1,(0:Int))))))) d91.2.1.2) fun (x97:T_58) =>
 Option.bind (idxN (List.set d91.2.2.2.2.2.2.2.2.2.1 d91.2.1.2 (x92.1,(x92.2.1,(x92.2.2.1,(x92.2.2.2.1,(x92.2.2.2.2.1,(0:Int))))))) d91.2.1.2) fun (_:T_58) =>
 bif Nat.beq d91.2.1.2 d91.2.1.2 then
 some ((d91.2.2.2.1,(d91.2.2.2.2.1,d91.2.2.2.2.2.1)),(d91.2.2.2.2.2.2.1,(d91.2.2.2.2.2.2.2.1,((d91.2.2.2.2.2.2.2.2.1,List.set (List.set d91.2.2.2.2.2.2.2.2.2.1 d91.2.1.2 (x92.1,(x92.2.1,(x92.2.2.1,(x92.2.2.2.1,(x92.2.2.2.2.1,(0:Int))))))) d91.2.1.2 (x97.1,(x97.2.1,(midL x97.2.2.1 0 (Int.toNat (Go.IntKind.wrap .i64 ((↑x2.2.2.1.length:Int) - (1:Int)))),x97.2.2.2)))),d91.2.2.2.2.2.2.2.2.2.2))))
 else
 none
 else
 none
 else
 Option.bind (idxN (List.set d91.2.2.2.2.2.2.2.2.2.1 d91.2.1.2 (x92.1,(x92.2.1,(x92.2.2.1,(x92.2.2.2.1,(x92.2.2.2.2.1,(0:Int))))))) d91.2.2.1.1.2.2.1) fun (x99:T_58) =>
 Option.bind (idxN x99.2.2.1 d91.2.2.1.2) fun (x100:T_61) =>
 bif !(a.2.2.2) then
 Option.bind (
 Option.bind (idxN (List.set (List.set d91.2.2.2.2.2.2.2.2.2.1 d91.2.1.2 (x92.1,(x92.2.1,(x92.2.2.1,(x92.2.2.2.1,(x92.2.2.2.2.1,(0:Int))))))) d91.2.2.1.1.2.2.1 (x99.1,(x99.2.1,(List.set x99.2.2.1 d91.2.2.1.2 (x100.1,(x100.2.1,(x100.2.2.1,(x100.2.2.2.1,(x100.2.2.2.2.1,(x100.2.2.2.2.2.1,(true,x100.2.2.2.2.2.2.2))))))),x99.2.2.2)))) d91.2.2.1.1.2.2.1) fun (x313:T_58) =>
 Option.bind (idxN x313.2.2.1 d91.2.2.1.2) fun (x314:T_61) =>
 Option.bind (idxN (List.set (List.set (List.set d91.2.2.2.2.2.2.2.2.2.1 d91.2.1.2 (x92.1,(x92.2.1,(x92.2.2.1,(x92.2.2.2.1,(x92.2.2.2.2.1,(0:Int))))))) d91.2.2.1.1.2.2.1 (x99.1,(x99.2.1,(List.set x99.2.2.1 d91.2.2.1.2 (x100.1,(x100.2.1,(x100.2.2.1,(x100.2.2.2.1,(x100.2.2.2.2.1,(x100.2.2.2.2.2.1,(true,x100.2.2.2.2.2.2.2))))))),x99.2.2.2)))) d91.2.2.1.1.2.2.1 (x313.1,(x313.2.1,(List.set x313.2.2.1 d91.2.2.1.2 (x314.1,(x314.2.1,(x314.2.2.1,(a.2.2.1.2.2.2.2.2.2.1,x314.2.2.2.2)))),x313.2.2.2)))) d91.2.2.1.1.2.2.1) fun (x315:T_58) =>
 Option.bind (idxN x315.2.2.1 d91.2.2.1.2) fun (x316:T_61) =>
 some ((),(d91.2.2.2.1,(d91.2.2.2.2.1,(d91.2.2.2.2.2.1,(d91.2.2.2.2.2.2.1,(d91.2.2.2.2.2.2.2.1,(d91.2.2.2.2.2.2.2.2.1,(List.set (List.set (List.set (List.set d91.2.2.2.2.2.2.2.2.2.1 d91.2.1.2 (x92.1,(x92.2.1,(x92.2.2.1,(x92.2.2.2.1,(x92.2.2.2.2.1,(0:Int))))))) d91.2.2.1.1.2.2.1 (x99.1,(x99.2.1,(List.set x99.2.2.1 d91.2.2.1.2 (x100.1,(x100.2.1,(x100.2.2.1,(x100.2.2.2.1,(x100.2.2.2.2.1,(x100.2.2.2.2.2.1,(true,x100.2.2.2.2.2.2.2))))))),x99.2.2.2)))) d91.2.2.1.1.2.2.1 (x313.1,(x313.2.1,(List.set x313.2.2.1 d91.2.2.1.2 (x314.1,(x314.2.1,(x314.2.2.1,(a.2.2.1.2.2.2.2.2.2.1,x314.2.2.2.2)))),x313.2.2.2)))) d91.2.2.1.1.2.2.1 (x315.1,(x315.2.1,(List.set x315.2.2.1 d91.2.2.1.2 (x316.1,(x316.2.1,(x316.2.2.1,(x316.2.2.2.1,(a.2.2.1.2.2.2.2.2.2.2.1,x316.2.2.2.2.2))))),x315.2.2.2))),d91.2.2.2.2.2.2.2.2.2.2))))))))) fun (d337:T_44) =>
 some ((d337.2.1,(d337.2.2.1,d337.2.2.2.1)),(d337.2.2.2.2.1,(d337.2.2.2.2.2.1,((d337.2.2.2.2.2.2.1,d337.2.2.2.2.2.2.2.1),d337.2.2.2.2.2.2.2.2))))
 else
 some ((d91.2.2.2.1,(d91.2.2.2.2.1,d91.2.2.2.2.2.1)),(d91.2.2.2.2.2.2.1,(d91.2.2.2.2.2.2.2.1,((d91.2.2.2.2.2.2.2.2.1,List.set (List.set d91.2.2.2.2.2.2.2.2.2.1 d91.2.1.2 (x92.1,(x92.2.1,(x92.2.2.1,(x92.2.2.2.1,(x92.2.2.2.2.1,(0:Int))))))) d91.2.2.1.1.2.2.1 (x99.1,(x99.2.1,(List.set x99.2.2.1 d91.2.2.1.2 (x100.1,(x100.2.1,(x100.2.2.1,(x100.2.2.2.1,(x100.2.2.2.2.1,(x100.2.2.2.2.2.1,(true,x100.2.2.2.2.2.2.2))))))),x99.2.2.2)))),d91.2.2.2.2.2.2.2.2.2.2))))
 else
 none
 else
 none
noncomputable def r43_s0 (a:T_24) (x2:T_58):Option Bool :=
 Option.bind (idxN a.1.2.2.2.1.2 (Int.toNat a.2.1)) fun (x79:T_58) =>
 Option.bind (idxN x79.2.2.1 (Int.toNat (Go.IntKind.wrap .i64 ((↑x2.2.2.1.length:Int) - (1:Int))))) fun (x80:T_61) =>
 bif decide (a.1.1.1=0) then
 none
 else
 some (!(decide (a.2.2.1.2.1=(Int.tmod x80.2.2.1 a.1.1.1))))
noncomputable def r43_s1 (a:T_24) (x2:T_58) (d84:Int) (x89:T_58):Option T_11 :=
 some ((),((((),((),())),(Int.toNat a.2.1)),((((),((),((Int.toNat a.2.1),()))),(Int.toNat (Go.IntKind.wrap .i64 ((↑x2.2.2.1.length:Int) - (1:Int))))),((((),((),())),(Int.toNat a.2.1)),((((),((),())),(Int.toNat a.2.1)),((((),((),())),(Int.toNat a.2.1)),(a.1.1.1,(a.1.1.2.1,(a.1.1.2.2,(a.1.2.1,(a.1.2.2.1,(a.1.2.2.2.1.1,(a.1.2.2.2.1.2,(a.1.2.2.2.2.1,(a.1.2.2.2.2.2.1,(app a.1.2.2.2.2.2.2.1 [(a.1.2.2.1,(d84,(x89.1,(a.2.2.1.2.2.2.2.2.1,(a.2.2.1.2.2.2.2.2.2.1,a.2.2.1.2.2.2.2.2.2.2.2.2.2)))))],a.1.2.2.2.2.2.2.2))))))))))))))))
noncomputable def r43_s2 (d91:T_28) (x92:T_58) (x99:T_58) (x100:T_61) (a:T_24):Option T_44 :=
 Option.bind (idxN (List.set (List.set d91.2.2.2.2.2.2.2.2.2.1 d91.2.1.2 (x92.1,(x92.2.1,(x92.2.2.1,(x92.2.2.2.1,(x92.2.2.2.2.1,(0:Int))))))) d91.2.2.1.1.2.2.1 (x99.1,(x99.2.1,(List.set x99.2.2.1 d91.2.2.1.2 (x100.1,(x100.2.1,(x100.2.2.1,(x100.2.2.2.1,(x100.2.2.2.2.1,(x100.2.2.2.2.2.1,(true,x100.2.2.2.2.2.2.2))))))),x99.2.2.2)))) d91.2.2.1.1.2.2.1) fun (x313:T_58) =>
 Option.bind (idxN x313.2.2.1 d91.2.2.1.2) fun (x314:T_61) =>
 Option.bind (idxN (List.set (List.set (List.set d91.2.2.2.2.2.2.2.2.2.1 d91.2.1.2 (x92.1,(x92.2.1,(x92.2.2.1,(x92.2.2.2.1,(x92.2.2.2.2.1,(0:Int))))))) d91.2.2.1.1.2.2.1 (x99.1,(x99.2.1,(List.set x99.2.2.1 d91.2.2.1.2 (x100.1,(x100.2.1,(x100.2.2.1,(x100.2.2.2.1,(x100.2.2.2.2.1,(x100.2.2.2.2.2.1,(true,x100.2.2.2.2.2.2.2))))))),x99.2.2.2)))) d91.2.2.1.1.2.2.1 (x313.1,(x313.2.1,(List.set x313.2.2.1 d91.2.2.1.2 (x314.1,(x314.2.1,(x314.2.2.1,(a.2.2.1.2.2.2.2.2.2.1,x314.2.2.2.2)))),x313.2.2.2)))) d91.2.2.1.1.2.2.1) fun (x315:T_58) =>
 Option.bind (idxN x315.2.2.1 d91.2.2.1.2) fun (x316:T_61) =>
 some ((),(d91.2.2.2.1,(d91.2.2.2.2.1,(d91.2.2.2.2.2.1,(d91.2.2.2.2.2.2.1,(d91.2.2.2.2.2.2.2.1,(d91.2.2.2.2.2.2.2.2.1,(List.set (List.set (List.set (List.set d91.2.2.2.2.2.2.2.2.2.1 d91.2.1.2 (x92.1,(x92.2.1,(x92.2.2.1,(x92.2.2.2.1,(x92.2.2.2.2.1,(0:Int))))))) d91.2.2.1.1.2.2.1 (x99.1,(x99.2.1,(List.set x99.2.2.1 d91.2.2.1.2 (x100.1,(x100.2.1,(x100.2.2.1,(x100.2.2.2.1,(x100.2.2.2.2.1,(x100.2.2.2.2.2.1,(true,x100.2.2.2.2.2.2.2))))))),x99.2.2.2)))) d91.2.2.1.1.2.2.1 (x313.1,(x313.2.1,(List.set x313.2.2.1 d91.2.2.1.2 (x314.1,(x314.2.1,(x314.2.2.1,(a.2.2.1.2.2.2.2.2.2.1,x314.2.2.2.2)))),x313.2.2.2)))) d91.2.2.1.1.2.2.1 (x315.1,(x315.2.1,(List.set x315.2.2.1 d91.2.2.1.2 (x316.1,(x316.2.1,(x316.2.2.1,(x316.2.2.2.1,(a.2.2.1.2.2.2.2.2.2.2.1,x316.2.2.2.2.2))))),x315.2.2.2))),d91.2.2.2.2.2.2.2.2.2.2))))))))
noncomputable def r43q:T_24→Option T_48:=fun a =>
 bif inB a.2.1 a.1.2.2.2.1.2.length then
 Option.bind (idxN a.1.2.2.2.1.2 (Int.toNat a.2.1)) fun (_:T_58) =>
 Option.bind (idxN a.1.2.2.2.1.2 (Int.toNat a.2.1)) fun (x2:T_58) =>
 bif decide ((Go.IntKind.wrap .i64 ((↑x2.2.2.1.length:Int) - (1:Int)))<(0:Int)) then
 some a.1
 else
 Option.bind (idxN a.1.2.2.2.1.2 (Int.toNat a.2.1)) fun (_:T_58) =>
 Option.bind (idxN a.1.2.2.2.1.2 (Int.toNat a.2.1)) fun (x4:T_58) =>
 bif inB (Go.IntKind.wrap .i64 ((↑x2.2.2.1.length:Int) - (1:Int))) x4.2.2.1.length then
 Option.bind (
 Option.bind (idxN a.1.2.2.2.1.2 (Int.toNat a.2.1)) fun (x69:T_58) =>
 Option.bind (idxN x69.2.2.1 (Int.toNat (Go.IntKind.wrap .i64 ((↑x2.2.2.1.length:Int) - (1:Int))))) fun (x70:T_61) =>
 bif !(x70.2.2.2.2.2.2.1) then
 Option.bind (idxN a.1.2.2.2.1.2 (Int.toNat a.2.1)) fun (x71:T_58) =>
 Option.bind (idxN x71.2.2.1 (Int.toNat (Go.IntKind.wrap .i64 ((↑x2.2.2.1.length:Int) - (1:Int))))) fun (x72:T_61) =>
 bif !(!(decide (x72.2.2.2.2.2.1=a.2.2.1.2.2.2.2.2.2.2.2.1))) then
 Option.bind (idxN a.1.2.2.2.1.2 (Int.toNat a.2.1)) fun (x73:T_58) =>
 Option.bind (idxN x73.2.2.1 (Int.toNat (Go.IntKind.wrap .i64 ((↑x2.2.2.1.length:Int) - (1:Int))))) fun (x74:T_61) =>
 bif !(!(decide (x74.1=a.2.2.2))) then
 Option.bind (idxN a.1.2.2.2.1.2 (Int.toNat a.2.1)) fun (x75:T_58) =>
 Option.bind (idxN x75.2.2.1 (Int.toNat (Go.IntKind.wrap .i64 ((↑x2.2.2.1.length:Int) - (1:Int))))) fun (x76:T_61) =>
 bif !(!(decide (x76.2.2.1=a.2.2.1.2.2.2.2.2.1))) then
 bif !(a.2.2.2) then
 Option.bind (idxN a.1.2.2.2.1.2 (Int.toNat a.2.1)) fun (x77:T_58) =>
 Option.bind (idxN x77.2.2.1 (Int.toNat (Go.IntKind.wrap .i64 ((↑x2.2.2.1.length:Int) - (1:Int))))) fun (x78:T_61) =>
 bif !(!(decide (x78.2.1=a.2.2.1.2.2.2.2.1))) then
 r43_s0 a x2
 else
 some true
 else
 r43_s0 a x2
 else
 some true
 else
 some true
 else
 some true
 else
 some true) fun (d83:Bool) =>
 bif d83 then
 some a.1
 else
 Option.bind (
 bif a.2.2.2 then
 some (3:Int)
 else
 some (2:Int)) fun (d84:Int) =>
 Option.bind (
 Option.bind (idxN a.1.2.2.2.1.2 (Int.toNat a.2.1)) fun (x89:T_58) =>
 Option.bind (
 sameR (
 bif roomOk false a.1.2.2.2.2.2.2.1.length 1 48 then
 r43_s1 a x2 d84 x89
 else
 none)
 (
 sameR (
 bif roomOk false a.1.2.2.2.2.2.2.1.length 1 48 then
 r43_s1 a x2 d84 x89
 else
 none)
 (
 bif roomOk false a.1.2.2.2.2.2.2.1.length 1 48 then
 r43_s1 a x2 d84 x89
 else
 none))) fun (d90:T_11) =>
 some ((),((((),((),())),d90.2.1.2),((((),((),(d90.2.2.1.1.2.2.1,()))),d90.2.2.1.2),d90.2.2.2.2.2.2)))) fun (d91:T_28) =>
 Option.bind (idxN d91.2.2.2.2.2.2.2.2.2.1 d91.2.1.2) fun (x92:T_58) =>
 Option.bind (
 bif !(decide (a.2.2.1.2.2.2.2.2.2.2.2.2.2=(0:Int))) then
 some a.2.2.2
 else
 some false) fun (d93:Bool) =>
 bif d93 then
 Option.bind (r38 (((d91.2.2.2.1,(d91.2.2.2.2.1,d91.2.2.2.2.2.1)),(d91.2.2.2.2.2.2.1,(d91.2.2.2.2.2.2.2.1,((d91.2.2.2.2.2.2.2.2.1,List.set d91.2.2.2.2.2.2.2.2.2.1 d91.2.1.2 (x92.1,(x92.2.1,(x92.2.2.1,(x92.2.2.2.1,(x92.2.2.2.2.1,(0:Int))))))),d91.2.2.2.2.2.2.2.2.2.2)))),a.2.1)) fun (y94:T_48) =>
 some y94
 else
 bif !(decide (a.2.2.1.2.2.2.2.2.2.2.2.2.2=(0:Int))) then
 Option.bind (idxN (List.set d91.2.2.2.2.2.2.2.2.2.1 d91.2.1.2 (x92.1,(x92.2.1,(x92.2.2.1,(x92.2.2.2.1,(x92.2.2.2.2.1,(0:Int))))))) d91.2.1.2) fun (_:T_58) =>
 Option.bind (idxN (List.set d91.2.2.2.2.2.2.2.2.2.1 d91.2.1.2 (x92.1,(x92.2.1,(x92.2.2.1,(x92.2.2.2.1,(x92.2.2.2.2.1,(0:Int))))))) d91.2.1.2) fun (x96:T_58) =>
 bif okB none (some (Go.IntKind.wrap .i64 ((↑x2.2.2.1.length:Int) - (1:Int)))) none x96.2.2.1.length then
 Option.bind (idxN (List.set d91.2.2.2.2.2.2.2.2.2.1 d91.2.1.2 (x92.1,(x92.2.1,(x92.2.2.1,(x92.2.2.2.1,(x92.2.2.2.2.1,(0:Int))))))) d91.2.1.2) fun (x97:T_58) =>
 Option.bind (idxN (List.set d91.2.2.2.2.2.2.2.2.2.1 d91.2.1.2 (x92.1,(x92.2.1,(x92.2.2.1,(x92.2.2.2.1,(x92.2.2.2.2.1,(0:Int))))))) d91.2.1.2) fun (_:T_58) =>
 bif Nat.beq d91.2.1.2 d91.2.1.2 then
 some ((d91.2.2.2.1,(d91.2.2.2.2.1,d91.2.2.2.2.2.1)),(d91.2.2.2.2.2.2.1,(d91.2.2.2.2.2.2.2.1,((d91.2.2.2.2.2.2.2.2.1,List.set (List.set d91.2.2.2.2.2.2.2.2.2.1 d91.2.1.2 (x92.1,(x92.2.1,(x92.2.2.1,(x92.2.2.2.1,(x92.2.2.2.2.1,(0:Int))))))) d91.2.1.2 (x97.1,(x97.2.1,(midL x97.2.2.1 0 (Int.toNat (Go.IntKind.wrap .i64 ((↑x2.2.2.1.length:Int) - (1:Int)))),x97.2.2.2)))),d91.2.2.2.2.2.2.2.2.2.2))))
 else
 none
 else
 none
 else
 Option.bind (idxN (List.set d91.2.2.2.2.2.2.2.2.2.1 d91.2.1.2 (x92.1,(x92.2.1,(x92.2.2.1,(x92.2.2.2.1,(x92.2.2.2.2.1,(0:Int))))))) d91.2.2.1.1.2.2.1) fun (x99:T_58) =>
 Option.bind (idxN x99.2.2.1 d91.2.2.1.2) fun (x100:T_61) =>
 bif !(a.2.2.2) then
 Option.bind (
 sameR (
 r43_s2 d91 x92 x99 x100 a)
 (
 sameR (
 r43_s2 d91 x92 x99 x100 a)
 (
 sameR (
 r43_s2 d91 x92 x99 x100 a)
 (
 sameR (
 r43_s2 d91 x92 x99 x100 a)
 (
 sameR (
 r43_s2 d91 x92 x99 x100 a)
 (
 r43_s2 d91 x92 x99 x100 a)))))) fun (d337:T_44) =>
 some ((d337.2.1,(d337.2.2.1,d337.2.2.2.1)),(d337.2.2.2.2.1,(d337.2.2.2.2.2.1,((d337.2.2.2.2.2.2.1,d337.2.2.2.2.2.2.2.1),d337.2.2.2.2.2.2.2.2))))
 else
 some ((d91.2.2.2.1,(d91.2.2.2.2.1,d91.2.2.2.2.2.1)),(d91.2.2.2.2.2.2.1,(d91.2.2.2.2.2.2.2.1,((d91.2.2.2.2.2.2.2.2.1,List.set (List.set d91.2.2.2.2.2.2.2.2.2.1 d91.2.1.2 (x92.1,(x92.2.1,(x92.2.2.1,(x92.2.2.2.1,(x92.2.2.2.2.1,(0:Int))))))) d91.2.2.1.1.2.2.1 (x99.1,(x99.2.1,(List.set x99.2.2.1 d91.2.2.1.2 (x100.1,(x100.2.1,(x100.2.2.1,(x100.2.2.2.1,(x100.2.2.2.2.1,(x100.2.2.2.2.2.1,(true,x100.2.2.2.2.2.2.2))))))),x99.2.2.2)))),d91.2.2.2.2.2.2.2.2.2.2))))
 else
 none
 else
 none
theorem r43e:r43q=r43:=by unfold r43q r43; simp only [r43_s0,r43_s1,r43_s2,sameR_self]
def an43:Ann:=.two (.leaf) (.two (.leaf) (.two (.leaf) (.two (.two (.leaf) (.two (.leaf) (.leaf))) (.two (.leaf) (.two (.two (.join [0,1,3,6,8,9,10] [0,6] [⟨.normal,[],[.tmp 91 (.bool)]⟩] (.draw 56)) (.two (.leaf) (.leaf))) (.two (.leaf) (.two (.join [0,1,3,6,8,9,10] [0,6] [⟨.normal,[],[.tmp 11 (.int .i64)]⟩] (.two (.leaf) (.two (.leaf) (.leaf)))) (.two (.join [1,3,6,9] [6] [⟨.normal,[],[.tmp 0 (.pt 0 [(0,0)] 0 0 0),.tmp 8 (.ptx 0 [(some 0,0),(some 0,6)] 0 6),.tmp 10 (.ptx 0 [(some 0,0),(some 0,6),(none,2)] 0 8),.box 0 [.int .i64,.sl .ro (.pair (.int .i64) (.int .i64)),.int .i64,.int .i64,.int .i64,.int .i64,.sl .own E_72,.sl .own E_73,.sl .own E_74,.sl .own E_77,.int .i64,.int .i64]]⟩] (.stagesI [0,1,2,3,4,5,6,7,8,9,10,11] 12 147 (.join [1,3,6,9,11,99,101,103] [6] [⟨.normal,[],[.tmp 0 (.pt 0 [(0,0)] 0 0 0),.tmp 8 (.ptx 0 [(some 0,0),(some 0,6)] 0 6),.tmp 10 (.ptx 0 [(some 0,0),(some 0,6),(none,2)] 0 8),.tmp 95 (.ptx 0 [(some 0,0),(some 0,6)] 0 6),.tmp 96 (.ptx 0 [(some 0,0),(some 0,6)] 0 6),.tmp 97 (.ptx 0 [(some 0,0),(some 0,6)] 0 6),.box 0 [.int .i64,.sl .ro (.pair (.int .i64) (.int .i64)),.int .i64,.int .i64,.int .i64,.int .i64,.sl .own E_72,.sl .own E_73,.sl .own E_74,.sl .own E_77,.int .i64,.int .i64]]⟩] (.drawT [0,1,2,3,4,5,6,7,8,9,10,11,12,13,14,15,16] [0])))) (.two (.leaf) (.two (.one (.two (.join [0,1,3,6,8,9,10] [0,6] [⟨.normal,[],[.tmp 109 (.bool)]⟩] (.leaf)) (.two (.two (.leaf) (.leaf)) (.two (.leaf) (.two (.two (.leaf) (.leaf)) (.leaf)))))) (.two (.leaf) (.two (.leaf) (.two (.join [] [] [⟨.normal,[],[.tmp 0 (.pt 0 [(0,0)] 0 0 0),.box 0 [.int .i64,.sl .ro (.pair (.int .i64) (.int .i64)),.int .i64,.int .i64,.int .i64,.int .i64,.sl .own E_72,.sl .own E_73,.sl .own E_74,.sl .own E_77,.int .i64,.int .i64]]⟩] (.stages [0,1,2,3,4,5,6,7])) (.leaf))))))))))))))
theorem s43:SoundM cx.P cx.G 43 sg43 r43:=by
 have e:denM cx [(38,⟨sg38,r38⟩)] an43 Tryd.f43.ntmps (Tryd.f43.body.getD .skip) Tryd.f43.results.toList sg43=r43q:=by kernel_rfl
 rw [← r43e,← e]
 exact sound_of_denM (c:=cx) (Known.cons (.ofM s38 (by kernel_rfl)) Tryd.func38 (by kernel_rfl) (by kernel_rfl) (Known.nil)) Tryd.func43 (by kernel_rfl) (Nat.le_of_ble_eq_true (by kernel_rfl)) rfl
noncomputable def r44_L0 (x9:T_58) (a:T_25) (d519:T_31):Option (T_31 ⊕ T_32) :=
 bif decide (d519.2.2.2.2.1<(↑x9.2.2.1.length:Int)) then
 Option.bind (
 Option.bind (idxN d519.2.2.2.2.2.2.2.2.2.2.2.1 d519.2.1.2) fun (_:T_58) =>
 Option.bind (idxN d519.2.2.2.2.2.2.2.2.2.2.2.1 d519.2.1.2) fun (x859:T_58) =>
 bif inB d519.2.2.2.2.1 x859.2.2.1.length then
 Option.bind (
 Option.bind (
 Option.bind (idxN d519.2.2.2.2.2.2.2.2.2.2.2.1 d519.2.1.2) fun (x1008:T_58) =>
 Option.bind (idxN x1008.2.2.1 (Int.toNat d519.2.2.2.2.1)) fun (x1009:T_61) =>
 bif !(x1009.1) then
 Option.bind (idxN d519.2.2.2.2.2.2.2.2.2.2.2.1 d519.2.1.2) fun (x1010:T_58) =>
 Option.bind (idxN x1010.2.2.1 (Int.toNat d519.2.2.2.2.1)) fun (x1011:T_61) =>
 bif decide (x1011.2.1=a.2.2.2.2.2.2.1) then
 Option.bind (idxN d519.2.2.2.2.2.2.2.2.2.2.2.1 d519.2.1.2) fun (x1012:T_58) =>
 Option.bind (idxN x1012.2.2.1 (Int.toNat d519.2.2.2.2.1)) fun (x1013:T_61) =>
 bif decide (x1013.2.2.1=a.2.2.2.2.2.2.2.1) then
 Option.bind (idxN d519.2.2.2.2.2.2.2.2.2.2.2.1 d519.2.1.2) fun (x1014:T_58) =>
 Option.bind (idxN x1014.2.2.1 (Int.toNat d519.2.2.2.2.1)) fun (x1015:T_61) =>
 some (decide (x1015.2.2.2.2.1=a.2.2.2.2.2.2.2.2.2.1))
 else
 some false
 else
 some false
 else
 some false) fun (d1016:Bool) =>
 bif d1016 then
 Option.bind (
 Option.bind (idxN d519.2.2.2.2.2.2.2.2.2.2.2.1 d519.2.1.2) fun (x1017:T_58) =>
 Option.bind (idxN x1017.2.2.1 (Int.toNat d519.2.2.2.2.1)) fun (x1018:T_61) =>
 bif !(x1018.2.2.2.2.2.2.2) then
 some ((((),((),(d519.2.1.2,()))),(Int.toNat d519.2.2.2.2.1)),a.2.2.2.2.2.2.2.2.2.2.2.1)
 else
 some ((((),((),(d519.2.1.2,()))),(Int.toNat d519.2.2.2.2.1)),true)) fun (g1019:(((Unit×(Unit×(Nat×Unit)))×Nat)×Bool)) =>
 Option.bind (idxN d519.2.2.2.2.2.2.2.2.2.2.2.1 g1019.1.1.2.2.1) fun (x1020:T_58) =>
 Option.bind (idxN x1020.2.2.1 g1019.1.2) fun (x1021:T_61) =>
 some ((),((((),((),())),d519.2.1.2),(true,((((),((),(d519.2.1.2,()))),(Int.toNat d519.2.2.2.2.1)),(d519.2.2.2.2.2.1,(d519.2.2.2.2.2.2.1,(d519.2.2.2.2.2.2.2.1,(d519.2.2.2.2.2.2.2.2.1,(d519.2.2.2.2.2.2.2.2.2.1,(d519.2.2.2.2.2.2.2.2.2.2.1,(List.set d519.2.2.2.2.2.2.2.2.2.2.2.1 g1019.1.1.2.2.1 (x1020.1,(x1020.2.1,(List.set x1020.2.2.1 g1019.1.2 (x1021.1,(x1021.2.1,(x1021.2.2.1,(x1021.2.2.2.1,(x1021.2.2.2.2.1,(x1021.2.2.2.2.2.1,(x1021.2.2.2.2.2.2.1,g1019.2))))))),x1020.2.2.2))),d519.2.2.2.2.2.2.2.2.2.2.2.2)))))))))))
 else
 some ((),((((),((),())),d519.2.1.2),(d519.2.2.1,((((),((),(d519.2.1.2,()))),(Int.toNat d519.2.2.2.2.1)),d519.2.2.2.2.2))))) fun (d1022:T_27) =>
 bif !(d519.2.2.2.1) then
 Option.bind (idxN d1022.2.2.2.2.2.2.2.2.2.2.1 d1022.2.2.2.1.1.2.2.1) fun (x1023:T_58) =>
 Option.bind (idxN x1023.2.2.1 d1022.2.2.2.1.2) fun (x1024:T_61) =>
 bif !(x1024.1) then
 Option.bind (idxN d1022.2.2.2.2.2.2.2.2.2.2.1 d1022.2.2.2.1.1.2.2.1) fun (x1025:T_58) =>
 Option.bind (idxN x1025.2.2.1 d1022.2.2.2.1.2) fun (x1026:T_61) =>
 some ((),((((),((),())),d1022.2.1.2),(d1022.2.2.1,(!(x1026.2.2.2.2.2.2.2),d1022.2.2.2.2))))
 else
 some ((),((((),((),())),d1022.2.1.2),(d1022.2.2.1,(false,d1022.2.2.2.2))))
 else
 some ((),((((),((),())),d1022.2.1.2),(d1022.2.2.1,(true,d1022.2.2.2.2))))
 else
 none) fun (d1027:T_32) =>
 some (Sum.inl ((),((((),((),())),d1027.2.1.2),(d1027.2.2.1,(d1027.2.2.2.1,((Go.IntKind.wrap .i64 (d519.2.2.2.2.1+(1:Int))),d1027.2.2.2.2))))))
 else
 some (Sum.inr ((),((((),((),())),d519.2.1.2),(d519.2.2.1,(d519.2.2.2.1,d519.2.2.2.2.2)))))
noncomputable def r44_L0q (x9:T_58) (a:T_25):T_31→Option (T_31 ⊕ T_32):=fun d519 =>
 bif decide (d519.2.2.2.2.1<(↑x9.2.2.1.length:Int)) then
 Option.bind (
 Option.bind (idxN d519.2.2.2.2.2.2.2.2.2.2.2.1 d519.2.1.2) fun (_:T_58) =>
 Option.bind (idxN d519.2.2.2.2.2.2.2.2.2.2.2.1 d519.2.1.2) fun (x859:T_58) =>
 bif inB d519.2.2.2.2.1 x859.2.2.1.length then
 Option.bind (
 Option.bind (
 Option.bind (idxN d519.2.2.2.2.2.2.2.2.2.2.2.1 d519.2.1.2) fun (x1008:T_58) =>
 Option.bind (idxN x1008.2.2.1 (Int.toNat d519.2.2.2.2.1)) fun (x1009:T_61) =>
 bif !(x1009.1) then
 Option.bind (idxN d519.2.2.2.2.2.2.2.2.2.2.2.1 d519.2.1.2) fun (x1010:T_58) =>
 Option.bind (idxN x1010.2.2.1 (Int.toNat d519.2.2.2.2.1)) fun (x1011:T_61) =>
 bif decide (x1011.2.1=a.2.2.2.2.2.2.1) then
 Option.bind (idxN d519.2.2.2.2.2.2.2.2.2.2.2.1 d519.2.1.2) fun (x1012:T_58) =>
 Option.bind (idxN x1012.2.2.1 (Int.toNat d519.2.2.2.2.1)) fun (x1013:T_61) =>
 bif decide (x1013.2.2.1=a.2.2.2.2.2.2.2.1) then
 Option.bind (idxN d519.2.2.2.2.2.2.2.2.2.2.2.1 d519.2.1.2) fun (x1014:T_58) =>
 Option.bind (idxN x1014.2.2.1 (Int.toNat d519.2.2.2.2.1)) fun (x1015:T_61) =>
 some (decide (x1015.2.2.2.2.1=a.2.2.2.2.2.2.2.2.2.1))
 else
 some false
 else
 some false
 else
 some false) fun (d1016:Bool) =>
 bif d1016 then
 Option.bind (
 Option.bind (idxN d519.2.2.2.2.2.2.2.2.2.2.2.1 d519.2.1.2) fun (x1017:T_58) =>
 Option.bind (idxN x1017.2.2.1 (Int.toNat d519.2.2.2.2.1)) fun (x1018:T_61) =>
 bif !(x1018.2.2.2.2.2.2.2) then
 some ((((),((),(d519.2.1.2,()))),(Int.toNat d519.2.2.2.2.1)),a.2.2.2.2.2.2.2.2.2.2.2.1)
 else
 some ((((),((),(d519.2.1.2,()))),(Int.toNat d519.2.2.2.2.1)),true)) fun (g1019:(((Unit×(Unit×(Nat×Unit)))×Nat)×Bool)) =>
 Option.bind (idxN d519.2.2.2.2.2.2.2.2.2.2.2.1 g1019.1.1.2.2.1) fun (x1020:T_58) =>
 Option.bind (idxN x1020.2.2.1 g1019.1.2) fun (x1021:T_61) =>
 some ((),((((),((),())),d519.2.1.2),(true,((((),((),(d519.2.1.2,()))),(Int.toNat d519.2.2.2.2.1)),(d519.2.2.2.2.2.1,(d519.2.2.2.2.2.2.1,(d519.2.2.2.2.2.2.2.1,(d519.2.2.2.2.2.2.2.2.1,(d519.2.2.2.2.2.2.2.2.2.1,(d519.2.2.2.2.2.2.2.2.2.2.1,(List.set d519.2.2.2.2.2.2.2.2.2.2.2.1 g1019.1.1.2.2.1 (x1020.1,(x1020.2.1,(List.set x1020.2.2.1 g1019.1.2 (x1021.1,(x1021.2.1,(x1021.2.2.1,(x1021.2.2.2.1,(x1021.2.2.2.2.1,(x1021.2.2.2.2.2.1,(x1021.2.2.2.2.2.2.1,g1019.2))))))),x1020.2.2.2))),d519.2.2.2.2.2.2.2.2.2.2.2.2)))))))))))
 else
 some ((),((((),((),())),d519.2.1.2),(d519.2.2.1,((((),((),(d519.2.1.2,()))),(Int.toNat d519.2.2.2.2.1)),d519.2.2.2.2.2))))) fun (d1022:T_27) =>
 bif !(d519.2.2.2.1) then
 Option.bind (idxN d1022.2.2.2.2.2.2.2.2.2.2.1 d1022.2.2.2.1.1.2.2.1) fun (x1023:T_58) =>
 Option.bind (idxN x1023.2.2.1 d1022.2.2.2.1.2) fun (x1024:T_61) =>
 bif !(x1024.1) then
 Option.bind (idxN d1022.2.2.2.2.2.2.2.2.2.2.1 d1022.2.2.2.1.1.2.2.1) fun (x1025:T_58) =>
 Option.bind (idxN x1025.2.2.1 d1022.2.2.2.1.2) fun (x1026:T_61) =>
 some ((),((((),((),())),d1022.2.1.2),(d1022.2.2.1,(!(x1026.2.2.2.2.2.2.2),d1022.2.2.2.2))))
 else
 some ((),((((),((),())),d1022.2.1.2),(d1022.2.2.1,(false,d1022.2.2.2.2))))
 else
 some ((),((((),((),())),d1022.2.1.2),(d1022.2.2.1,(true,d1022.2.2.2.2))))
 else
 none) fun (d1027:T_32) =>
 some (Sum.inl ((),((((),((),())),d1027.2.1.2),(d1027.2.2.1,(d1027.2.2.2.1,((Go.IntKind.wrap .i64 (d519.2.2.2.2.1+(1:Int))),d1027.2.2.2.2))))))
 else
 some (Sum.inr ((),((((),((),())),d519.2.1.2),(d519.2.2.1,(d519.2.2.2.1,d519.2.2.2.2.2)))))
theorem r44_L0e (x9:T_58) (a:T_25):r44_L0q x9 a=r44_L0 x9 a:=by unfold r44_L0q r44_L0; rfl
def sg44:Sig:=⟨[⟨false,.own,E_65⟩,⟨false,.bo,(.int .i64)⟩,⟨true,.bo,E_73⟩],[⟨false,.own,E_65⟩]⟩
noncomputable def r44 (a:T_25):Option T_48 :=
 bif inB a.2.1 a.1.2.2.2.1.2.length then
 Option.bind (
 Option.bind (idxN a.1.2.2.2.1.2 (Int.toNat a.2.1)) fun (x6:T_58) =>
 bif !(!(decide (x6.2.1=(2:Int)))) then
 bif decide (a.1.1.1=0) then
 none
 else
 some (!(decide (a.2.2.2.1=(Int.tmod a.2.2.2.2.2.2.2.1 a.1.1.1))))
 else
 some true) fun (d7:Bool) =>
 bif d7 then
 some a.1
 else
 Option.bind (idxN a.1.2.2.2.1.2 (Int.toNat a.2.1)) fun (_:T_58) =>
 Option.bind (idxN a.1.2.2.2.1.2 (Int.toNat a.2.1)) fun (x9:T_58) =>
 Option.bind (loopR (r44_L0 x9 a) ((),((((),((),())),(Int.toNat a.2.1)),(false,(false,((0:Int),(a.1.1.1,(a.1.1.2.1,(a.1.1.2.2,(a.1.2.1,(a.1.2.2.1,(a.1.2.2.2.1.1,(a.1.2.2.2.1.2,a.1.2.2.2.2))))))))))))) fun (q1028:T_32) =>
 bif !(q1028.2.2.1) then
 some ((q1028.2.2.2.2.1,(q1028.2.2.2.2.2.1,q1028.2.2.2.2.2.2.1)),(q1028.2.2.2.2.2.2.2.1,(q1028.2.2.2.2.2.2.2.2.1,((q1028.2.2.2.2.2.2.2.2.2.1,q1028.2.2.2.2.2.2.2.2.2.2.1),q1028.2.2.2.2.2.2.2.2.2.2.2))))
 else
 bif !(a.2.2.2.2.2.2.2.2.2.2.2.1) then
 Option.bind (idxN q1028.2.2.2.2.2.2.2.2.2.2.1 q1028.2.1.2) fun (x1029:T_58) =>
 Option.bind (
 bif roomOk false q1028.2.2.2.2.2.2.2.2.2.2.2.2.2.1.length 1 48 then
 some ((),(q1028.2.2.2.2.1,(q1028.2.2.2.2.2.1,(q1028.2.2.2.2.2.2.1,(q1028.2.2.2.2.2.2.2.1,(q1028.2.2.2.2.2.2.2.2.1,(q1028.2.2.2.2.2.2.2.2.2.1,(q1028.2.2.2.2.2.2.2.2.2.2.1,(q1028.2.2.2.2.2.2.2.2.2.2.2.1,(q1028.2.2.2.2.2.2.2.2.2.2.2.2.1,(app q1028.2.2.2.2.2.2.2.2.2.2.2.2.2.1 [(q1028.2.2.2.2.2.2.2.2.1,((4:Int),(x1029.1,((0:Int),((0:Int),(11:Int))))))],q1028.2.2.2.2.2.2.2.2.2.2.2.2.2.2)))))))))))
 else
 none) fun (d1030:T_44) =>
 Option.bind (r38 (((d1030.2.1,(d1030.2.2.1,d1030.2.2.2.1)),(d1030.2.2.2.2.1,(d1030.2.2.2.2.2.1,((d1030.2.2.2.2.2.2.1,d1030.2.2.2.2.2.2.2.1),d1030.2.2.2.2.2.2.2.2)))),a.2.1)) fun (y1031:T_48) =>
 some y1031
 else
 bif !(q1028.2.2.2.1) then
 Option.bind (r66 (((q1028.2.2.2.2.1,(q1028.2.2.2.2.2.1,q1028.2.2.2.2.2.2.1)),(q1028.2.2.2.2.2.2.2.1,(q1028.2.2.2.2.2.2.2.2.1,((q1028.2.2.2.2.2.2.2.2.2.1,q1028.2.2.2.2.2.2.2.2.2.2.1),q1028.2.2.2.2.2.2.2.2.2.2.2)))),a.2.1)) fun (y1032:T_48) =>
 some y1032
 else
 some ((q1028.2.2.2.2.1,(q1028.2.2.2.2.2.1,q1028.2.2.2.2.2.2.1)),(q1028.2.2.2.2.2.2.2.1,(q1028.2.2.2.2.2.2.2.2.1,((q1028.2.2.2.2.2.2.2.2.2.1,q1028.2.2.2.2.2.2.2.2.2.2.1),q1028.2.2.2.2.2.2.2.2.2.2.2))))
 else
 none
noncomputable def r44_s0 (q1028:T_32):Option T_48 :=
 some ((q1028.2.2.2.2.1,(q1028.2.2.2.2.2.1,q1028.2.2.2.2.2.2.1)),(q1028.2.2.2.2.2.2.2.1,(q1028.2.2.2.2.2.2.2.2.1,((q1028.2.2.2.2.2.2.2.2.2.1,q1028.2.2.2.2.2.2.2.2.2.2.1),q1028.2.2.2.2.2.2.2.2.2.2.2))))
noncomputable def r44_s1 (q1028:T_32) (x1029:T_58):Option T_44 :=
 some ((),(q1028.2.2.2.2.1,(q1028.2.2.2.2.2.1,(q1028.2.2.2.2.2.2.1,(q1028.2.2.2.2.2.2.2.1,(q1028.2.2.2.2.2.2.2.2.1,(q1028.2.2.2.2.2.2.2.2.2.1,(q1028.2.2.2.2.2.2.2.2.2.2.1,(q1028.2.2.2.2.2.2.2.2.2.2.2.1,(q1028.2.2.2.2.2.2.2.2.2.2.2.2.1,(app q1028.2.2.2.2.2.2.2.2.2.2.2.2.2.1 [(q1028.2.2.2.2.2.2.2.2.1,((4:Int),(x1029.1,((0:Int),((0:Int),(11:Int))))))],q1028.2.2.2.2.2.2.2.2.2.2.2.2.2.2)))))))))))
noncomputable def r44q:T_25→Option T_48:=fun a =>
 bif inB a.2.1 a.1.2.2.2.1.2.length then
 Option.bind (
 Option.bind (idxN a.1.2.2.2.1.2 (Int.toNat a.2.1)) fun (x6:T_58) =>
 bif !(!(decide (x6.2.1=(2:Int)))) then
 bif decide (a.1.1.1=0) then
 none
 else
 some (!(decide (a.2.2.2.1=(Int.tmod a.2.2.2.2.2.2.2.1 a.1.1.1))))
 else
 some true) fun (d7:Bool) =>
 bif d7 then
 some a.1
 else
 Option.bind (idxN a.1.2.2.2.1.2 (Int.toNat a.2.1)) fun (_:T_58) =>
 Option.bind (idxN a.1.2.2.2.1.2 (Int.toNat a.2.1)) fun (x9:T_58) =>
 Option.bind (loopR (r44_L0q x9 a) ((),((((),((),())),(Int.toNat a.2.1)),(false,(false,((0:Int),(a.1.1.1,(a.1.1.2.1,(a.1.1.2.2,(a.1.2.1,(a.1.2.2.1,(a.1.2.2.2.1.1,(a.1.2.2.2.1.2,a.1.2.2.2.2))))))))))))) fun (q1028:T_32) =>
 bif !(q1028.2.2.1) then
 r44_s0 q1028
 else
 bif !(a.2.2.2.2.2.2.2.2.2.2.2.1) then
 Option.bind (idxN q1028.2.2.2.2.2.2.2.2.2.2.1 q1028.2.1.2) fun (x1029:T_58) =>
 Option.bind (
 sameR (
 bif roomOk false q1028.2.2.2.2.2.2.2.2.2.2.2.2.2.1.length 1 48 then
 r44_s1 q1028 x1029
 else
 none)
 (
 sameR (
 bif roomOk false q1028.2.2.2.2.2.2.2.2.2.2.2.2.2.1.length 1 48 then
 r44_s1 q1028 x1029
 else
 none)
 (
 bif roomOk false q1028.2.2.2.2.2.2.2.2.2.2.2.2.2.1.length 1 48 then
 r44_s1 q1028 x1029
 else
 none))) fun (d1030:T_44) =>
 Option.bind (r38 (((d1030.2.1,(d1030.2.2.1,d1030.2.2.2.1)),(d1030.2.2.2.2.1,(d1030.2.2.2.2.2.1,((d1030.2.2.2.2.2.2.1,d1030.2.2.2.2.2.2.2.1),d1030.2.2.2.2.2.2.2.2)))),a.2.1)) fun (y1031:T_48) =>
 some y1031
 else
 bif !(q1028.2.2.2.1) then
 Option.bind (r66 (((q1028.2.2.2.2.1,(q1028.2.2.2.2.2.1,q1028.2.2.2.2.2.2.1)),(q1028.2.2.2.2.2.2.2.1,(q1028.2.2.2.2.2.2.2.2.1,((q1028.2.2.2.2.2.2.2.2.2.1,q1028.2.2.2.2.2.2.2.2.2.2.1),q1028.2.2.2.2.2.2.2.2.2.2.2)))),a.2.1)) fun (y1032:T_48) =>
 some y1032
 else
 r44_s0 q1028
 else
 none
theorem r44e:r44q=r44:=by unfold r44q r44; simp only [r44_s0,r44_s1,sameR_self,r44_L0e]
def an44:Ann:=.two (.leaf) (.two (.leaf) (.two (.two (.join [0,1,5,6] [0,5] [⟨.normal,[],[.tmp 36 (.bool)]⟩] (.draw 16)) (.two (.leaf) (.leaf))) (.two (.leaf) (.two (.two (.leaf) (.one (.loop [1,5,41] [5] [] [.tmp 0 (.pt 0 [(0,0)] 0 0 0),.tmp 6 (.ptx 0 [(some 0,0),(some 0,6)] 0 6),.tmp 7 (.bool),.tmp 8 (.bool),.tmp 42 (.int .i64),.box 0 [.int .i64,.sl .ro (.pair (.int .i64) (.int .i64)),.int .i64,.int .i64,.int .i64,.int .i64,.sl .own E_72,.sl .own E_73,.sl .own E_74,.sl .own E_77,.int .i64,.int .i64]] [⟨.exit 0,[],[.tmp 0 (.pt 0 [(0,0)] 0 0 0),.tmp 6 (.ptx 0 [(some 0,0),(some 0,6)] 0 6),.tmp 7 (.bool),.tmp 8 (.bool),.box 0 [.int .i64,.sl .ro (.pair (.int .i64) (.int .i64)),.int .i64,.int .i64,.int .i64,.int .i64,.sl .own E_72,.sl .own E_73,.sl .own E_74,.sl .own E_77,.int .i64,.int .i64]]⟩] (.two (.leaf) (.two (.two (.leaf) (.leaf)) (.two (.join [1,5,41,42] [5] [⟨.normal,[],[.tmp 0 (.pt 0 [(0,0)] 0 0 0),.tmp 6 (.ptx 0 [(some 0,0),(some 0,6)] 0 6),.tmp 7 (.bool),.tmp 8 (.bool),.box 0 [.int .i64,.sl .ro (.pair (.int .i64) (.int .i64)),.int .i64,.int .i64,.int .i64,.int .i64,.sl .own E_72,.sl .own E_73,.sl .own E_74,.sl .own E_77,.int .i64,.int .i64]]⟩] (.one (.two (.leaf) (.two (.leaf) (.two (.join [1,5,8,41,42] [5] [⟨.normal,[],[.tmp 0 (.pt 0 [(0,0)] 0 0 0),.tmp 6 (.ptx 0 [(some 0,0),(some 0,6)] 0 6),.tmp 7 (.bool),.tmp 10 (.ptx 0 [(some 0,0),(some 0,6),(none,2)] 0 8),.box 0 [.int .i64,.sl .ro (.pair (.int .i64) (.int .i64)),.int .i64,.int .i64,.int .i64,.int .i64,.sl .own E_72,.sl .own E_73,.sl .own E_74,.sl .own E_77,.int .i64,.int .i64]]⟩] (.two (.join [0,1,5,6,7,8,10,41,42] [0,5] [⟨.normal,[],[.tmp 82 (.bool)]⟩] (.draw 30)) (.two (.two (.leaf) (.segs [(9,([0,1,5,6,7,8,10,41,42],([0,5],[.tmp 83 (.ptx 0 [(some 0,0),(some 0,6),(none,2)] 0 8),.tmp 91 (.bool)])))])) (.leaf)))) (.leaf)))))) (.leaf))))))) (.one (.two (.leaf) (.two (.leaf) (.two (.leaf) (.two (.two (.inl 5 132 (.join [1] [] [⟨.normal,[],[.tmp 0 (.pt 0 [(0,0)] 0 0 0),.box 0 [.int .i64,.sl .ro (.pair (.int .i64) (.int .i64)),.int .i64,.int .i64,.int .i64,.int .i64,.sl .own E_72,.sl .own E_73,.sl .own E_74,.sl .own E_77,.int .i64,.int .i64]]⟩] (.drawT [0,1,2,3,4,5,6,7,8,9,10,11,12,13,14,15,16] [0])) (.leaf)) (.leaf)) (.two (.leaf) (.two (.leaf) (.leaf))))))))))))
theorem s44:SoundM cx.P cx.G 44 sg44 r44:=by
 have e:denM cx [(38,⟨sg38,r38⟩),(66,⟨sg66,r66⟩)] an44 Tryd.f44.ntmps (Tryd.f44.body.getD .skip) Tryd.f44.results.toList sg44=r44q:=by kernel_rfl
 rw [← r44e,← e]
 exact sound_of_denM (c:=cx) (Known.cons (.ofM s38 (by kernel_rfl)) Tryd.func38 (by kernel_rfl) (by kernel_rfl) (Known.cons (.ofM s66 (by kernel_rfl)) Tryd.func66 (by kernel_rfl) (by kernel_rfl) (Known.nil))) Tryd.func44 (by kernel_rfl) (Nat.le_of_ble_eq_true (by kernel_rfl)) rfl
end Go.Hv
