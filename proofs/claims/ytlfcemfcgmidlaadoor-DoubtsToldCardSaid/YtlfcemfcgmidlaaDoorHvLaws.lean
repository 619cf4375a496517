import Derived.Test.YtlfcemfcgmidlaaDoorHvDesks
namespace Go.Hv
open Go.RowKit Go.Proofs Go.V
theorem idxI_first {β:Type} (x:β) (l:List β):idxI (x :: l) 0=some x:=rfl
theorem same_desk {c:Conf} (hc:c.1≤4) {d:Desk} (hd:DeskOk c d):r18 (d,d)=some true:=by
 refine desk_self (by have:=hd.few; omega) fun j hj=>?_
 have h:=hd.job j hj
 refine ⟨by have:=h.few; omega,?_⟩
 rcases up_few h.asked h.aup with g | g
 ·omega
 ·rw [g]; simp
theorem zero_desk {c:Conf} (hk:r29 c=some 0):r16 (c,((0:Int),[]))=some 9:=by
 unfold r16
 simp only [hk,Option.bind_some,decide_true,Bool.not_true,cond_false,decide_eq_true (show (0:Int)<1 by omega),Bool.not_true]
 rfl
theorem two_l {n:Int}:(1:Int)<((two1 n).2.1.length:Int):=by simp
theorem two_l0 {n:Int}:(0:Int)<((two1 n).2.1.length:Int):=by simp
theorem deskGood {a:Int×(List Raw×Int)} (h1:i64 a.1) (h2:∀ w∈a.2.1,Cf.RawOk w) (h3:i64 a.2.2):r3 a=some true:=by
 obtain ⟨n,e1,n1,n2⟩:=two_is h1
 obtain ⟨me,e2,m0,m1⟩:=Cf.picked_is (m:=n) h3 (by omega)
 have hcf:=two_ok n1 n2
 obtain ⟨d,e3,hd,-⟩:=desk_made (most:=40) hcf (by omega) two_l m0 m1 h2 (by omega)
 have e3':r14 (two1 n,((1:Int),(me,(a.2.1,(40:Int)))))=some d:=e3
 have hck:=desk_ok (show (two1 n).1≤4 by show n≤4; omega) (Cf.check_ok hcf) hd
 have hz:=zero_desk (Cf.check_ok hcf)
 have hn:=hd.n0
 unfold r3
 simp only [e1,Option.bind_some,e2,e3',hck,decide_true,cond_true,hz,decide_eq_true (show (0:Int)<d.1 by omega)]
theorem beginNew {a:Int×(List Raw×Int)} (h1:i64 a.1) (h2:∀ w∈a.2.1,Cf.RawOk w) (h3:i64 a.2.2):r4 a=some true:=by
 obtain ⟨n,e1,n1,n2⟩:=two_is h1
 obtain ⟨room,e2,m0,m1⟩:=Cf.picked_is (m:=1200) h3 (by omega)
 have hcf:=two_ok n1 n2
 have hn0:(0:Int)<(two1 n).1:=by show 0<n; omega
 obtain ⟨d,e3,hd,hnx⟩:=desk_made (most:=30) (l:=1) (me:=0) hcf (by omega) two_l (by omega) hn0 h2 (by omega)
 have e3':r14 (two1 n,((1:Int),((0:Int),(a.2.1,(30:Int)))))=some d:=e3
 have h4:(two1 n).1≤4:=by show n≤4; omega
 have hs:=same_desk h4 hd
 have hn:=hd.n0
 have hfew:=hd.few
 have hcall:=call_begin (room:=room) (x:=((1:Int),((0:Int),((0:Int),((0:Int),(0:Int)))))) h4 (Cf.check_ok hcf) hd (show (0:Int)≤1 by omega) two_l (show (0:Int)≤0 by omega) hn0 rfl
 rw [begun_is (by omega) hd.n1 hfew (by simp) (by simp)] at hcall
 have hw:Go.IntKind.wrap .i64 (d.1+1)=d.1+1:=wrap_i64 (by unfold i64; omega)
 have hfull:fullB d.1 d.2 room=(decide ((d.2.length:Int)=6) || decide (room<600)):=by
  unfold fullB
  rw [decide_eq_false (show ¬ 1048576<d.1 by omega),Bool.or_false]
 rw [hfull] at hcall
 unfold r4
 simp only [e1,Option.bind_some,e2,e3',bif_some,or_bif,hcall]
 cases decide ((d.2.length:Int)=6) || decide (room<600) with
 | true =>
  simp only [cond_true]
  unfold mkW
  simp only [decide_true,Bool.not_true,Bool.false_or,List.nil_append,List.length_singleton,List.length_nil,Int.natCast_one,Int.natCast_zero,cond_true,cond_false,idxI_first,Option.bind_some,hs]
 | false =>
  simp only [cond_false]
  unfold mkW
  simp only [decide_true,Bool.not_true,Bool.false_or,List.nil_append,List.length_singleton,Int.natCast_one,cond_true,cond_false,idxI_first,Option.bind_some,hw,Bool.and_self]
theorem call_six {c:Conf} {l me:Int} {d:Desk} {room:Int} {x:Int×(Int×(Int×(Int×Int)))} (hc:c.1≤4) (hk:r29 c=some 0) (hd:DeskOk c d) (l0:0≤l) (l1:l<c.2.1.length) (m0:0≤me) (m1:me<c.1) (hx:5<x.1) :
 r17 (c,(l,(me,(d,(room,x)))))=some ((((0:Int),[]),([],([],([],((0:Int),(0:Int)))))),3):=by
 have hck:=desk_ok hc hk hd
 have how:=own_is hc hd
 unfold r17
 simp only [hck,how,Option.bind_some,decide_true,Bool.not_true,Bool.not_false,cond_true,cond_false,decide_eq_false (show ¬ l<0 by omega),decide_eq_false (show ¬ (c.2.1.length:Int)≤l by omega),decide_eq_false (show ¬ me<0 by omega),decide_eq_false (show ¬ c.1≤me by omega),
  decide_eq_false (show ¬ x.1<1 by omega),decide_eq_true hx]
theorem refuse_none {c:Conf} {l me next:Int} {js:List Job} {x:Int×(Int×(Int×(Int×Int)))} (hl:js.length≤6) (hno:∀ j∈js,j.1≠x.2.1) :
 r33 (mkW c l me next js [] [] [] 0 0,x)=some (6,mkW c l me next js [] [] [] 0 0):=by
 have hp:=place_is (mkW c l me next js [] [] [] 0 0) x.2.1 (show js.length≤1000 by omega)
 rw [show (mkW c l me next js [] [] [] 0 0).2.2.2.1.2=js from rfl,idx_none hno] at hp
 unfold r33
 simp only [hp,Option.bind_some]
 rfl
theorem callRefused {a:Int×(List Raw×(Int×Int))} (h1:i64 a.1) (h2:∀ w∈a.2.1,Cf.RawOk w) (h3:i64 a.2.2.1) (h5:i64 a.2.2.2):r5 a=some true:=by
 obtain ⟨n,e1,n1,n2⟩:=two_is h1
 obtain ⟨y,e2,y0,y1⟩:=Cf.picked_is (m:=9) h5 (by omega)
 obtain ⟨k,e4,k0,k1⟩:=Cf.picked_is (m:=4) h3 (by omega)
 have hcf:=two_ok n1 n2
 have hn0:(0:Int)<(two1 n).1:=by show 0<n; omega
 obtain ⟨d,e3,hd,hnx⟩:=desk_made (most:=30) (l:=0) (me:=0) hcf (by omega) two_l0 (by omega) hn0 h2 (by omega)
 have e3':r14 (two1 n,((0:Int),((0:Int),(a.2.1,(30:Int)))))=some d:=e3
 have h4:(two1 n).1≤4:=by show n≤4; omega
 have hs:=same_desk h4 hd
 have hn:=hd.n0
 have hfew:=hd.few
 have hw:Go.IntKind.wrap .i64 (d.1+y)=d.1+y:=wrap_i64 (by unfold i64; omega)
 have hno:∀ N:Int,(N<1∨d.1≤N)→∀ j∈d.2,j.1≠N:=fun N hN j hj=>by
  have:=(hd.job j hj).n0
  have:=(hd.job j hj).n1
  omega
 have hsix:=call_six (room:=6000) (x:=((6:Int),((0:Int),((0:Int),((0:Int),(0:Int)))))) h4 (Cf.check_ok hcf) hd (show (0:Int)≤0 by omega) two_l0 (show (0:Int)≤0 by omega) hn0 (by simp)
 have hcall:∀ x:Int×(Int×(Int×(Int×Int))),2≤x.1→x.1≤5→(x.2.1<1∨d.1≤x.2.1)→r17 (two1 n,((0:Int),((0:Int),(d,((6000:Int),x)))))=some ((d,([],([],([(0,(x.1,(x.2.1,(x.2.2.2.1,(0,6)))))],(0,0))))),0):=fun x x0 x1 hx =>
  call_no h4 (Cf.check_ok hcf) hd (by omega) two_l0 (by omega) hn0 x0 x1 (refuse_none hfew (hno _ hx)) (by omega)
 have hx:∃ x:Int×(Int×(Int×(Int×Int))),(bif inB k ([((4:Int),((Go.IntKind.wrap .i64 (d.1+y)),((0:Int),((0:Int),(0:Int))))),((2:Int),(d.1,((0:Int),((1:Int),(0:Int))))),((5:Int),((0:Int),((0:Int),((0:Int),(0:Int))))),((3:Int),((1048576:Int),((0:Int),((1:Int),(0:Int)))))]:List (Int×(Int×(Int×(Int×Int))))).length then some () else none)=some () ∧
  idxN ([((4:Int),((Go.IntKind.wrap .i64 (d.1+y)),((0:Int),((0:Int),(0:Int))))),((2:Int),(d.1,((0:Int),((1:Int),(0:Int))))),((5:Int),((0:Int),((0:Int),((0:Int),(0:Int))))),((3:Int),((1048576:Int),((0:Int),((1:Int),(0:Int)))))]:List (Int×(Int×(Int×(Int×Int))))) (Int.toNat k)=some x∧2≤x.1∧x.1≤5∧(x.2.1<1∨d.1≤x.2.1):=by
  rw [hw]
  have hk:k=0∨k=1∨k=2∨k=3:=by omega
  rcases hk with rfl | rfl | rfl | rfl
  ·exact ⟨_,rfl,rfl,by simp,by simp,.inr (by simp only; omega)⟩
  ·exact ⟨_,rfl,rfl,by simp,by simp,.inr (by simp only; omega)⟩
  ·exact ⟨_,rfl,rfl,by simp,by simp,.inl (by simp only; omega)⟩
  ·exact ⟨_,rfl,rfl,by simp,by simp,.inr (by simp only; omega)⟩
 obtain ⟨x,x1,x2,x3,x4,x5⟩:=hx
 have hin:inB k ([((4:Int),((Go.IntKind.wrap .i64 (d.1+y)),((0:Int),((0:Int),(0:Int))))),((2:Int),(d.1,((0:Int),((1:Int),(0:Int))))),((5:Int),((0:Int),((0:Int),((0:Int),(0:Int))))),((3:Int),((1048576:Int),((0:Int),((1:Int),(0:Int)))))]:List (Int×(Int×(Int×(Int×Int))))).length=true:=by
  revert x1
  generalize inB k _=b
  cases b
  ·intro h; cases h
  ·intro _; rfl
 have hfour:((([((4:Int),((Go.IntKind.wrap .i64 (d.1+y)),((0:Int),((0:Int),(0:Int))))),((2:Int),(d.1,((0:Int),((1:Int),(0:Int))))),((5:Int),((0:Int),((0:Int),((0:Int),(0:Int))))),((3:Int),((1048576:Int),((0:Int),((1:Int),(0:Int)))))]:List (Int×(Int×(Int×(Int×Int))))).length:Nat):Int)=4:=rfl
 have hw0:Go.IntKind.wrap .i64 (Go.IntKind.wrap .i64 (Go.IntKind.wrap .i64 (((([]:List Msg).length:Nat):Int)+((([]:List Rec).length:Nat):Int))+0)+0)=0:=rfl
 unfold r5
 simp only [e1,Option.bind_some,e2,e3',hfour,e4,hin,cond_true,x2,hcall x x3 x4 x5,hsix,decide_true,List.length_singleton,Int.natCast_one,idxI_first,hw0,hs]
theorem keeps_tells:r19 ()=some true:=by
 obtain ⟨n,e1,n1,n2⟩:=two_is (a:=0) (by unfold i64; omega)
 have hz:=zero_desk (Cf.check_ok (two_ok n1 n2))
 unfold r19
 simp only [e1,Option.bind_some,hz,decide_true]
theorem turned_ok {c:Conf} (hc:Cf.CfgOk c) {m:Msg} (h:Cf.MsgOk c m):Cf.MsgOk c ((m.1,(m.2.1,((0:Int),(((0:Int),m.2.2.2.1.2),m.2.2.2.2)))):Msg) :=
 ⟨h.k0,h.k1,h.f0,h.f1,by simp,by have:=hc.s0; show (0:Int)<c.1; omega,by simp,by have:=hc.s0; show (0:Int)<c.1; omega,h.n0,h.n1,h.l0,h.l1,h.y0,h.y1,h.v0,h.v1,h.r0,h.r1,h.a0,h.a1,h.cd,h.form⟩
theorem hearTwice {a:Int×(List Raw×Raw)} (h1:i64 a.1) (h2:∀ w∈a.2.1,Cf.RawOk w) (h3:Cf.RawOk a.2.2):r6 a=some true:=by
 obtain ⟨n,e1,n1,n2⟩:=two_is h1
 have hcf:=two_ok n1 n2
 obtain ⟨m,e2,hm⟩:=Cf.msg_is hcf h3
 have hn0:(0:Int)<(two1 n).1:=by show 0<n; omega
 obtain ⟨d,e3,hd,hnx⟩:=desk_made (most:=30) (l:=1) (me:=0) hcf (by omega) two_l (by omega) hn0 h2 (by omega)
 have e3':r14 (two1 n,((1:Int),((0:Int),(a.2.1,(30:Int)))))=some d:=e3
 have h4:(two1 n).1≤4:=by show n≤4; omega
 have hck:=desk_ok h4 (Cf.check_ok hcf) hd
 unfold r6
 simp only [keeps_tells,e1,Option.bind_some,Bool.not_true,cond_false,e2,e3',bif_some,or_bif]
 cases g:decide (m.1<5) || decide (m.1=9) with
 | true=>simp only [cond_true,hck,Option.bind_some,decide_true]
 | false =>
  simp only [Bool.or_eq_false_iff,decide_eq_false_iff_not] at g
  have hm':=turned_ok hcf hm
  have he:Ear (two1 n) 1 0 ((m.1,(m.2.1,((0:Int),(((0:Int),m.2.2.2.1.2),m.2.2.2.2)))):Msg):=⟨hcf,by omega,two_l,by omega,hn0,Cf.msg_ok hcf hm',rfl,rfl⟩
  obtain ⟨T,t1,t2,t3,t4⟩:=hear_twice he hd hm'.range (by show 5≤m.1; omega) (by have:=hm.k1; show m.1<9; omega)
  unfold Still at t4
  have hs:=same_desk h4 t2
  have hw0:Go.IntKind.wrap .i64 (Go.IntKind.wrap .i64 (((([]:List Rep).length:Nat):Int)+((([]:List Rec).length:Nat):Int))+0)=0:=rfl
  simp only [cond_false,t1,t4,Option.bind_some,decide_true,cond_true,hs,hw0]
theorem asked_any (b:Job) (f:Int) (hl:b.2.2.2.1.length≤100):loopR (r9_L0 b f) (false,(0:Int))=some (b.2.2.2.1.any fun s=>decide (s=f)):=by
 have h:=(fold_loop (body:=r9_L0 b f) (xs:=b.2.2.2.1) (emb:=fun i s=>(s,i)) (out:=fun s=>s) (fun s x=>s || decide (x=f)) (fun _ _=>True) (by omega) (fun i x s hx _=>by
  obtain ⟨e1,e2,-⟩:=in_len hx
  refine ⟨?_,trivial⟩
  unfold r9_L0
  simp only [e1,e2,cond_true,Option.bind_some]
  cases s <;> rfl) (fun s _=>by
  unfold r9_L0
  simp only [at_len,cond_false]) (s0:=false) trivial).1
 have hf:∀ (l:List Int) (s:Bool),l.foldl (fun s x=>s || decide (x=f)) s=(s || l.any fun s=>decide (s=f)):=fun l=>by
  induction l with
  | nil=>intro s; simp
  | cons a l ih=>intro s; rw [List.foldl_cons,ih,List.any_cons,Bool.or_assoc]
 rw [h,hf]; rfl
theorem one_job {c:Conf} {d:Desk} (hd:DeskOk c d) {x y:Job} (hx:x∈d.2) (hy:y∈d.2) (h:x.1=y.1):x=y:=by
 obtain ⟨i,hi⟩:=List.getElem?_of_mem hx
 obtain ⟨k,hk⟩:=List.getElem?_of_mem hy
 rcases Nat.lt_trichotomy i k with g | g | g
 ·have:=pw_get hd.up g hi hk; omega
 ·subst g; rw [hi] at hk; exact Option.some.inj hk
 ·have:=pw_get hd.up g hk hi; omega
theorem doubtsTold {a:Int×(List Raw×(Int×Int))} (h1:i64 a.1) (h2:∀ w∈a.2.1,Cf.RawOk w) (h3:i64 a.2.2.1) (h5:i64 a.2.2.2):r9 a=some true:=by
 obtain ⟨n,e1,n1,n2⟩:=two_is h1
 obtain ⟨y,e2,y0,y1⟩:=Cf.picked_is (m:=9) h3 (by omega)
 obtain ⟨f,e4,f0,f1⟩:=Cf.picked_is (m:=n) h5 (by omega)
 have hcf:=two_ok n1 n2
 have hn0:(0:Int)<(two1 n).1:=by show 0<n; omega
 obtain ⟨d,e3,hd,hnx⟩:=desk_made (most:=30) (l:=1) (me:=0) hcf (by omega) two_l (by omega) hn0 h2 (by omega)
 have e3':r14 (two1 n,((1:Int),((0:Int),(a.2.1,(30:Int)))))=some d:=e3
 have h4:(two1 n).1≤4:=by show n≤4; omega
 have hs:=same_desk h4 hd
 have hw:Go.IntKind.wrap .i64 (1+y)=1+y:=wrap_i64 (by unfold i64; omega)
 have hm:Cf.MsgOk (two1 n) ((9,(f,(0,((0,1+y),(0,(0,(0,(0,(0,(false,0)))))))))):Msg) :=
  ⟨by simp,by simp,f0,f1,by simp,hn0,by simp,hn0,by simp only; omega,by simp only; omega,by simp,by simp,by simp,by simp,by simp,by simp,by simp,by simp,by simp,by simp,.inl rfl,⟨_,rfl,rfl⟩⟩
 have he:Ear (two1 n) 1 0 ((9,(f,(0,((0,1+y),(0,(0,(0,(0,(0,(false,0)))))))))):Msg):=⟨hcf,by omega,two_l,by omega,hn0,Cf.msg_ok hcf hm,rfl,rfl⟩
 obtain ⟨ms,t1,t2⟩:=hear_doubts he hd rfl
 simp only at t2
 have hfew:=hd.few
 have loop:∃ r,loopR (r9_L1 d y f ((d,(ms,([],([],(0,0))))),0)) (0:Int)=some r∧(r = .inr true∨r = .inl ()∧∀ j∈d.2,j.1≠1+y):=by
  refine loop_rule (fun s=>∃ i:Nat,s=(i:Int)∧i≤d.2.length∧∀ j∈d.2.take i,j.1≠1+y) (fun s=>d.2.length - s.toNat) _ (fun s hs'=>?_) 0 ⟨0,rfl,by omega,by simp⟩
  obtain ⟨i,rfl,hi,hno⟩:=hs'
  by_cases g:i<d.2.length
  ·have hx:d.2[i]?=some d.2[i]:=List.getElem?_eq_getElem g
   obtain ⟨q1,q2,-⟩:=in_len hx
   have hwr:Go.IntKind.wrap .i64 ((i:Int)+1)=((i+1:Nat):Int):=by rw [wrap_i64 (by unfold i64; omega)]; omega
   by_cases g2:d.2[i].1=1+y
   ·refine .inr ⟨.inr true,?_,.inl rfl⟩
    have hj:=hd.job _ (List.getElem_mem g)
    have hask:d.2[i].2.2.2.1.length≤4:=by
     rcases up_few hj.asked hj.aup with g | g
     ·omega
     ·rw [g]; simp
    have hms:ms=bif decide (d.2[i].2.1=3) && decide (f∈d.2[i].2.2.2.1) then [decM 0 d.2[i].1 true f] else []:=by
     rcases t2 with ⟨t2,-⟩ | ⟨j,j1,j2,j3⟩
     ·exact absurd g2 (t2 _ (List.getElem_mem g))
     ·rw [one_job hd j1 (List.getElem_mem g) (by omega)] at j3
      exact j3
    have hl:=asked_any d.2[i] f (by omega)
    unfold r9_L1
    simp only [q1,q2,cond_true,Option.bind_some,hw,decide_eq_true g2,Bool.not_true,cond_false,hl]
    have hany:(d.2[i].2.2.2.1.any fun s=>decide (s=f))=decide (f∈d.2[i].2.2.2.1):=by
     rw [Bool.eq_iff_iff,List.any_eq_true,decide_eq_true_eq]
     constructor
     ·rintro ⟨s,s1,s2⟩
      rw [decide_eq_true_eq] at s2
      exact s2▸s1
     ·exact fun h=>⟨f,h,by simp⟩
    rw [hany]
    by_cases g3:f∈d.2[i].2.2.2.1
    ·have hst:d.2[i].2.1=3:=hj.tell.2 (fun e=>by rw [e] at g3; simp at g3)
     rw [decide_eq_true g3,decide_eq_true hst] at hms
     rw [decide_eq_true g3,hms]
     unfold decM
     simp only [Bool.and_self,cond_true,cond_false,Bool.not_true,List.length_singleton,Int.natCast_one,decide_true,idxI_first,Option.bind_some]
    ·rw [decide_eq_false g3,Bool.and_false] at hms
     rw [decide_eq_false g3,hms]
     rfl
   ·refine .inl ⟨((i+1:Nat):Int),?_,⟨i+1,rfl,by omega,fun j hj=>?_⟩,by simp only [Int.toNat_natCast]; omega⟩
    ·unfold r9_L1
     simp only [q1,q2,cond_true,Option.bind_some,hw,decide_eq_false g2,Bool.not_false,hwr]
    ·rw [List.take_add_one,hx] at hj
     rcases List.mem_append.1 hj with hj | hj
     ·exact hno j hj
     ·simp at hj
      subst hj
      exact g2
  ·refine .inr ⟨.inl (),?_,.inr ⟨rfl,fun j hj=>hno j ?_⟩⟩
   ·unfold r9_L1
    simp only [decide_eq_false (show ¬ (i:Int)<(d.2.length:Int) by omega),cond_false]
   ·rw [List.take_of_length_le (by omega)]; exact hj
 obtain ⟨r,l1,l2⟩:=loop
 unfold r9
 simp only [e1,Option.bind_some,e2,e3',e4,hw,t1,hs,decide_true,Bool.not_true,Bool.not_false,cond_true,cond_false,l1]
 rcases l2 with rfl | ⟨rfl,hno⟩
 ·rfl
 ·rcases t2 with ⟨-,t2⟩ | ⟨j,j1,j2,-⟩
  ·subst t2
   unfold decM
   simp only [Sum.elim_inl,List.length_singleton,Int.natCast_one,decide_true,cond_true,idxI_first,Option.bind_some,Bool.not_false]
  ·exact absurd j2 (hno j j1)
end Go.Hv
