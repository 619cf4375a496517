import Derived.Test.YtlfcemfcgmidlaaDoorHvEars
namespace Go.Hv
open Go.RowKit Go.Proofs Go.V
abbrev Raw:=Cf.Raw
theorem heard {c:Conf} {l me:Int} {d:Desk} (hc:Cf.CfgOk c) (hd:DeskOk c d) (l0:0≤l) (l1:l<c.2.1.length) (m0:0≤me) (m1:me<c.1) (m:Msg):∃ d',(Option.bind (r21 (c,(l,(me,(d,m))))) fun y=>bif decide (y.2=0) then some y.1.1 else some d)=some d'∧DeskOk c d'∧d'.1=d.1:=by
 obtain ⟨T,e,h1,h2⟩:=hear_all hc hd l0 l1 m0 m1 m
 rw [h1]
 by_cases g:e=0
 ·obtain ⟨h3,h4⟩:=h2 g
  exact ⟨T.1,by rw [g]; rfl,h3,h4⟩
 ·exact ⟨d,by simp only [Option.bind_some,decide_eq_false g,cond_false],hd,rfl⟩
theorem back_all {c:Conf} {l me:Int} {d:Desk} (hc:Cf.CfgOk c) (hd:DeskOk c d) (l0:0≤l) (l1:l<c.2.1.length) (m0:0≤me) (m1:me<c.1) (m:Msg) {w:Raw} (hw:Cf.RawOk w) :
 ∃ d',r22 (c,(l,(me,(d,(m,w)))))=some d'∧DeskOk c d'∧d'.1=d.1:=by
 obtain ⟨p1,e1,-⟩:=Cf.picked_is (m:=50) hw.d (by omega)
 obtain ⟨p2,e2,-⟩:=Cf.picked_is (m:=4) hw.a (by omega)
 obtain ⟨p3,e3,-⟩:=Cf.picked_is (m:=4) hw.b (by omega)
 unfold r22
 simp only [e1,e2,e3,Option.bind_some]
 cases decide (m.1=1) with
 | true=>exact heard hc hd l0 l1 m0 m1 _
 | false =>
  cases decide (m.1=2) with
  | true=>exact heard hc hd l0 l1 m0 m1 _
  | false =>
   cases decide (m.1=3) with
   | true=>exact heard hc hd l0 l1 m0 m1 _
   | false=>exact heard hc hd l0 l1 m0 m1 _
theorem ask_all {w:Raw} (hw:Cf.RawOk w):∃ x,r28 w=some x:=by
 obtain ⟨p1,e1,-⟩:=Cf.picked_is (m:=5) hw.k (by omega)
 obtain ⟨p2,e2,-⟩:=Cf.picked_is (m:=4) hw.a (by omega)
 obtain ⟨p3,e3,-⟩:=Cf.picked_is (m:=3) hw.b (by omega)
 obtain ⟨p4,e4,-⟩:=Cf.picked_is (m:=4) hw.c (by omega)
 obtain ⟨p5,e5,-⟩:=Cf.picked_is (m:=99) hw.d (by omega)
 unfold r28
 simp only [e1,e2,e3,e4,e5,Option.bind_some]
 cases decide (Go.IntKind.wrap .i64 (1+p1)=1) with
 | true =>
  simp only [Bool.not_true,cond_false,Option.bind_some]
  cases decide (Go.IntKind.wrap .i64 (1+p1)=2) with
  | true=>exact ⟨_,rfl⟩
  | false =>
   cases decide (Go.IntKind.wrap .i64 (1+p1)=3) with
   | true=>exact ⟨_,rfl⟩
   | false=>exact ⟨_,rfl⟩
 | false =>
  simp only [Bool.not_false,cond_true,Option.bind_some]
  cases decide (Go.IntKind.wrap .i64 (1+p1)=2) with
  | true=>exact ⟨_,rfl⟩
  | false =>
   cases decide (Go.IntKind.wrap .i64 (1+p1)=3) with
   | true=>exact ⟨_,rfl⟩
   | false=>exact ⟨_,rfl⟩
theorem desk_inner {c:Conf} {l me:Int} (hc:Cf.CfgOk c) (l0:0≤l) (l1:l<c.2.1.length) (m0:0≤me) (m1:me<c.1) {T:Turn} (hT:DeskOk c T.1) (hm:T.2.1.length≤10) {w:Raw} (hw:Cf.RawOk w) {raw:List Raw} {most:Int} :
 ∃ d',loopR (r14_L0 (T,0) w (c,(l,(me,(raw,most))))) ((),((0:Int),T.1))=some ((),d')∧DeskOk c d'∧d'.1=T.1.1:=by
 obtain ⟨p,ep,-⟩:=Cf.picked_is (m:=3) hw.e (by omega)
 obtain ⟨r,h1,h2⟩:=loop_rule (body:=r14_L0 (T,0) w (c,(l,(me,(raw,most)))))
  (fun s=>∃ (i:Nat) (d':Desk),s=((),((i:Int),d'))∧i≤T.2.1.length∧DeskOk c d'∧d'.1=T.1.1)
  (fun s=>T.2.1.length - s.2.1.toNat) (fun r=>∃ d',r=((),d')∧DeskOk c d'∧d'.1=T.1.1) (fun s hs=>by
   obtain ⟨i,d',rfl,hi,hd,hn⟩:=hs
   by_cases g:i<T.2.1.length
   ·have hx:T.2.1[i]?=some T.2.1[i]:=List.getElem?_eq_getElem g
    obtain ⟨e1,e2,-⟩:=in_len hx
    have hwr:Go.IntKind.wrap .i64 ((i:Int)+1)=((i+1:Nat):Int):=by rw [wrap_i64 (by unfold i64; omega)]; omega
    cases hp:decide ((0:Int)<p) with
    | true =>
     obtain ⟨d2,b1,b2,b3⟩:=back_all hc hd l0 l1 m0 m1 T.2.1[i] hw
     refine .inl ⟨((),(((i+1:Nat):Int),d2)),?_,⟨i+1,d2,rfl,by omega,b2,by rw [b3,hn]⟩,by simp only [Int.toNat_natCast]; omega⟩
     unfold r14_L0
     simp only [e1,e2,ep,hp,b1,cond_true,Option.bind_some,hwr]
    | false =>
     refine .inl ⟨((),(((i+1:Nat):Int),d')),?_,⟨i+1,d',rfl,by omega,hd,hn⟩,by simp only [Int.toNat_natCast]; omega⟩
     unfold r14_L0
     simp only [e1,e2,ep,hp,cond_true,cond_false,Option.bind_some,hwr]
   ·refine .inr ⟨((),d'),?_,d',rfl,hd,hn⟩
    unfold r14_L0
    simp only [decide_eq_false (show ¬ (i:Int)<(T.2.1.length:Int) by omega),cond_false]) ((),((0:Int),T.1)) ⟨0,T.1,rfl,by omega,hT,rfl⟩
 obtain ⟨d',rfl,h3,h4⟩:=h2
 exact ⟨d',h1,h3,h4⟩
theorem desk_made {c:Conf} {l me:Int} (hc:Cf.CfgOk c) (l0:0≤l) (l1:l<c.2.1.length) (m0:0≤me) (m1:me<c.1) {raw:List Raw} (hw:∀ w∈raw,Cf.RawOk w) {most:Nat} (hmost:most≤1000) :
 ∃ d,r14 (c,(l,(me,(raw,(most:Int)))))=some d∧DeskOk c d∧d.1≤1+most:=by
 obtain ⟨r,h1,h2⟩:=loop_rule (body:=r14_L1 (c,(l,(me,(raw,(most:Int))))))
  (fun s=>∃ (i:Nat) (d':Desk),s=((),((i:Int),d'))∧i≤most∧DeskOk c d'∧d'.1≤1+i)
  (fun s=>most - s.2.1.toNat) (fun r=>∃ d',r=((),d')∧DeskOk c d'∧d'.1≤1+most) (fun s hs=>by
   obtain ⟨i,d',rfl,hi,hd,hn⟩:=hs
   by_cases g:i<raw.length
   ·by_cases g2:i<most
    ·have hx:raw[i]?=some raw[i]:=List.getElem?_eq_getElem g
     obtain ⟨e1,e2,-⟩:=in_len hx
     have hwi:=hw raw[i] (List.getElem_mem g)
     have hwr:Go.IntKind.wrap .i64 ((i:Int)+1)=((i+1:Nat):Int):=by rw [wrap_i64 (by unfold i64; omega)]; omega
     obtain ⟨p,ep,-⟩:=Cf.picked_is (m:=3) hwi.k (by omega)
     have key:∃ d2,r14_L1 (c,(l,(me,(raw,(most:Int))))) ((),((i:Int),d'))=some (.inl ((),(((i+1:Nat):Int),d2)))∧DeskOk c d2∧d2.1≤d'.1+1:=by
      unfold r14_L1
      simp only [e1,e2,decide_eq_true (show (i:Int)<(most:Int) by omega),ep,cond_true,Option.bind_some,hwr]
      cases decide ((0:Int)<p) with
      | true =>
       obtain ⟨x,ex⟩:=ask_all (w:=(Go.IntKind.wrap .i64 (Int.tdiv raw[i].2.2.2.1 9),(raw[i].2.1,(raw[i].2.2.1,(raw[i].2.2.2.1,(raw[i].2.2.2.2.1,0)))))) ⟨i64_wrap _,hwi.a,hwi.b,hwi.c,hwi.d,by show i64 0; unfold i64; omega⟩
       obtain ⟨T,e,t1,t2⟩:=call_all (room:=6000) (x:=x) hc hd l0 l1 m0 m1
       simp only [cond_true,ex,Option.bind_some,t1]
       by_cases g3:e=0
       ·obtain ⟨t3,t4,t5⟩:=t2 g3
        subst g3
        obtain ⟨d2,u1,u2,u3⟩:=desk_inner (raw:=raw) (most:=(most:Int)) hc l0 l1 m0 m1 t3 t5 hwi
        refine ⟨d2,?_,u2,by omega⟩
        simp only [decide_true,cond_true,u1,Option.bind_some]
       ·refine ⟨d',?_,hd,by omega⟩
        simp only [decide_eq_false g3,cond_false,Option.bind_some]
      | false =>
       obtain ⟨m,em,-⟩:=Cf.msg_is hc hwi
       simp only [cond_false,em,Option.bind_some]
       obtain ⟨d2,u1,u2,u3⟩:=heard hc hd l0 l1 m0 m1 (m.1,(m.2.1,(me,((me,m.2.2.2.1.2),m.2.2.2.2))))
       obtain ⟨T,e,t1,t2⟩:=hear_all hc hd l0 l1 m0 m1 (m.1,(m.2.1,(me,((me,m.2.2.2.1.2),m.2.2.2.2))))
       rw [t1] at u1
       simp only [t1,Option.bind_some]
       by_cases g3:e=0
       ·obtain ⟨t3,t4⟩:=t2 g3
        subst g3
        refine ⟨T.1,?_,t3,by omega⟩
        simp only [decide_true,cond_true,Option.bind_some]
       ·refine ⟨d',?_,hd,by omega⟩
        simp only [decide_eq_false g3,cond_false,Option.bind_some]
     obtain ⟨d2,q1,q2,q3⟩:=key
     exact .inl ⟨_,q1,⟨i+1,d2,rfl,by omega,q2,by omega⟩,by simp only [Int.toNat_natCast]; omega⟩
    ·refine .inr ⟨((),d'),?_,d',rfl,hd,by omega⟩
     unfold r14_L1
     simp only [decide_eq_true (show (i:Int)<(raw.length:Int) by omega),decide_eq_false (show ¬ (i:Int)<(most:Int) by omega),cond_true,cond_false,Option.bind_some]
   ·refine .inr ⟨((),d'),?_,d',rfl,hd,by omega⟩
    unfold r14_L1
    simp only [decide_eq_false (show ¬ (i:Int)<(raw.length:Int) by omega),cond_false,Option.bind_some]) ((),((0:Int),((1:Int),[]))) ⟨0,(1,[]),rfl,by omega,⟨by simp,by simp,by simp,by simp,List.Pairwise.nil⟩,by simp⟩
 obtain ⟨d',rfl,h3,h4⟩:=h2
 refine ⟨d',?_,h3,h4⟩
 unfold r14
 simp only [h1,Option.bind_some]
end Go.Hv
