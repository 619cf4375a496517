import Derived.Test.YtlfcemfcgmidlaaDoorHvHear
namespace Go.Hv
open Go.RowKit Go.Proofs Go.V
abbrev two1 (n:Int):Conf:=(n,([(0,0),(1,0)],3))
theorem two_is {a:Int} (ha:i64 a):∃ n,r13 a=some (two1 n)∧1≤n∧n≤3:=by
 obtain ⟨v,h1,h2,h3⟩:=Cf.picked_is (m:=3) ha (by omega)
 refine ⟨1+v,?_,by omega,by omega⟩
 have hw:Go.IntKind.wrap .i64 (1+v)=1+v:=wrap_i64 (by unfold i64; omega)
 unfold r13
 simp only [h1,Option.bind_some,hw]
theorem two_ok {n:Int} (h1:1≤n) (h2:n≤3):Cf.CfgOk (two1 n) :=
 ⟨h1,h2,by simp,by simp,by intro l hl; simp at hl; rcases hl with rfl | rfl <;> (refine ⟨?_,?_,?_,?_⟩ <;> simp),by simp,by simp,by simp⟩
theorem ints_self {l:List Int} (h:l.length≤1000):r39 (l,l)=some true:=by
 have l0:loopR (r39_L0 (l,l)) (0:Int)=some (.inl ()):=by
  refine all_loop (xs:=l) (by omega) (fun i x hx=>?_) ?_
  ·obtain ⟨e1,e2,-⟩:=in_len hx
   unfold r39_L0
   simp only [e1,e2,cond_true,Option.bind_some,decide_true,Bool.not_true,cond_false]
  ·unfold r39_L0
   simp only [at_len,cond_false]
 unfold r39
 simp only [decide_true,Bool.not_true,cond_false,l0,Option.bind_some,Sum.elim_inl]
theorem desk_self {d:Desk} (hd:d.2.length≤1000) (hj:∀ j∈d.2,j.2.2.1.length≤1000∧j.2.2.2.1.length≤1000):r18 (d,d)=some true:=by
 have l0:∀ b:Job,b.2.2.1.length≤1000→loopR (r18_L0 b b) (0:Int)=some (.inl ()):=fun b hb=>by
  refine all_loop (xs:=b.2.2.1) (by omega) (fun i x hx=>?_) ?_
  ·obtain ⟨e1,e2,-⟩:=in_len hx
   unfold r18_L0
   simp only [e1,e2,cond_true,Option.bind_some,decide_true,Bool.and_self,Bool.not_true,cond_false]
  ·unfold r18_L0
   simp only [at_len,cond_false]
 have l1:loopR (r18_L1 (d,d)) (0:Int)=some (.inl ()):=by
  refine all_loop (xs:=d.2) (by omega) (fun i x hx=>?_) ?_
  ·obtain ⟨e1,e2,-⟩:=in_len hx
   obtain ⟨h1,h2⟩:=hj x (List.mem_of_getElem? hx)
   unfold r18_L1
   simp only [e1,e2,cond_true,Option.bind_some,decide_true,Bool.not_true,Bool.not_false,cond_false,ints_self h2,l0 x h1,Sum.elim_inl]
  ·unfold r18_L1
   simp only [at_len,cond_false]
 unfold r18
 simp only [decide_true,Bool.not_true,Bool.not_false,cond_true,cond_false,Option.bind_some,l1,Sum.elim_inl]
section
variable {c:Conf} {l me:Int} {d:Desk} {room:Int} {x:Int×(Int×(Int×(Int×Int)))}
theorem call_begin (hc:c.1≤4) (hk:r29 c=some 0) (hd:DeskOk c d) (l0:0≤l) (l1:l<c.2.1.length) (m0:0≤me) (m1:me<c.1) (hx:x.1=1) :
 r17 (c,(l,(me,(d,(room,x)))))=Option.bind (r32 (mkW c l me d.1 d.2 [] [] [] 0 0,room)) fun z=>some (z.2.2.2,0):=by
 have hck:=desk_ok hc hk hd
 have how:=own_is hc hd
 unfold r17
 simp only [hck,how,Option.bind_some,decide_true,Bool.not_true,Bool.not_false,cond_true,cond_false,decide_eq_false (show ¬ l<0 by omega),decide_eq_false (show ¬ (c.2.1.length:Int)≤l by omega),decide_eq_false (show ¬ me<0 by omega),decide_eq_false (show ¬ c.1≤me by omega),
  decide_eq_false (show ¬ x.1<1 by omega),decide_eq_false (show ¬ 5<x.1 by omega),decide_eq_true hx]
 rfl
theorem call_no (hc:c.1≤4) (hk:r29 c=some 0) (hd:DeskOk c d) (l0:0≤l) (l1:l<c.2.1.length) (m0:0≤me) (m1:me<c.1) (x0:2≤x.1) (x1:x.1≤5)
 {e:Int} (hr:r33 (mkW c l me d.1 d.2 [] [] [] 0 0,x)=some (e,mkW c l me d.1 d.2 [] [] [] 0 0)) (he:e≠0) :
 r17 (c,(l,(me,(d,(room,x)))))=some ((d,([],([],([(me,(x.1,(x.2.1,(x.2.2.2.1,(0,e)))))],(0,0))))),0):=by
 have hck:=desk_ok hc hk hd
 have how:=own_is hc hd
 have h3:roomOk false 0 1 48=true:=roomOk_true (by omega)
 unfold r17
 simp only [hck,how,Option.bind_some,decide_true,Bool.not_true,Bool.not_false,cond_true,cond_false,decide_eq_false (show ¬ l<0 by omega),decide_eq_false (show ¬ (c.2.1.length:Int)≤l by omega),decide_eq_false (show ¬ me<0 by omega),decide_eq_false (show ¬ c.1≤me by omega),
  decide_eq_false (show ¬ x.1<1 by omega),decide_eq_false (show ¬ 5<x.1 by omega),decide_eq_false (show ¬ x.1=1 by omega)]
 rw [show r33 ((c,(l,(me,(d,([],([],([],((0:Int),(0:Int))))))))),x)=some (e,mkW c l me d.1 d.2 [] [] [] 0 0) from hr]
 simp only [Option.bind_some,decide_eq_false he,Bool.not_false,cond_true]
 unfold mkW
 simp only [List.length_nil,h3,cond_true,Option.bind_some,app_eq,List.nil_append]
end
end Go.Hv
