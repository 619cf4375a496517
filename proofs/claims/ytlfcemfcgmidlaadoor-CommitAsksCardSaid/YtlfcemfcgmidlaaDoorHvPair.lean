import Derived.Test.YtlfcemfcgmidlaaDoorHvHear
namespace Go.Hv
open Go.RowKit Go.Proofs Go.V
abbrev two1 (n:Int):Conf:=(n,([(0,0),(1,0)],3))
theorem two_is {a:Int} (ha:i64 a):∃ n,r13 a=some (two1 n)∧1≤n∧n≤3:=by
 obtain ⟨v,h1,h2,h3⟩:=Cf.picked_is (m:=3) ha (by omega)
 refine ⟨1+v,?_,by omega,by omega⟩
 have hw:Go.IntKind.wrap .i64 (1+v)=1+v:=wrap_i64 (by unfold i64; omega)
 unfold r13
 simp only [h1,Option.bind_some,hw]
theorem two_ok {n:Int} (h1:1≤n) (h2:n≤3):Cf.CfgOk (two1 n) :=
 ⟨h1,h2,by simp,by simp,by intro l hl; simp at hl; rcases hl with rfl | rfl <;> (refine ⟨?_,?_,?_,?_⟩ <;> simp),by simp,by simp,by simp⟩
section
variable {c:Conf} {l me:Int} {d:Desk} {room:Int} {x:Int×(Int×(Int×(Int×Int)))}
theorem call_begin (hc:c.1≤4) (hk:r29 c=some 0) (hd:DeskOk c d) (l0:0≤l) (l1:l<c.2.1.length) (m0:0≤me) (m1:me<c.1) (hx:x.1=1) :
 r17 (c,(l,(me,(d,(room,x)))))=Option.bind (r32 (mkW c l me d.1 d.2 [] [] [] 0 0,room)) fun z=>some (z.2.2.2,0):=by
 have hck:=desk_ok hc hk hd
 have how:=own_is hc hd
 unfold r17
 simp only [hck,how,Option.bind_some,decide_true,Bool.not_true,Bool.not_false,cond_true,cond_false,decide_eq_false (show ¬ l<0 by omega),decide_eq_false (show ¬ (c.2.1.length:Int)≤l by omega),decide_eq_false (show ¬ me<0 by omega),decide_eq_false (show ¬ c.1≤me by omega),
  decide_eq_false (show ¬ x.1<1 by omega),decide_eq_false (show ¬ 5<x.1 by omega),decide_eq_true hx]
 rfl
theorem call_task (hc:c.1≤4) (hk:r29 c=some 0) (hd:DeskOk c d) (l0:0≤l) (l1:l<c.2.1.length) (m0:0≤me) (m1:me<c.1) (x0:x.1=2∨x.1=3)
 (hr:r33 (mkW c l me d.1 d.2 [] [] [] 0 0,x)=some (0,mkW c l me d.1 d.2 [] [] [] 0 0)) {i:Int} (hp:r35 (mkW c l me d.1 d.2 [] [] [] 0 0,x.2.1)=some (i,mkW c l me d.1 d.2 [] [] [] 0 0))
 {z:Work} (hz:r36 (mkW c l me d.1 d.2 [] [] [] 0 0,(i,(decide (x.1=3),((bif decide (x.1=3) then l else x.2.2.1),(x.2.2.2.1,((bif decide (x.1=3) then x.2.2.2.2 else 0),(0,(0,(false,false)))))))))=some z) :
 r17 (c,(l,(me,(d,(room,x)))))=some (z.2.2.2,0):=by
 have hck:=desk_ok hc hk hd
 have how:=own_is hc hd
 have hx1:2≤x.1∧x.1≤3:=by omega
 unfold r17
 simp only [hck,how,Option.bind_some,decide_true,Bool.not_true,Bool.not_false,cond_true,cond_false,decide_eq_false (show ¬ l<0 by omega),decide_eq_false (show ¬ (c.2.1.length:Int)≤l by omega),decide_eq_false (show ¬ me<0 by omega),decide_eq_false (show ¬ c.1≤me by omega),
  decide_eq_false (show ¬ x.1<1 by omega),decide_eq_false (show ¬ 5<x.1 by omega),decide_eq_false (show ¬ x.1=1 by omega)]
 rw [show r33 ((c,(l,(me,(d,([],([],([],((0:Int),(0:Int))))))))),x)=some (0,mkW c l me d.1 d.2 [] [] [] 0 0) from hr]
 simp only [Option.bind_some,decide_true,Bool.not_true,cond_false,hp]
 rcases x0 with x0 | x0
 ·rw [decide_eq_false (show ¬ x.1=3 by omega)] at hz
  simp only [cond_false] at hz
  rw [decide_eq_true x0]
  simp only [cond_true,hz,Option.bind_some]
 ·rw [decide_eq_true x0] at hz
  simp only [cond_true] at hz
  rw [decide_eq_false (show ¬ x.1=2 by omega),decide_eq_true x0]
  simp only [cond_true,cond_false,hz,Option.bind_some]
end
abbrev job1:Job:=(1,(1,([],([],(0,0)))))
theorem desk_none (n:Int):DeskOk (two1 n) (1,[]):=⟨by simp,by simp,by simp,by simp,List.Pairwise.nil⟩
theorem job_one (n:Int) {ts:List Task} {k:Int} (hf:ts.length≤10) (k0:0≤k) (k1:k≤1048576) (ht:∀ t∈ts,TaskOk (two1 n) t∧t.2.2.2.2.2.1≤k) (hu:ts.Pairwise fun x y=>x.2.2.2.2.2.1<y.2.2.2.2.2.1)
 (hd:∀ (i:Nat) t,ts[i]?=some t→t.2.2.2.2.2.2.1=false→i+1=ts.length):DeskOk (two1 n) (2,[(1,(1,(ts,([],(k,0)))))]):=by
 refine ⟨by simp,by simp,by simp,fun j hj=>?_,List.pairwise_singleton _ _⟩
 simp only [List.mem_singleton] at hj
 subst hj
 exact ⟨by simp,by simp,by simp,by simp,by simp,by simp,hf,k0,k1,ht,hu,fun i t h1 h2=>⟨hd i t h1 h2,rfl⟩,by simp,List.Pairwise.nil,by simp⟩
end Go.Hv
