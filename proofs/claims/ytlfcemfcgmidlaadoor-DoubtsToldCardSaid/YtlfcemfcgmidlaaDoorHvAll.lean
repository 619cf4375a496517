import Derived.Test.YtlfcemfcgmidlaaDoorHvAck
namespace Go.Hv
open Go.RowKit Go.Proofs Go.V
theorem above_is (p q:Int×Int):∃ b,r48 (p,q)=some b:=by
 unfold r48
 simp only [bif_some,and_bif]
 exact ⟨_,rfl⟩
theorem openB_end {n st:Int} {T:List Task} {t:Task} {r:List Int×(Int×Int)}:openB (n,(st,(T++[t],r))) = !t.2.2.2.2.2.2.1:=by
 unfold openB
 simp only [List.getLast?_append,List.getLast?_singleton,Option.some_or]
theorem open_is {j : Job} (hf : j.2.2.1.length ≤ 10) : (bif decide ((0 : Int) < (j.2.2.1.length : Int)) then
      bif inB (Go.IntKind.wrap .i64 ((j.2.2.1.length:Int) - (1:Int))) j.2.2.1.length then
       Option.bind (idxN j.2.2.1 (Int.toNat (Go.IntKind.wrap .i64 ((j.2.2.1.length:Int) - (1:Int))))) fun (x17:Task)=>some !(x17.2.2.2.2.2.2.1)
      else none
 else some false)=some (openB j):=by
 obtain ⟨n,st,ts,r⟩:=j
 rcases List.eq_nil_or_concat ts with e | ⟨T,t,e⟩
 ·subst e; rfl
 ·rw [List.concat_eq_append] at e
  subst e
  have hT:T.length≤1000000:=by simp at hf; omega
  rw [openB_end,wrap_end T t hT,decide_eq_true (show (0:Int)<(((T++[t]).length:Nat):Int) by simp),inB_end]
  simp only [cond_true,Int.toNat_natCast,idx_end,Option.bind_some]
theorem open_done {c:Conf} {next:Int} {j:Job} (h:JobOk c next j) (ho:openB j=false):∀ t∈j.2.2.1,t.2.2.2.2.2.2.1=true:=by
 intro t ht
 obtain ⟨i,hi⟩:=List.getElem?_of_mem ht
 cases e:t.2.2.2.2.2.2.1 with
 | true=>rfl
 | false =>
  have hd:=(h.done i t hi e).1
  obtain ⟨n,st,ts,r⟩:=j
  simp only at hi hd ht
  rcases List.eq_nil_or_concat ts with e2 | ⟨T,u,e2⟩
  ·subst e2; simp at ht
  ·rw [List.concat_eq_append] at e2
   subst e2
   rw [openB_end] at ho
   have:i=T.length:=by simp at hd; omega
   subst this
   rw [List.getElem?_append_right (Nat.le_refl _)] at hi
   simp at hi
   subst hi
   rw [e] at ho; cases ho
theorem refuse_all {c:Conf} {l me next:Int} {js:List Job} {x:Int×(Int×(Int×(Int×Int)))} (hl:js.length≤6) (hj:∀ j∈js,j.2.2.1.length≤10) (l0:0≤l) (l1:l<c.2.1.length) :
 ∃ e,r33 (mkW c l me next js [] [] [] 0 0,x)=some (e,mkW c l me next js [] [] [] 0 0)∧(e=0→∃ A j B,js=A++j :: B∧j.1=x.2.1∧(∀ y∈A,y.1≠x.2.1)∧j.2.1=1∧openB j=false ∧
  (x.1=2∨x.1=3→j.2.2.1.length≠10∧j.2.2.2.2.1≠1048576∧0≤x.2.2.2.1∧x.2.2.2.1<8∧0≤x.2.2.2.2∧x.2.2.2.2≤1073741824∧(x.1=2→0≤x.2.2.1∧x.2.2.1<c.2.1.length))):=by
 rcases find_job js x.2.1 with ⟨A,j,B,rfl,hn,hA⟩ | hno
 ·have hp:=place_is (mkW c l me next (A++j :: B) [] [] [] 0 0) x.2.1 (show (A++j :: B).length≤1000 by omega)
  rw [show (mkW c l me next (A++j :: B) [] [] [] 0 0).2.2.2.1.2=A++j :: B from rfl,idx_some hn hA] at hp
  have hop:=open_is (hj j (by simp))
  have hlab:∃ b:Bool,(bif decide (x.1=2) then (bif !(decide (x.2.2.1<0)) then bif !(decide ((c.2.1.length:Int)≤x.2.2.1)) then Option.bind (idxI c.2.1 l) fun b42=>Option.bind (idxI c.2.1 x.2.2.1) fun b43=>Option.bind (r48 (b42,b43)) fun y44=>some !y44 else some true else some true) else some false)=some b ∧
   (b=false→x.1=2→0≤x.2.2.1∧x.2.2.1<c.2.1.length):=by
   by_cases g1:x.1=2
   ·rw [decide_eq_true g1]
    by_cases g2:x.2.2.1<0
    ·exact ⟨true,by rw [decide_eq_true g2]; rfl,fun e=>by cases e⟩
    ·by_cases g3:(c.2.1.length:Int)≤x.2.2.1
     ·exact ⟨true,by rw [decide_eq_false g2,decide_eq_true g3]; rfl,fun e=>by cases e⟩
     ·obtain ⟨b1,h1,-⟩:=idxI_is (xs:=c.2.1) l0 l1
      obtain ⟨b2,h2,-⟩:=idxI_is (xs:=c.2.1) (show 0≤x.2.2.1 by omega) (show x.2.2.1<c.2.1.length by omega)
      obtain ⟨b,hb⟩:=above_is b1 b2
      exact ⟨!b,by rw [decide_eq_false g2,decide_eq_false g3,h1,h2]; simp only [Bool.not_false,cond_true,Option.bind_some,hb],fun _ _=>⟨by omega,by omega⟩⟩
   ·exact ⟨false,by rw [decide_eq_false g1]; rfl,fun _ e=>absurd e g1⟩
  obtain ⟨lb,hlb,hlb2⟩:=hlab
  unfold mkW at hp ⊢
  unfold r33
  simp only [hp,Option.bind_some,idxOr,decide_eq_false (show ¬ (A.length:Int)<0 by omega),cond_false,inB_mid,Int.toNat_natCast,idx_mid,cond_true,hop,hlb,bif_some,or_bif,and_bif]
  by_cases g1:j.2.1=1
  ·rw [decide_eq_true g1]
   cases ho:openB j with
   | true=>exact ⟨14,rfl,fun e=>absurd e (by decide)⟩
   | false =>
    simp only [Bool.not_true,cond_false]
    by_cases g2:x.1=2∨x.1=3
    ·have hkk:(!(decide (x.1=2)) && !(decide (x.1=3)))=false:=by
      rcases g2 with g2 | g2 <;> simp [g2]
     rw [hkk]
     by_cases g3:x.2.2.2.1<0
     ·exact ⟨2,by rw [decide_eq_true g3]; rfl,fun e=>absurd e (by decide)⟩
     by_cases g4:8≤x.2.2.2.1
     ·exact ⟨2,by rw [decide_eq_true g4]; simp only [Bool.or_true,Bool.true_or,cond_true,cond_false],fun e=>absurd e (by decide)⟩
     by_cases g5:x.2.2.2.2<0
     ·exact ⟨2,by rw [decide_eq_true g5]; simp only [Bool.or_true,Bool.true_or,cond_true,cond_false],fun e=>absurd e (by decide)⟩
     by_cases g6:1073741824<x.2.2.2.2
     ·exact ⟨2,by rw [decide_eq_true g6]; simp only [Bool.or_true,cond_true,cond_false],fun e=>absurd e (by decide)⟩
     rw [decide_eq_false g3,decide_eq_false g4,decide_eq_false g5,decide_eq_false g6]
     simp only [Bool.or_false,cond_false]
     cases lb with
     | true=>exact ⟨10,rfl,fun e=>absurd e (by decide)⟩
     | false =>
      by_cases g7:(j.2.2.1.length:Int)=10
      ·exact ⟨8,by rw [decide_eq_true g7]; rfl,fun e=>absurd e (by decide)⟩
      by_cases g8:j.2.2.2.2.1=1048576
      ·exact ⟨8,by rw [decide_eq_true g8]; simp only [Bool.or_true,cond_true,cond_false],fun e=>absurd e (by decide)⟩
      rw [decide_eq_false g7,decide_eq_false g8]
      exact ⟨0,rfl,fun _=>⟨A,j,B,rfl,hn,hA,g1,ho,fun _=>⟨by omega,g8,by omega,by omega,by omega,by omega,fun e=>hlb2 rfl e⟩⟩⟩
    ·have hkk:(!(decide (x.1=2)) && !(decide (x.1=3)))=true:=by
      rw [decide_eq_false (fun e=>g2 (.inl e)),decide_eq_false (fun e=>g2 (.inr e))]; rfl
     rw [hkk]
     exact ⟨0,rfl,fun _=>⟨A,j,B,rfl,hn,hA,g1,ho,fun e=>absurd e g2⟩⟩
  ·exact ⟨13,by rw [decide_eq_false g1]; rfl,fun e=>absurd e (by decide)⟩
 ·have hp:=place_is (mkW c l me next js [] [] [] 0 0) x.2.1 (show js.length≤1000 by omega)
  rw [show (mkW c l me next js [] [] [] 0 0).2.2.2.1.2=js from rfl,idx_none hno] at hp
  refine ⟨6,?_,fun e=>absurd e (by decide)⟩
  unfold r33
  simp only [hp,Option.bind_some]
  rfl
theorem call_all {c:Conf} {l me:Int} {d:Desk} {room:Int} {x:Int×(Int×(Int×(Int×Int)))} (hc:Cf.CfgOk c) (hd:DeskOk c d) (l0:0≤l) (l1:l<c.2.1.length) (m0:0≤me) (m1:me<c.1) :
 ∃ T e,r17 (c,(l,(me,(d,(room,x)))))=some (T,e)∧(e=0→DeskOk c T.1∧T.1.1≤d.1+1∧T.2.1.length≤10):=by
 have h4:c.1≤4:=by have:=hc.s1; omega
 have h1:=hc.s0
 have hk:=Cf.check_ok hc
 obtain ⟨next,js⟩:=d
 have hfew:=hd.few
 simp only at hfew
 by_cases g1:x.1=1
 ·have hb:=begun_is (c:=c) (l:=l) (me:=me) (next:=next) (js:=js) (ms:=[]) (rs:=[]) (ps:=[]) (su:=0) (co:=0) (room:=room) (by have:=hd.n0; simp only at this; omega) hd.n1 hfew (by simp) (by simp)
  rw [call_begin h4 hk hd l0 l1 m0 m1 g1,hb]
  cases hf:fullB next js room with
  | true=>exact ⟨_,0,rfl,fun _=>⟨hd,by show next≤next+1; omega,by simp [mkW]⟩⟩
  | false =>
   have hn:next≤1048576∧js.length≠6:=by
    unfold fullB at hf
    simp only [Bool.or_eq_false_iff,decide_eq_false_iff_not] at hf
    omega
   exact ⟨_,0,rfl,fun _=>⟨desk_new hd hn.1 (by omega),by simp [mkW],by simp [mkW]⟩⟩
 by_cases g2:x.1<1∨5<x.1
 ·refine ⟨(((0:Int),[]),([],([],([],((0:Int),(0:Int)))))),3,?_,fun e=>absurd e (by decide)⟩
  have hck:=desk_ok h4 hk hd
  have how:=own_is h4 hd
  unfold r17
  simp only [hck,how,Option.bind_some,decide_true,Bool.not_true,Bool.not_false,cond_true,cond_false,decide_eq_false (show ¬ l<0 by omega),decide_eq_false (show ¬ (c.2.1.length:Int)≤l by omega),decide_eq_false (show ¬ me<0 by omega),decide_eq_false (show ¬ c.1≤me by omega)]
  rcases g2 with g2 | g2
  ·rw [decide_eq_true g2]; rfl
  ·rw [decide_eq_true g2]
   cases decide (x.1<1) <;> rfl
 have x0:2≤x.1:=by omega
 have x1:x.1≤5:=by omega
 obtain ⟨e,hr,he⟩:=refuse_all (c:=c) (l:=l) (me:=me) (next:=next) (js:=js) (x:=x) hfew (fun j hj=>(hd.job j hj).few) l0 l1
 by_cases g3:e=0
 ·obtain ⟨A,j,B,hjs,hn,hA,hs,ho,hx⟩:=he g3
  subst hjs
  have hj:=desk_at hd
  have hdone:=open_done hj ho
  have hp:=place_is (mkW c l me next (A++j :: B) [] [] [] 0 0) x.2.1 (show (A++j :: B).length≤1000 by omega)
  rw [show (mkW c l me next (A++j :: B) [] [] [] 0 0).2.2.2.1.2=A++j :: B from rfl,idx_some hn hA] at hp
  rw [call_from h4 hk hd l0 l1 m0 m1 x0 x1 hr,g3]
  simp only [decide_true,cond_true,hp,Option.bind_some,idxOr]
  have key:∀ t:Task,r36 (mkW c l me next (A++j :: B) [] [] [] 0 0,((A.length:Int),t))=some (mkW c l me next (A++newJob j t :: B) ([]++[newMsg c me j t]) [] [] 0 0):=fun t =>
   task_is hj.k0 hj.k1 (by have:=hj.few; omega) (by simp) (by omega)
  by_cases k2:x.1=2
  ·obtain ⟨f1,f2,f3,f4,f5,f6,f7⟩:=hx (.inl k2)
   obtain ⟨f8,f9⟩:=f7 k2
   rw [decide_eq_true k2,key]
   refine ⟨_,0,rfl,fun _=>⟨desk_set hd (job_new hj hs hdone (by have:=hj.few; omega) (by have:=hj.k1; omega) f8 f9 f3 f4 (by omega) (by omega) (.inr rfl)) rfl,by show next≤next+1; omega,by simp [mkW]⟩⟩
  by_cases k3:x.1=3
  ·obtain ⟨f1,f2,f3,f4,f5,f6,-⟩:=hx (.inr k3)
   rw [decide_eq_false k2,decide_eq_true k3]
   simp only [cond_true,cond_false,key,Option.map_some]
   refine ⟨_,0,rfl,fun _=>⟨desk_set hd (job_new hj hs hdone (by have:=hj.few; omega) (by have:=hj.k1; omega) l0 l1 f3 f4 f5 f6 (.inl rfl)) rfl,by show next≤next+1; omega,by simp [mkW]⟩⟩
  rw [decide_eq_false k2,decide_eq_false k3]
  simp only [cond_false]
  have hkey:∀ t∈j.2.2.1,0≤t.2.2.1:=fun t ht=>(hj.task t ht).1.y0
  by_cases k4:x.1=4
  ·rw [decide_eq_true k4]
   cases ha:j.2.2.1.any asksB with
   | true =>
    rw [committing_ask hj.few (by omega) (by simp) ha]
    refine ⟨_,0,rfl,fun _=>⟨desk_set hd (job_chk hj hs hdone) rfl,by show next≤next+1; omega,?_⟩⟩
    have:=List.length_filter_le asksB j.2.2.1
    have:=hj.few
    simp [mkW]
    omega
   | false =>
    obtain ⟨Q,hQ,hcom⟩:=commit_is (c:=c) (l:=l) (me:=me) (next:=next) (A:=A) (B:=B) (j:=j) (ms:=[]) (rs:=[]) (ps:=[]) (su:=j.1) (co:=0) hj.few h1 hkey (by simp) (by simp) (by simp) (by omega)
    rw [committing_now hj.few (by omega) (by simp) ha hcom]
    by_cases hq:(Q.length:Int)=0
    ·rw [decide_eq_true hq]
     exact ⟨_,0,rfl,fun _=>⟨desk_del hd,by show next≤next+1; omega,by simp [mkW]⟩⟩
    ·rw [decide_eq_false hq]
     have hne:Q≠[]:=fun e=>hq (by rw [e]; rfl)
     exact ⟨_,0,rfl,fun _=>⟨desk_set hd (job_tell hj hdone hQ hne) rfl,by show next≤next+1; omega,by have:=hQ.few; simp [mkW]; omega⟩⟩
  ·rw [decide_eq_false k4]
   obtain ⟨Q,hQ,hend⟩:=end_is (c:=c) (l:=l) (me:=me) (next:=next) (A:=A) (B:=B) (j:=j) (ms:=[]) (rs:=[]) (ps:=[]) (su:=0) (co:=0) hj.few h1 hkey (by simp) (by omega)
   have h3:roomOk false 0 1 48=true:=roomOk_true (by omega)
   rw [hend]
   unfold mkW
   simp only [cond_false,Option.bind_some,List.length_nil,h3,cond_true]
   exact ⟨_,0,rfl,fun _=>⟨desk_del hd,by show next≤next+1; omega,by have:=hQ.few; simp; omega⟩⟩
 ·exact ⟨_,0,call_no h4 hk hd l0 l1 m0 m1 x0 x1 hr g3,fun _=>⟨hd,by simp only; omega,by simp⟩⟩
end Go.Hv
