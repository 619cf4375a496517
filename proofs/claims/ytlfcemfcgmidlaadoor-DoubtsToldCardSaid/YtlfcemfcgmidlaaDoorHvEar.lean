import Derived.Test.YtlfcemfcgmidlaaDoorHvAll
namespace Go.Hv
open Go.RowKit Go.Proofs Go.V
theorem check_all {c:Conf} (hc:Cf.CfgOk c) (m:Msg):∃ y,r41 (c,m)=some y∧(y=0→1≤m.1∧m.1≤9∧Cf.rangeBad c m=false):=by
 rw [Cf.checkMsg_is hc]
 by_cases g1:m.1<1
 ·exact ⟨3,by rw [decide_eq_true g1]; rfl,fun e=>absurd e (by decide)⟩
 by_cases g2:9<m.1
 ·exact ⟨3,by rw [decide_eq_true g2,Bool.or_true]; rfl,fun e=>absurd e (by decide)⟩
 rw [decide_eq_false g1,decide_eq_false g2]
 cases g3:Cf.rangeBad c m with
 | true=>exact ⟨2,rfl,fun e=>absurd e (by decide)⟩
 | false =>
  obtain ⟨p,hp,-⟩:=idxI_is (xs:=tab0) (n:=m.1) (by omega) (by show m.1<((10:Nat):Int); omega)
  simp only [Bool.or_self,cond_false,hp,Option.bind_some]
  cases Cf.formBad p m with
  | true=>exact ⟨4,rfl,fun e=>absurd e (by decide)⟩
  | false=>exact ⟨0,rfl,fun _=>⟨by omega,by omega,by simp⟩⟩
theorem range_bounds {c:Conf} {m:Msg} (h:Cf.rangeBad c m=false):(0≤m.2.1∧m.2.1<c.1)∧(0≤m.2.2.2.2.2.2.1∧m.2.2.2.2.2.2.1≤1073741824)∧0≤m.2.2.2.2.2.2.2.1∧m.2.2.2.2.2.2.2.1≤1048576:=by
 unfold Cf.rangeBad Cf.valueOk at h
 simp only [Bool.or_eq_false_iff,decide_eq_false_iff_not,Bool.not_eq_false',Bool.and_eq_true,decide_eq_true_eq] at h
 omega
section
variable {c:Conf} {l me:Int} {d:Desk} {m:Msg}
theorem hear_bad (hc:c.1≤4) (hk:r29 c=some 0) (hd:DeskOk c d) (l0:0≤l) (l1:l<c.2.1.length) (m0:0≤me) (m1:me<c.1) {y:Int} (hm:r41 (c,m)=some y) (hy:y≠0∨m.2.2.1≠me∨m.2.2.2.1.1≠me∨m.1<5) :
 ∃ T e,r21 (c,(l,(me,(d,m))))=some (T,e)∧e≠0:=by
 have hck:=desk_ok hc hk hd
 have how:=own_is hc hd
 unfold r21
 simp only [hck,how,hm,Option.bind_some,decide_true,Bool.not_true,Bool.not_false,cond_true,cond_false,decide_eq_false (show ¬ l<0 by omega),decide_eq_false (show ¬ (c.2.1.length:Int)≤l by omega),decide_eq_false (show ¬ me<0 by omega),decide_eq_false (show ¬ c.1≤me by omega)]
 by_cases g1:y=0
 ·rw [decide_eq_true g1]
  simp only [Bool.not_true,cond_false]
  by_cases g2:m.2.2.1=me
  ·by_cases g3:m.2.2.2.1.1=me
   ·have g4:m.1<5:=by
     rcases hy with e | e | e | e
     ·exact absurd g1 e
     ·exact absurd g2 e
     ·exact absurd g3 e
     ·exact e
    rw [decide_eq_true g2,decide_eq_true g3,decide_eq_true g4]
    exact ⟨_,3,rfl,by decide⟩
   ·rw [decide_eq_true g2,decide_eq_false g3]
    exact ⟨_,2,rfl,by decide⟩
  ·rw [decide_eq_false g2]
   exact ⟨_,2,rfl,by decide⟩
 ·rw [decide_eq_false g1]
  exact ⟨_,y,rfl,g1⟩
theorem hear_none (hc:c.1≤4) (hk:r29 c=some 0) (hd:DeskOk c d) (l0:0≤l) (l1:l<c.2.1.length) (m0:0≤me) (m1:me<c.1) (hm:r41 (c,m)=some 0) (ht:m.2.2.1=me) (hx:m.2.2.2.1.1=me) (h5:5≤m.1) (h9:m.1≠9)
 (hno:∀ j∈d.2,j.1≠m.2.2.2.1.2):r21 (c,(l,(me,(d,m))))=some ((d,([],([],([],(0,0))))),0):=by
 have hck:=desk_ok hc hk hd
 have how:=own_is hc hd
 have hp:=place_is (mkW c l me d.1 d.2 [] [] [] 0 0) m.2.2.2.1.2 (show d.2.length≤1000 by have:=hd.few; omega)
 rw [show (mkW c l me d.1 d.2 [] [] [] 0 0).2.2.2.1.2=d.2 from rfl,idx_none hno] at hp
 unfold mkW at hp
 unfold r21
 simp only [hck,how,hm,Option.bind_some,decide_true,Bool.not_true,Bool.not_false,cond_true,cond_false,decide_eq_false (show ¬ l<0 by omega),decide_eq_false (show ¬ (c.2.1.length:Int)≤l by omega),decide_eq_false (show ¬ me<0 by omega),decide_eq_false (show ¬ c.1≤me by omega),
  decide_eq_true ht,decide_eq_true hx,decide_eq_false (show ¬ m.1<5 by omega),hp,decide_eq_false h9,idxOr,decide_eq_true (show (-1:Int)<0 by omega)]
theorem hear_ack (hc:c.1≤4) (hk:r29 c=some 0) (hd:DeskOk c d) (l0:0≤l) (l1:l<c.2.1.length) (m0:0≤me) (m1:me<c.1) (hm:r41 (c,m)=some 0) (ht:m.2.2.1=me) (hx:m.2.2.2.1.1=me) (h8:m.1=8)
 {i:Int} (i0:0≤i) (hp:r35 (mkW c l me d.1 d.2 [] [] [] 0 0,m.2.2.2.1.2)=some (i,mkW c l me d.1 d.2 [] [] [] 0 0)) {z:Work} (hz:r45 (mkW c l me d.1 d.2 [] [] [] 0 0,(i,m))=some z) :
 r21 (c,(l,(me,(d,m))))=some (z.2.2.2,0):=by
 have hck:=desk_ok hc hk hd
 have how:=own_is hc hd
 unfold mkW at hp hz
 unfold r21
 simp only [hck,how,hm,Option.bind_some,decide_true,Bool.not_true,Bool.not_false,cond_true,cond_false,decide_eq_false (show ¬ l<0 by omega),decide_eq_false (show ¬ (c.2.1.length:Int)≤l by omega),decide_eq_false (show ¬ me<0 by omega),decide_eq_false (show ¬ c.1≤me by omega),
  decide_eq_true ht,decide_eq_true hx,decide_eq_false (show ¬ m.1<5 by omega),hp,decide_eq_false (show ¬ m.1=9 by omega),decide_eq_false (show ¬ i<0 by omega),decide_eq_false (show ¬ m.1=5 by omega),decide_eq_false (show ¬ m.1=6 by omega),decide_eq_false (show ¬ m.1=7 by omega),hz]
theorem hear_doubt (hc:c.1≤4) (hk:r29 c=some 0) (hd:DeskOk c d) (l0:0≤l) (l1:l<c.2.1.length) (m0:0≤me) (m1:me<c.1) (hm:r41 (c,m)=some 0) (ht:m.2.2.1=me) (hx:m.2.2.2.1.1=me) (h9:m.1=9)
 {i:Int} (hp:r35 (mkW c l me d.1 d.2 [] [] [] 0 0,m.2.2.2.1.2)=some (i,mkW c l me d.1 d.2 [] [] [] 0 0)) {z:Work} (hz:r42 (mkW c l me d.1 d.2 [] [] [] 0 0,(i,m))=some z) :
 r21 (c,(l,(me,(d,m))))=some (z.2.2.2,0):=by
 have hck:=desk_ok hc hk hd
 have how:=own_is hc hd
 unfold mkW at hp hz
 unfold r21
 simp only [hck,how,hm,Option.bind_some,decide_true,Bool.not_true,Bool.not_false,cond_true,cond_false,decide_eq_false (show ¬ l<0 by omega),decide_eq_false (show ¬ (c.2.1.length:Int)≤l by omega),decide_eq_false (show ¬ me<0 by omega),decide_eq_false (show ¬ c.1≤me by omega),
  decide_eq_true ht,decide_eq_true hx,decide_eq_false (show ¬ m.1<5 by omega),hp,decide_eq_true h9,hz]
end
def Still (c:Conf) (l me:Int) (m:Msg) (d:Desk):Prop:=r21 (c,(l,(me,(d,m))))=some ((d,([],([],([],(0,0))))),0)
structure Ear (c:Conf) (l me:Int) (m:Msg):Prop where
 hc:Cf.CfgOk c
 l0:0≤l
 l1:l<c.2.1.length
 m0:0≤me
 m1:me<c.1
 hm:r41 (c,m)=some 0
 ht:m.2.2.1=me
 hx:m.2.2.2.1.1=me
theorem Ear.h4 {c:Conf} {l me:Int} {m:Msg} (h:Ear c l me m):c.1≤4:=by have:=h.hc.s1; omega
theorem done_ok {c:Conf} {t:Task} {m:Msg} {b:Bool} (h:TaskOk c t) (v0:0≤m.2.2.2.2.2.2.1) (v1:m.2.2.2.2.2.2.1≤1073741824) (n0:0≤m.2.2.2.2.2.2.2.1) (n1:m.2.2.2.2.2.2.2.1≤1048576):TaskOk c (doneT t m b):=by
 obtain ⟨a0,a1,b0,b1,c0,c1,d0,d1,e0,e1,-⟩:=h
 cases b with
 | false=>exact ⟨a0,a1,b0,b1,v0,v1,n0,n1,e0,e1,fun e=>by cases e⟩
 | true=>exact ⟨a0,a1,b0,b1,c0,c1,d0,d1,e0,e1,fun e=>by cases e⟩
section
variable {c:Conf} {l me next:Int} {m:Msg} {A B:List Job} {j:Job}
theorem place_at (hl:(A++j :: B).length≤6) (hn:j.1=m.2.2.2.1.2) (hA:∀ y∈A,y.1≠m.2.2.2.1.2):r35 (mkW c l me next (A++j :: B) [] [] [] 0 0,m.2.2.2.1.2)=some ((A.length:Int),mkW c l me next (A++j :: B) [] [] [] 0 0):=by
 have hp:=place_is (mkW c l me next (A++j :: B) [] [] [] 0 0) m.2.2.2.1.2 (show (A++j :: B).length≤1000 by omega)
 rw [show (mkW c l me next (A++j :: B) [] [] [] 0 0).2.2.2.1.2=A++j :: B from rfl,idx_some hn hA] at hp
 exact hp
theorem gone (hd:DeskOk c (next,A++j :: B)) (hn:j.1=m.2.2.2.1.2):∀ y∈A++B,y.1≠m.2.2.2.1.2:=by
 have hp:=hd.up
 rw [List.pairwise_append,List.pairwise_cons] at hp
 obtain ⟨-,⟨h2,-⟩,h4⟩:=hp
 intro y hy
 rcases List.mem_append.1 hy with hy | hy
 ·have:=h4 y hy j (by simp); omega
 ·have:=h2 y hy; omega
theorem still_gone (he:Ear c l me m) (hd:DeskOk c (next,A++j :: B)) (hn:j.1=m.2.2.2.1.2) (h5:5≤m.1) (h9:m.1≠9):Still c l me m (next,A++B) :=
 hear_none he.h4 (Cf.check_ok he.hc) (desk_del hd) he.l0 he.l1 he.m0 he.m1 he.hm he.ht he.hx h5 h9 (gone hd hn)
theorem hear_ans (he:Ear c l me m) (hd:DeskOk c (next,A++j :: B)) (hn:j.1=m.2.2.2.1.2) (hA:∀ y∈A,y.1≠m.2.2.2.1.2) (hb:Cf.rangeBad c m=false) (h6:m.1=5∨m.1=6) :
 ∃ T,r21 (c,(l,(me,((next,A++j :: B),m))))=some (T,0)∧DeskOk c T.1∧T.1.1=next∧Still c l me m T.1:=by
 have h1:=he.hc.s0
 have hj:=desk_at hd
 obtain ⟨-,⟨v0,v1⟩,n0,n1⟩:=range_bounds hb
 have at2:∀ {j':Job} {z:Work} {wr:Bool},decide (m.1=6)=wr→DeskOk c (next,A++j' :: B)→j'.1=m.2.2.2.1.2→r43 (mkW c l me next (A++j' :: B) [] [] [] 0 0,((A.length:Int),(m,wr)))=some z→r21 (c,(l,(me,((next,A++j' :: B),m))))=some (z.2.2.2,0) :=
  fun hwr hd' hn' hz=>hear_done he.h4 (Cf.check_ok he.hc) hd' he.l0 he.l1 he.m0 he.m1 he.hm he.ht he.hx h6 (i:=(A.length:Int)) (by omega) (place_at hd'.few hn' hA) (by rw [hwr]; exact hz)
 have hfew:=hj.few
 rcases List.eq_nil_or_concat j.2.2.1 with e | ⟨T,t,e⟩
 ·have hz:=at2 rfl hd hn (ans_none e)
  exact ⟨_,hz,hd,rfl,hz⟩
 ·rw [List.concat_eq_append] at e
  have hT:T.length≤100:=by rw [e] at hfew; simp at hfew; omega
  have hans:=ans_is (c:=c) (l:=l) (me:=me) (next:=next) (A:=A) (B:=B) (j:=j) (ms:=[]) (rs:=[]) (ps:=[]) (su:=0) (co:=0) (m:=m) (wr:=decide (m.1=6)) e hT (by omega) (by simp)
  have htk:=hj.tasks
  rw [e] at htk
  cases hf:fitB c t m (decide (m.1=6)) with
  | false =>
   rw [hf] at hans
   have hz:=at2 rfl hd hn hans
   exact ⟨_,hz,hd,rfl,hz⟩
  | true =>
   rw [hf] at hans
   have hmore:∀ (ts:List Task),TasksOk c j.2.2.2.2.1 j.2.1 ts→(∀ x∈ts,x.2.2.2.2.2.2.1=true)→DeskOk c (next,A++ageJ j ts :: B)∧Still c l me m (next,A++ageJ j ts :: B):=fun ts hts hall=>by
    have hd2:DeskOk c (next,A++ageJ j ts :: B):=desk_set hd (job_tasks hj hts (by omega) (by omega)) rfl
    refine ⟨hd2,?_⟩
    rcases List.eq_nil_or_concat ts with e2 | ⟨T2,t2,e2⟩
    ·exact at2 (j':=ageJ j ts) rfl hd2 hn (ans_none e2)
    ·rw [List.concat_eq_append] at e2
     have hans2:=ans_is (c:=c) (l:=l) (me:=me) (next:=next) (A:=A) (B:=B) (j:=ageJ j ts) (ms:=[]) (rs:=[]) (ps:=[]) (su:=0) (co:=0) (m:=m) (wr:=decide (m.1=6)) (T:=T2) (t:=t2) e2 (by have:=hts.few; rw [e2] at this; simp at this; omega) (by omega) (by simp)
     have hf2:fitB c t2 m (decide (m.1=6))=false:=by
      unfold fitB
      rw [hall t2 (by rw [e2]; simp)]; rfl
     rw [hf2] at hans2
     exact at2 (j':=ageJ j ts) rfl hd2 hn hans2
   have hl:TasksOk c j.2.2.2.2.1 j.2.1 (T++[doneT t m (decide (m.1=6))]):=htk.last (u:=doneT t m (decide (m.1=6))) (done_ok (htk.task t (by simp)).1 v0 v1 n0 n1) rfl rfl
   by_cases g:m.2.2.2.2.2.2.2.2.2.2=0
   ·rw [decide_eq_true g] at hans
    obtain ⟨q1,q2⟩:=hmore _ hl (fun x hx'=>by
     rcases List.mem_append.1 hx' with hx' | hx'
     ·exact htk.init.1 x hx'
     ·simp only [List.mem_singleton] at hx'
      subst hx'; rfl)
    exact ⟨_,at2 rfl hd hn hans,q1,rfl,q2⟩
   ·rw [decide_eq_false g] at hans
    cases hw:decide (m.1=6) with
    | false =>
     rw [hw] at hans
     obtain ⟨q1,q2⟩:=hmore _ htk.init.2 htk.init.1
     exact ⟨_,at2 hw hd hn hans,q1,rfl,q2⟩
    | true =>
     rw [hw] at hans
     have hd2:DeskOk c (next,A++ageJ j (T++[t]) :: B):=desk_set hd (job_tasks hj htk (by omega) (by omega)) rfl
     obtain ⟨Q,hQ,hend⟩:=end_is (c:=c) (l:=l) (me:=me) (next:=next) (A:=A) (B:=B) (j:=ageJ j (T++[t])) (ms:=[]) (rs:=[]) (ps:=[]++[ansRep me j m true]) (su:=0) (co:=0) (by rw [show (ageJ j (T++[t])).2.2.1=T++[t] from rfl,← e]; exact hfew) h1 (fun u hu=>(htk.task u hu).1.y0) (by simp) (by have:=hd2.few; simp only at this; omega)
     have hans':=hans.trans hend
     exact ⟨_,at2 hw hd hn hans',desk_del hd,rfl,still_gone he hd hn (by omega) (by omega)⟩
end
end Go.Hv
