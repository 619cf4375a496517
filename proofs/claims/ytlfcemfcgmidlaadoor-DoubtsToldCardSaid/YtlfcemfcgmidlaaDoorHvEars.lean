import Derived.Test.YtlfcemfcgmidlaaDoorHvEar
namespace Go.Hv
open Go.RowKit Go.Proofs Go.V
theorem upd_hit (m:Msg) (t:Task):hitB m (updT m t)=hitB m t:=by
 unfold updT
 cases h:hitB m t with
 | true=>exact h
 | false=>exact h
theorem upd_two (m:Msg) (t:Task):updT m (updT m t)=updT m t:=by
 have h:=upd_hit m t
 cases h2:hitB m t with
 | false =>
  have e:updT m t=t:=by unfold updT; rw [h2]; rfl
  rw [e,e]
 | true =>
  have e:updT m t=(t.1,(t.2.1,(t.2.2.1,(t.2.2.2.1,(t.2.2.2.2.1,(t.2.2.2.2.2.1,(t.2.2.2.2.2.2.1,t.2.2.2.2.2.2.2 || m.2.2.2.2.2.2.2.2.2.1))))))):=by unfold updT; rw [h2]; rfl
  rw [e,h2] at h
  rw [e]
  unfold updT
  rw [h]
  simp only [cond_true,Bool.or_assoc,Bool.or_self]
theorem upd_none {m:Msg} {ts:List Task} (h:ts.any (hitB m)=false):ts.map (updT m)=ts:=by
 rw [List.any_eq_false] at h
 conv=>rhs; rw [← List.map_id ts]
 refine List.map_congr_left fun t ht=>?_
 have:=h t ht
 unfold updT
 rw [Bool.not_eq_true] at this
 rw [this]; rfl
theorem upd_any (m:Msg) (ts:List Task):(ts.map (updT m)).any (hitB m)=ts.any (hitB m):=by
 rw [List.any_map]
 congr 1
 funext t
 exact upd_hit m t
section
variable {c:Conf} {l me next:Int} {m:Msg} {A B:List Job} {j:Job}
theorem hear_sures (he:Ear c l me m) (hd:DeskOk c (next,A++j :: B)) (hn:j.1=m.2.2.2.1.2) (hA:∀ y∈A,y.1≠m.2.2.2.1.2) (h7:m.1=7) :
 ∃ T,r21 (c,(l,(me,((next,A++j :: B),m))))=some (T,0)∧DeskOk c T.1∧T.1.1=next∧Still c l me m T.1:=by
 have h1:=he.hc.s0
 have hj:=desk_at hd
 have hfew:=hj.few
 have at7:∀ {j':Job} {z:Work},DeskOk c (next,A++j' :: B)→j'.1=m.2.2.2.1.2→r44 (mkW c l me next (A++j' :: B) [] [] [] 0 0,((A.length:Int),m))=some z→r21 (c,(l,(me,((next,A++j' :: B),m))))=some (z.2.2.2,0) :=
  fun hd' hn' hz=>hear_sure he.h4 (Cf.check_ok he.hc) hd' he.l0 he.l1 he.m0 he.m1 he.hm he.ht he.hx h7 (i:=(A.length:Int)) (by omega) (place_at hd'.few hn' hA) hz
 have hsure:=fun (j':Job) (hf':j'.2.2.1.length≤100)=>sure_is (c:=c) (l:=l) (me:=me) (next:=next) (A:=A) (B:=B) (j:=j') (ms:=[]) (rs:=[]) (ps:=[]) (su:=0) (co:=0) (m:=m) hf' (by omega) (by simp)
 have hs0:=hsure j (by omega)
 cases g1:decide (j.2.1=2) && decide (m.2.1=Int.tmod m.2.2.2.2.2.1 c.1) with
 | false =>
  rw [g1] at hs0
  have hz:=at7 hd hn hs0
  exact ⟨_,hz,hd,rfl,hz⟩
 | true =>
  rw [g1] at hs0
  simp only [cond_true] at hs0
  have hst:j.2.1=2:=by
   simp only [Bool.and_eq_true,decide_eq_true_eq] at g1
   exact g1.1
  have htk:=hj.tasks.upd (m:=m) (by omega)
  have hd2:DeskOk c (next,A++withT j (j.2.2.1.map (updT m)) :: B):=desk_set hd (job_tasks hj htk hj.g0 hj.g1) rfl
  have hkey:∀ t∈j.2.2.1.map (updT m),0≤t.2.2.1:=fun t ht=>(htk.task t ht).1.y0
  have hlen:(j.2.2.1.map (updT m)).length≤10:=htk.few
  cases g2:j.2.2.1.any (hitB m) with
  | false =>
   rw [g2,upd_none g2] at hs0
   have hz:=at7 hd hn hs0
   exact ⟨_,hz,hd,rfl,hz⟩
  | true =>
   rw [g2] at hs0
   simp only [cond_true] at hs0
   cases g3:m.2.2.2.2.2.2.2.2.2.1 with
   | false =>
    rw [g3] at hs0
    simp only [Bool.not_false,cond_true] at hs0
    obtain ⟨Q,hQ,hend⟩:=end_is (c:=c) (l:=l) (me:=me) (next:=next) (A:=A) (B:=B) (j:=withT j (j.2.2.1.map (updT m))) (ms:=[]) (rs:=[]) (ps:=[]++[(me,(4,(j.1,(0,(0,11)))))]) (su:=0) (co:=0) hlen h1 hkey (by simp) (by have:=hd2.few; simp only at this; omega)
    exact ⟨_,at7 hd hn (hs0.trans hend),desk_del hd,rfl,still_gone he hd hn (by omega) (by omega)⟩
   | true =>
    rw [g3] at hs0
    simp only [Bool.not_true,cond_false] at hs0
    cases g4:(j.2.2.1.map (updT m)).any asksB with
    | true =>
     rw [g4] at hs0
     refine ⟨_,at7 hd hn hs0,hd2,rfl,?_⟩
     have hs1:=hsure (withT j (j.2.2.1.map (updT m))) (by show (j.2.2.1.map (updT m)).length≤100; omega)
     have e1:(withT j (j.2.2.1.map (updT m))).2.1=j.2.1:=rfl
     have e2:(withT j (j.2.2.1.map (updT m))).2.2.1=j.2.2.1.map (updT m):=rfl
     have e3:(j.2.2.1.map (updT m)).map (updT m)=j.2.2.1.map (updT m):=by
      rw [List.map_map]
      exact List.map_congr_left fun t _=>upd_two m t
     rw [e1,e2,e3,g1,upd_any,g2,g3,g4] at hs1
     simp only [cond_true,cond_false,Bool.not_true] at hs1
     exact at7 (j':=withT j (j.2.2.1.map (updT m))) hd2 hn hs1
    | false =>
     rw [g4] at hs0
     simp only [Bool.not_false,cond_true] at hs0
     obtain ⟨Q,hQ,hcom⟩:=commit_is (c:=c) (l:=l) (me:=me) (next:=next) (A:=A) (B:=B) (j:=withT j (j.2.2.1.map (updT m))) (ms:=[]) (rs:=[]) (ps:=[]) (su:=0) (co:=0) hlen h1 hkey (by simp) (by simp) (by simp) (by have:=hd2.few; simp only at this; omega)
     by_cases hq:(Q.length:Int)=0
     ·rw [decide_eq_true hq] at hcom
      exact ⟨_,at7 hd hn (hs0.trans hcom),desk_del hd,rfl,still_gone he hd hn (by omega) (by omega)⟩
     ·rw [decide_eq_false hq] at hcom
      have hne:Q≠[]:=fun e=>hq (by rw [e]; rfl)
      have hd3:DeskOk c (next,A++telJob (withT j (j.2.2.1.map (updT m))) Q :: B):=desk_set hd2 (job_tell (desk_at hd2) (htk.allDone (by omega)) hQ hne) rfl
      refine ⟨_,at7 hd hn (hs0.trans hcom),hd3,rfl,?_⟩
      have hs1:=hsure (telJob (withT j (j.2.2.1.map (updT m))) Q) (by show (j.2.2.1.map (updT m)).length≤100; omega)
      have e1:decide ((telJob (withT j (j.2.2.1.map (updT m))) Q).2.1=2)=false:=rfl
      rw [e1] at hs1
      exact at7 (j':=telJob (withT j (j.2.2.1.map (updT m))) Q) hd3 hn hs1
theorem hear_acks (he:Ear c l me m) (hd:DeskOk c (next,A++j :: B)) (hn:j.1=m.2.2.2.1.2) (hA:∀ y∈A,y.1≠m.2.2.2.1.2) (h8:m.1=8) :
 ∃ T,r21 (c,(l,(me,((next,A++j :: B),m))))=some (T,0)∧DeskOk c T.1∧T.1.1=next∧Still c l me m T.1:=by
 have hj:=desk_at hd
 have hc4:=he.h4
 have hasked:j.2.2.2.1.length≤4:=by
  rcases up_few hj.asked hj.aup with g | g
  ·omega
  ·rw [g]; simp
 have at8:∀ {j':Job} {z:Work},DeskOk c (next,A++j' :: B)→j'.1=m.2.2.2.1.2→r45 (mkW c l me next (A++j' :: B) [] [] [] 0 0,((A.length:Int),m))=some z→r21 (c,(l,(me,((next,A++j' :: B),m))))=some (z.2.2.2,0) :=
  fun hd' hn' hz=>hear_ack he.h4 (Cf.check_ok he.hc) hd' he.l0 he.l1 he.m0 he.m1 he.hm he.ht he.hx h8 (i:=(A.length:Int)) (by omega) (place_at hd'.few hn' hA) hz
 have hack:=fun (j':Job) (hf':j'.2.2.2.1.length≤100) (hl:(A++j' :: B).length≤1000)=>acked_is (c:=c) (l:=l) (me:=me) (next:=next) (A:=A) (B:=B) (j:=j') (ms:=[]) (rs:=[]) (ps:=[]) (su:=0) (co:=0) (m:=m) hf' (by simp) hl
 have hl6:=hd.few
 simp only at hl6
 have hs0:=hack j (by omega) (by omega)
 cases g1:decide (j.2.1=3) with
 | false =>
  rw [g1] at hs0
  have hz:=at8 hd hn hs0
  exact ⟨_,hz,hd,rfl,hz⟩
 | true =>
  rw [g1] at hs0
  simp only [cond_true] at hs0
  by_cases g2:((j.2.2.2.1.filter (fun x=>!decide (x=m.2.1))).length:Int)=0
  ·rw [decide_eq_true g2] at hs0
   exact ⟨_,at8 hd hn hs0,desk_del hd,rfl,still_gone he hd hn (by omega) (by omega)⟩
  ·rw [decide_eq_false g2] at hs0
   have hne:j.2.2.2.1.filter (fun x=>!decide (x=m.2.1))≠[]:=fun e=>g2 (by rw [e]; rfl)
   have hd2:DeskOk c (next,A++wA j (j.2.2.2.1.filter (fun x=>!decide (x=m.2.1))) :: B):=desk_set hd (job_ack hj (of_decide_eq_true g1) _ hne) rfl
   refine ⟨_,at8 hd hn hs0,hd2,rfl,?_⟩
   have hfl:=List.length_filter_le (fun x=>!decide (x=m.2.1)) j.2.2.2.1
   have hs1:=hack (wA j (j.2.2.2.1.filter (fun x=>!decide (x=m.2.1)))) (by show (j.2.2.2.1.filter (fun x=>!decide (x=m.2.1))).length≤100; omega) (by have:=hd2.few; simp only at this; omega)
   have e1:(wA j (j.2.2.2.1.filter (fun x=>!decide (x=m.2.1)))).2.1=j.2.1:=rfl
   have e2:(wA j (j.2.2.2.1.filter (fun x=>!decide (x=m.2.1)))).2.2.2.1=j.2.2.2.1.filter (fun x=>!decide (x=m.2.1)):=rfl
   rw [e1,e2,g1,List.filter_filter] at hs1
   simp only [Bool.and_self,decide_eq_false g2,cond_true,cond_false] at hs1
   exact at8 (j':=wA j (j.2.2.2.1.filter (fun x=>!decide (x=m.2.1)))) hd2 hn hs1
end
theorem hear_twice {c:Conf} {l me:Int} {m:Msg} {d:Desk} (he:Ear c l me m) (hd:DeskOk c d) (hb:Cf.rangeBad c m=false) (h5:5≤m.1) (h9:m.1<9) :
 ∃ T,r21 (c,(l,(me,(d,m))))=some (T,0)∧DeskOk c T.1∧T.1.1=d.1∧Still c l me m T.1:=by
 obtain ⟨next,js⟩:=d
 rcases find_job js m.2.2.2.1.2 with ⟨A,j,B,rfl,hn,hA⟩ | hno
 ·by_cases g6:m.1≤6
  ·exact hear_ans he hd hn hA hb (by omega)
  ·by_cases g7:m.1=7
   ·exact hear_sures he hd hn hA g7
   ·exact hear_acks he hd hn hA (by omega)
 ·have h:=hear_none he.h4 (Cf.check_ok he.hc) hd he.l0 he.l1 he.m0 he.m1 he.hm he.ht he.hx h5 (by omega) hno
  exact ⟨_,h,hd,rfl,h⟩
theorem hear_doubts {c:Conf} {l me:Int} {m:Msg} {d:Desk} (he:Ear c l me m) (hd:DeskOk c d) (h9:m.1=9) :
 ∃ ms,r21 (c,(l,(me,(d,m))))=some ((d,(ms,([],([],(0,0))))),0)∧(((∀ j∈d.2,j.1≠m.2.2.2.1.2)∧ms=[decM me m.2.2.2.1.2 false m.2.1]) ∨
  ∃ j,j∈d.2∧j.1=m.2.2.2.1.2∧ms=bif decide (j.2.1=3) && decide (m.2.1∈j.2.2.2.1) then [decM me j.1 true m.2.1] else []):=by
 obtain ⟨next,js⟩:=d
 have hl6:=hd.few
 simp only at hl6
 have hc4:=he.h4
 rcases find_job js m.2.2.2.1.2 with ⟨A,j,B,rfl,hn,hA⟩ | hno
 ·have hj:=desk_at hd
  have hasked:j.2.2.2.1.length≤4:=by
   rcases up_few hj.asked hj.aup with g | g
   ·omega
   ·rw [g]; simp
  exact ⟨_,hear_doubt he.h4 (Cf.check_ok he.hc) hd he.l0 he.l1 he.m0 he.m1 he.hm he.ht he.hx h9 (place_at hl6 hn hA) (asked_is (by omega)),.inr ⟨j,by simp,hn,rfl⟩⟩
 ·have hp:=place_is (mkW c l me next js [] [] [] 0 0) m.2.2.2.1.2 (show js.length≤1000 by omega)
  rw [show (mkW c l me next js [] [] [] 0 0).2.2.2.1.2=js from rfl,idx_none hno] at hp
  exact ⟨_,hear_doubt he.h4 (Cf.check_ok he.hc) hd he.l0 he.l1 he.m0 he.m1 he.hm he.ht he.hx h9 hp asked_none,.inl ⟨hno,rfl⟩⟩
theorem hear_all {c:Conf} {l me:Int} {d:Desk} (hc:Cf.CfgOk c) (hd:DeskOk c d) (l0:0≤l) (l1:l<c.2.1.length) (m0:0≤me) (m1:me<c.1) (m:Msg) :
 ∃ T e,r21 (c,(l,(me,(d,m))))=some (T,e)∧(e=0→DeskOk c T.1∧T.1.1=d.1):=by
 obtain ⟨y,hy,hy2⟩:=check_all hc m
 by_cases g:y=0∧m.2.2.1=me∧m.2.2.2.1.1=me∧5≤m.1
 ·obtain ⟨g1,g2,g3,g4⟩:=g
  subst g1
  obtain ⟨k0,k9,hb⟩:=hy2 rfl
  have he:Ear c l me m:=⟨hc,l0,l1,m0,m1,hy,g2,g3⟩
  by_cases g9:m.1=9
  ·obtain ⟨ms,h,-⟩:=hear_doubts he hd g9
   exact ⟨_,0,h,fun _=>⟨hd,rfl⟩⟩
  ·obtain ⟨T,h,h2,h3,-⟩:=hear_twice he hd hb g4 (by omega)
   exact ⟨T,0,h,fun _=>⟨h2,h3⟩⟩
 ·obtain ⟨T,e,h,h2⟩:=hear_bad (by have:=hc.s1; omega) (Cf.check_ok hc) hd l0 l1 m0 m1 hy (m:=m) (by
   by_cases g1:y=0
   ·by_cases g2:m.2.2.1=me
    ·by_cases g3:m.2.2.2.1.1=me
     ·exact .inr (.inr (.inr (by
       have : ¬ 5≤m.1:=fun g4=>g ⟨g1,g2,g3,g4⟩
       omega)))
     ·exact .inr (.inr (.inl g3))
    ·exact .inr (.inl g2)
   ·exact .inl g1)
  exact ⟨T,e,h,fun e0=>absurd e0 h2⟩
end Go.Hv
