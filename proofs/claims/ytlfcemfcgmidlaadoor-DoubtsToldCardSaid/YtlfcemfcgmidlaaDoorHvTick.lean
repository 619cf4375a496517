import Derived.Test.YtlfcemfcgmidlaaDoorHvLaws
namespace Go.Hv
open Go.RowKit Go.Proofs Go.V
def lateO (j:Job):Option Job:=bif decide (j.2.1=3) then some (ageJ j j.2.2.1) else none
def agedJ (j:Job):Job:=(j.1,(j.2.1,(j.2.2.1,(j.2.2.2.1,(j.2.2.2.2.1,j.2.2.2.2.2+1)))))
def tickO (p:Int) (j:Job):Option Job:=bif decide (p≤j.2.2.2.2.2+1) then lateO j else some (agedJ j)
section
variable {c:Conf} {l me next:Int} {A B:List Job} {j:Job} {ms:List Msg} {rs:List Rec} {ps:List Rep} {su co:Int}
theorem tell_late {Q:List Int} (hQ:j.2.2.2.1=Q) (hq:Q.length≤10) (hm:ms.length≤900) :
 loopR (r46_L0 j j) ((),((),(((),((),(A.length,()))),((0:Int),(c.1,(c.2.1,(c.2.2,(l,(me,(next,(A++j :: B,(ms,(rs,(ps,(su,co)))))))))))))))=some ((),(c.1,(c.2.1,(c.2.2,(l,(me,(next,(A++j :: B,(ms++Q.map (decM me j.1 true),(rs,(ps,(su,co)))))))))))):=by
 have h4:=(fold_loop (body:=r46_L0 j j) (xs:=j.2.2.2.1) (emb:=fun i s=>((),((),(((),((),(A.length,()))),(i,(c.1,(c.2.1,(c.2.2,(l,(me,(next,(A++j :: B,(s,(rs,(ps,(su,co)))))))))))))))) (out:=fun s=>((),(c.1,(c.2.1,(c.2.2,(l,(me,(next,(A++j :: B,(s,(rs,(ps,(su,co)))))))))))))
  (fun s x=>s++[decM me j.1 true x]) (fun i s=>s.length=ms.length+i∧i≤10) (by rw [hQ]; omega) (fun i x s hx hs'=>by
   obtain ⟨e1,-,e3,e4⟩:=in_len hx
   have hil:=(List.getElem?_eq_some_iff.mp hx).1
   rw [hQ] at hil
   refine ⟨?_,by simp; omega,by omega⟩
   unfold r46_L0
   simp only [e1,idx_mid,e3,cond_true,Int.toNat_natCast,e4,Option.bind_some,roomOk_true (show (2 * (s.length+1)+192) * 96≤281474976710656 by omega),app_eq,wrap_end s _ (show s.length≤1000000 by omega),inB_end,set_end]
   rfl) (fun s _=>by
   unfold r46_L0
   simp only [at_len,cond_false]) (s0:=ms) ⟨rfl,by omega⟩).1
 rw [fold_app,hQ] at h4
 exact h4
theorem late_is (hf:j.2.2.1.length≤10) (ha:j.2.2.2.1.length≤10) (hs:1≤c.1) (hk:∀ t∈j.2.2.1,0≤t.2.2.1) (hm:ms.length≤800) (hp:ps.length≤800) (hj:(A++j :: B).length≤1000) :
 ∃ ms' ps',r46 (mkW c l me next (A++j :: B) ms rs ps su co,(A.length:Int))=some (mkW c l me next (A++((lateO j).toList++B)) (ms++ms') rs (ps++ps') su co)∧ms'.length≤10∧ps'.length≤1:=by
 have hr1:roomOk false ps.length 1 48=true:=roomOk_true (by omega)
 unfold r46
 rw [show (mkW c l me next (A++j :: B) ms rs ps su co,(A.length:Int)).1.2.2.2.1.2=A++j :: B from rfl]
 simp only [inB_mid,Int.toNat_natCast,idx_mid,Option.bind_some,cond_true]
 unfold lateO
 cases decide (j.2.1=3) with
 | true =>
  have h5:=tell_late (c:=c) (l:=l) (me:=me) (next:=next) (A:=A) (B:=B) (j:=ageJ j j.2.2.1) (ms:=ms) (rs:=rs) (ps:=ps) (su:=su) (co:=co) rfl ha (by omega)
  refine ⟨j.2.2.2.1.map (decM me j.1 true),[],?_,by simpa using ha,by simp⟩
  unfold ageJ at h5
  unfold mkW ageJ
  simp only [cond_true,set_mid,idx_mid,Option.bind_some,h5,List.append_nil,Option.toList_some,List.singleton_append]
 | false =>
  simp only [cond_false,Option.toList_none,List.nil_append]
  cases decide (j.2.1=2) with
  | true =>
   obtain ⟨Q,hQ,he⟩:=end_is (c:=c) (l:=l) (me:=me) (next:=next) (A:=A) (B:=B) (j:=j) (ms:=ms) (rs:=rs) (ps:=ps++[(me,(4,(j.1,(0,(0,14)))))]) (su:=su) (co:=co) hf hs hk (by omega) hj
   refine ⟨Q.map (decM me j.1 false),[(me,(4,(j.1,(0,(0,14)))))],?_,by simpa using hQ.few,by simp⟩
   unfold mkW at he ⊢
   simp only [cond_true,hr1,Option.bind_some,app_eq,he]
  | false =>
   simp only [cond_false]
   rcases List.eq_nil_or_concat j.2.2.1 with e | ⟨T,t,e⟩
   ·obtain ⟨Q,hQ,he⟩:=end_is (c:=c) (l:=l) (me:=me) (next:=next) (A:=A) (B:=B) (j:=j) (ms:=ms) (rs:=rs) (ps:=ps) (su:=su) (co:=co) hf hs hk (by omega) hj
    refine ⟨Q.map (decM me j.1 false),[],?_,by simpa using hQ.few,by simp⟩
    have hw:Go.IntKind.wrap .i64 ((([]:List Task).length:Int) - 1) = -1:=rfl
    unfold mkW at he ⊢
    simp only [e,hw,decide_eq_false (show ¬ (0:Int)≤-1 by omega),cond_false,Option.bind_some,he,List.append_nil]
   ·rw [List.concat_eq_append] at e
    have hT:T.length≤1000000:=by rw [e] at hf; simp at hf; omega
    cases hd:t.2.2.2.2.2.2.1 with
    | true =>
     obtain ⟨Q,hQ,he⟩:=end_is (c:=c) (l:=l) (me:=me) (next:=next) (A:=A) (B:=B) (j:=j) (ms:=ms) (rs:=rs) (ps:=ps) (su:=su) (co:=co) hf hs hk (by omega) hj
     refine ⟨Q.map (decM me j.1 false),[],?_,by simpa using hQ.few,by simp⟩
     unfold mkW at he ⊢
     simp only [e,wrap_end T t hT,decide_eq_true (show (0:Int)≤(T.length:Int) by omega),cond_true,cond_false,Option.bind_some,inB_end,Int.toNat_natCast,idx_end,hd,Bool.not_true,he,List.append_nil]
    | false =>
     obtain ⟨Q,hQ,he⟩:=end_is (c:=c) (l:=l) (me:=me) (next:=next) (A:=A) (B:=B) (j:=j) (ms:=ms) (rs:=rs) (ps:=ps++[(me,((bif t.1 then 3 else 2),(j.1,(t.2.2.1,(0,14)))))]) (su:=su) (co:=co) hf hs hk (by omega) hj
     refine ⟨Q.map (decM me j.1 false),[(me,((bif t.1 then 3 else 2),(j.1,(t.2.2.1,(0,14)))))],?_,by simpa using hQ.few,by simp⟩
     unfold mkW at he ⊢
     simp only [e,wrap_end T t hT,decide_eq_true (show (0:Int)≤(T.length:Int) by omega),cond_true,Option.bind_some,inB_end,Int.toNat_natCast,idx_end,hd,Bool.not_false,bif_some,hr1,app_eq,he]
end
theorem tick_loop {c:Conf} {l me next:Int} {js:List Job} {rs:List Rec} {su co:Int} (hd:DeskOk c (next,js)) (hc:c.1≤4) (hs:1≤c.1):∀ (R P D:List Job) (ms:List Msg) (ps:List Rep),js=P++R→D=P.filterMap (tickO c.2.2)→ms.length≤10 * P.length→ps.length≤P.length →
 ∃ ms' ps',loopR (r23_L0 (c,(l,(me,(next,js))))) ((),((P.length:Int),st49 c l me next (D++R) ms rs ps su co))=some ((),st49 c l me next (D++R.filterMap (tickO c.2.2)) ms' rs ps' su co)∧ms'.length≤60∧ps'.length≤6:=by
 have hfew:=hd.few
 simp only at hfew
 intro R
 induction R with
 | nil =>
  intro P D ms ps hj hD hm hp
  rw [List.append_nil] at hj
  subst hj
  refine ⟨ms,ps,?_,by omega,by omega⟩
  rw [loopR_go]
  have:r23_L0 (c,(l,(me,(next,js)))) ((),((js.length:Int),st49 c l me next (D++[]) ms rs ps su co))=some (.inr ((),st49 c l me next (D++[]) ms rs ps su co)):=by
   unfold r23_L0
   simp only [at_len,cond_false]
  rw [this,goL_inr]
  rfl
 | cons j R ih =>
  intro P D ms ps hj hD hm hp
  have hget:js[P.length]?=some j:=by rw [hj,List.getElem?_append_right (Nat.le_refl _)]; simp
  have hPl:P.length<6:=by rw [hj] at hfew; simp at hfew; omega
  have hR6:(P++j :: R).length≤6:=by rw [← hj]; exact hfew
  simp only [List.length_append,List.length_cons] at hR6
  obtain ⟨e1,e2,-⟩:=in_len hget
  have hw:Go.IntKind.wrap .i64 ((P.length:Int)+1)=((P.length+1:Nat):Int):=by rw [wrap_i64 (by unfold i64; omega)]; omega
  have hjob:=hd.job j (by rw [hj]; simp)
  have g0:=hjob.g0
  have g1:=hjob.g1
  have hwa:Go.IntKind.wrap .i64 (j.2.2.2.2.2+1)=j.2.2.2.2.2+1:=wrap_i64 (by unfold i64; omega)
  have hlow:∀ x∈D,x.1≠j.1:=fun x hx=>by
   rw [hD,List.mem_filterMap] at hx
   obtain ⟨y,hy,hxy⟩:=hx
   have hlt:y.1<j.1:=by
    have hp:=hd.up
    simp only [hj,List.pairwise_append] at hp
    exact hp.2.2 y hy j (by simp)
   have:x.1=y.1:=by
    unfold tickO lateO at hxy
    revert hxy
    cases decide (c.2.2≤y.2.2.2.2.2+1) with
    | true =>
     cases decide (y.2.1=3) with
     | true=>intro h; simp only [cond_true,Option.some.injEq] at h; rw [← h]; rfl
     | false=>intro h; simp at h
    | false=>intro h; simp only [cond_false,Option.some.injEq] at h; rw [← h]; rfl
   omega
  have hDl:D.length≤P.length:=by rw [hD]; exact List.length_filterMap_le ..
  have hjl:(D++j :: R).length≤1000:=by simp; omega
  have hpl:=place_is (mkW c l me next (D++j :: R) ms rs ps su co) j.1 hjl
  rw [show (mkW c l me next (D++j :: R) ms rs ps su co).2.2.2.1.2=D++j :: R from rfl,idx_some rfl hlow] at hpl
  unfold mkW idxOr at hpl
  have hD1:(P++[j]).filterMap (tickO c.2.2)=D++(tickO c.2.2 j).toList:=by
   rw [List.filterMap_append,← hD]
   cases h:tickO c.2.2 j <;> simp [h]
  have step:∃ ms1 ps1,r23_L0 (c,(l,(me,(next,js)))) ((),((P.length:Int),st49 c l me next (D++j :: R) ms rs ps su co))=some (.inl ((),(((P.length+1:Nat):Int),st49 c l me next (D++((tickO c.2.2 j).toList++R)) (ms++ms1) rs (ps++ps1) su co)))∧ms1.length≤10∧ps1.length≤1:=by
   unfold r23_L0 st49
   simp only [e1,e2,cond_true,Option.bind_some,hpl,inB_mid,Int.toNat_natCast,idx_mid,hwa,set_mid,hw]
   unfold tickO
   cases decide (c.2.2≤j.2.2.2.2.2+1) with
   | false =>
    refine ⟨[],[],?_,by simp,by simp⟩
    simp only [cond_false,Option.bind_some,Option.toList_some,List.append_nil,List.singleton_append]
    rfl
   | true =>
    obtain ⟨m1,p1,h1,h2,h3⟩:=late_is (c:=c) (l:=l) (me:=me) (next:=next) (A:=D) (B:=R) (j:=agedJ j) (ms:=ms) (rs:=rs) (ps:=ps) (su:=su) (co:=co) hjob.few (by
     rcases up_few hjob.asked hjob.aup with g | g
     ·show j.2.2.2.1.length≤10; omega
     ·show j.2.2.2.1.length≤10; rw [g]; simp) hs (fun t ht=>(hjob.task t ht).1.y0) (by omega) (by omega) (by simp; omega)
    refine ⟨m1,p1,?_,h2,h3⟩
    rw [show lateO (agedJ j)=lateO j from rfl] at h1
    unfold mkW agedJ at h1
    simp only [cond_true,h1,Option.bind_some]
  obtain ⟨ms1,ps1,s1,s2,s3⟩:=step
  rw [loopR_go,s1,goL_inl]
  obtain ⟨ms',ps',r1,r2,r3⟩:=ih (P++[j]) (D++(tickO c.2.2 j).toList) (ms++ms1) (ps++ps1) (by rw [hj]; simp) hD1.symm (by simp; omega) (by simp; omega)
  refine ⟨ms',ps',?_,r2,r3⟩
  rw [List.length_append,List.length_singleton,List.append_assoc] at r1
  rw [r1]
  cases h:tickO c.2.2 j <;> simp [h]
theorem tick_is {c:Conf} {l me:Int} {d:Desk} (hc:Cf.CfgOk c) (hd:DeskOk c d) (l0:0≤l) (l1:l<c.2.1.length) (m0:0≤me) (m1:me<c.1) :
 ∃ ms ps,r23 (c,(l,(me,d)))=some (((d.1,d.2.filterMap (tickO c.2.2)),(ms,([],(ps,(0,0))))),0)∧ms.length≤60∧ps.length≤6:=by
 obtain ⟨next,js⟩:=d
 have h0:=hc.s0
 have h1:=hc.s1
 have hck:=desk_ok (show c.1≤4 by omega) (Cf.check_ok hc) hd
 have how:=own_is (show c.1≤4 by omega) hd
 obtain ⟨ms,ps,e1,e2,e3⟩:=tick_loop (l:=l) (me:=me) (rs:=[]) (su:=0) (co:=0) hd (by omega) h0 js [] [] [] [] rfl rfl (by simp) (by simp)
 refine ⟨ms,ps,?_,e2,e3⟩
 simp only [List.length_nil,Int.natCast_zero,List.nil_append] at e1
 unfold st49 at e1
 unfold r23
 simp only [hck,how,Option.bind_some,decide_true,Bool.not_true,Bool.not_false,cond_true,cond_false,decide_eq_false (show ¬ l<0 by omega),decide_eq_false (show ¬ (c.2.1.length:Int)≤l by omega),decide_eq_false (show ¬ me<0 by omega),decide_eq_false (show ¬ c.1≤me by omega),e1]
theorem tickO_cases {p:Int} {j x:Job} (h:tickO p j=some x):(j.2.1=3∧x=ageJ j j.2.2.1)∨(j.2.2.2.2.2+1<p∧x=agedJ j):=by
 unfold tickO lateO at h
 by_cases g:p≤j.2.2.2.2.2+1
 ·rw [decide_eq_true g,cond_true] at h
  by_cases g2:j.2.1=3
  ·rw [decide_eq_true g2,cond_true] at h
   exact .inl ⟨g2,(Option.some.inj h).symm⟩
  ·rw [decide_eq_false g2,cond_false] at h; cases h
 ·rw [decide_eq_false g,cond_false] at h
  exact .inr ⟨by omega,(Option.some.inj h).symm⟩
theorem tick_ok {c:Conf} {d:Desk} {p:Int} (hp:p≤1000) (hd:DeskOk c d):DeskOk c (d.1,d.2.filterMap (tickO p)):=by
 refine ⟨hd.n0,hd.n1,Nat.le_trans (List.length_filterMap_le ..) hd.few,fun x hx=>?_,?_⟩
 ·obtain ⟨j,hj,h⟩:=List.mem_filterMap.1 hx
  have h':=hd.job j hj
  rcases tickO_cases h with ⟨-,rfl⟩ | ⟨g,rfl⟩
  ·exact job_age h' (by omega) (by omega)
  ·exact job_age h' (by have:=h'.g0; omega) (by omega)
 ·refine hd.up.filterMap _ fun a a' haa b hb b' hb'=>?_
  have e1:b.1=a.1:=by rcases tickO_cases hb with ⟨-,rfl⟩ | ⟨-,rfl⟩ <;> rfl
  have e2:b'.1=a'.1:=by rcases tickO_cases hb' with ⟨-,rfl⟩ | ⟨-,rfl⟩ <;> rfl
  omega
theorem tick_old {p k:Int} {js:List Job} (h:∀ j∈js,j.2.1=3∨k≤j.2.2.2.2.2):∀ j∈js.filterMap (tickO p),j.2.1=3∨(k+1≤j.2.2.2.2.2∧j.2.2.2.2.2<p):=by
 intro x hx
 obtain ⟨j,hj,h1⟩:=List.mem_filterMap.1 hx
 have:=h j hj
 rcases tickO_cases h1 with ⟨g,rfl⟩ | ⟨g,rfl⟩
 ·exact .inl g
 ·unfold agedJ
  simp only
  omega
def tells (j:Job):Bool:=decide (j.2.1=3)
theorem tick_tells {p:Int}:∀ js:List Job,((js.filterMap (tickO p)).filter tells).length=(js.filter tells).length
 | []=>rfl
 | j :: js=>by
  have ih:=tick_tells (p:=p) js
  rw [List.filterMap_cons]
  by_cases g:j.2.1=3
  ·have ht:tells j=true:=decide_eq_true g
   rw [List.filter_cons_of_pos ht,List.length_cons,← ih]
   unfold tickO lateO
   cases decide (p≤j.2.2.2.2.2+1) with
   | true =>
    rw [decide_eq_true g]
    simp only [cond_true]
    rw [List.filter_cons_of_pos (show tells (ageJ j j.2.2.1)=true from ht),List.length_cons]
   | false =>
    simp only [cond_false]
    rw [List.filter_cons_of_pos (show tells (agedJ j)=true from ht),List.length_cons]
  ·have ht : ¬ tells j=true:=by unfold tells; simp [g]
   rw [List.filter_cons_of_neg ht,← ih]
   unfold tickO lateO
   cases decide (p≤j.2.2.2.2.2+1) with
   | true =>
    rw [decide_eq_false g]
    simp only [cond_true,cond_false]
   | false =>
    simp only [cond_false]
    rw [List.filter_cons_of_neg (show ¬ tells (agedJ j)=true from ht)]
theorem tells_loop {d:Desk} (hl:d.2.length≤1000):loopR (r10_L0 d) ((0:Int),(0:Int))=some ((d.2.filter tells).length:Int):=by
 have h:=(fold_loop (body:=r10_L0 d) (xs:=d.2) (emb:=fun i s=>(s,i)) (out:=fun s=>s) (fun s x=>bif tells x then s+1 else s) (fun i s=>0≤s∧s≤i) (by omega) (fun i x s hx hs=>by
  obtain ⟨e1,e2,-⟩:=in_len hx
  have hil:=(List.getElem?_eq_some_iff.mp hx).1
  have hw:Go.IntKind.wrap .i64 (s+1)=s+1:=wrap_i64 (by unfold i64; omega)
  refine ⟨?_,by cases tells x <;> simp <;> omega,by cases tells x <;> simp <;> omega⟩
  unfold r10_L0 tells
  simp only [e1,e2,cond_true,Option.bind_some,hw]
  cases decide (x.2.1=3) <;> rfl) (fun s _=>by
  unfold r10_L0
  simp only [at_len,cond_false]) (s0:=(0:Int)) (by omega)).1
 rw [h]
 congr 1
 have hf:∀ (l:List Job) (s:Int),l.foldl (fun s x=>bif tells x then s+1 else s) s=s+((l.filter tells).length:Int):=fun l=>by
  induction l with
  | nil=>intro s; simp
  | cons a l ih =>
   intro s
   rw [List.foldl_cons,ih]
   cases h:tells a with
   | true=>rw [List.filter_cons_of_pos h]; simp; omega
   | false=>rw [List.filter_cons_of_neg (by simp [h])]; simp
 rw [hf]; omega
theorem tickEnds {a:Int×List Raw} (h1:i64 a.1) (h2:∀ w∈a.2,Cf.RawOk w):r10 a=some true:=by
 obtain ⟨n,e1,n1,n2⟩:=two_is h1
 have hcf:=two_ok n1 n2
 have hn0:(0:Int)<(two1 n).1:=by show 0<n; omega
 obtain ⟨d,e3,hd,hnx⟩:=desk_made (most:=30) (l:=1) (me:=0) hcf (by omega) two_l (by omega) hn0 h2 (by omega)
 have e3':r14 (two1 n,((1:Int),((0:Int),(a.2,(30:Int)))))=some d:=e3
 have h4:(two1 n).1≤4:=by show n≤4; omega
 have hck:=desk_ok h4 (Cf.check_ok hcf) hd
 have hfew:=hd.few
 have hl0:=tells_loop (d:=d) (by omega)
 have hd1:=tick_ok (p:=3) (by omega) hd
 have hd2:=tick_ok (p:=3) (by omega) hd1
 have hd3:=tick_ok (p:=3) (by omega) hd2
 obtain ⟨ma,pa,ta,-⟩:=tick_is (l:=1) (me:=0) hcf hd (by omega) two_l (by omega) hn0
 obtain ⟨mb,pb,tb,-⟩:=tick_is (l:=1) (me:=0) hcf hd1 (by omega) two_l (by omega) hn0
 obtain ⟨mc,pc,tc,-⟩:=tick_is (l:=1) (me:=0) hcf hd2 (by omega) two_l (by omega) hn0
 simp only at ta tb tc hd1 hd2 hd3
 have o1:=tick_old (p:=3) (k:=0) (js:=d.2) (fun j hj=>.inr (hd.job j hj).g0)
 have o2:=tick_old (p:=3) (k:=1) (js:=d.2.filterMap (tickO 3)) (fun j hj=>by have:=o1 j hj; omega)
 have o3:=tick_old (p:=3) (k:=2) (js:=(d.2.filterMap (tickO 3)).filterMap (tickO 3)) (fun j hj=>by have:=o2 j hj; omega)
 have hall:∀ j∈((d.2.filterMap (tickO 3)).filterMap (tickO 3)).filterMap (tickO 3),j.2.1=3:=fun j hj=>by have:=o3 j hj; omega
 have hlen:((((d.2.filterMap (tickO 3)).filterMap (tickO 3)).filterMap (tickO 3)).length:Int)=((d.2.filter tells).length:Int):=by
  rw [← tick_tells (p:=3) d.2,← tick_tells (p:=3) (d.2.filterMap (tickO 3)),← tick_tells (p:=3) ((d.2.filterMap (tickO 3)).filterMap (tickO 3)),List.filter_eq_self.2 (fun j hj=>show tells j=true from decide_eq_true (hall j hj))]
 generalize ((d.2.filterMap (tickO 3)).filterMap (tickO 3)).filterMap (tickO 3)=D3 at *
 generalize (d.2.filterMap (tickO 3)).filterMap (tickO 3)=D2 at *
 generalize d.2.filterMap (tickO 3)=D1 at *
 have hw0:Go.IntKind.wrap .i64 ((0:Int)+0)=0:=rfl
 have hw1:Go.IntKind.wrap .i64 ((0:Int)+1)=1:=rfl
 have hw2:Go.IntKind.wrap .i64 ((1:Int)+1)=2:=rfl
 have hw3:Go.IntKind.wrap .i64 ((2:Int)+1)=3:=rfl
 have hl1:loopR (r10_L1 (two1 n)) ((),((0:Int),d))=some (.inl ((),(d.1,D3))):=by
  have b0:r10_L1 (two1 n) ((),((0:Int),d))=some (.inl ((),((1:Int),(d.1,D1)))):=by
   unfold r10_L1
   simp only [ta,decide_eq_true (show (0:Int)<3 by omega),cond_true,Option.bind_some,decide_true,Bool.not_true,Bool.not_false,cond_false,hw0,hw1]
  have b1:r10_L1 (two1 n) ((),((1:Int),(d.1,D1)))=some (.inl ((),((2:Int),(d.1,D2)))):=by
   unfold r10_L1
   simp only [tb,decide_eq_true (show (1:Int)<3 by omega),cond_true,Option.bind_some,decide_true,Bool.not_true,Bool.not_false,cond_false,hw0,hw2]
  have b2:r10_L1 (two1 n) ((),((2:Int),(d.1,D2)))=some (.inl ((),((3:Int),(d.1,D3)))):=by
   unfold r10_L1
   simp only [tc,decide_eq_true (show (2:Int)<3 by omega),cond_true,Option.bind_some,decide_true,Bool.not_true,Bool.not_false,cond_false,hw0,hw3]
  have b3:r10_L1 (two1 n) ((),((3:Int),(d.1,D3)))=some (.inr (.inl ((),(d.1,D3)))):=by
   unfold r10_L1
   simp only [decide_eq_false (show ¬ (3:Int)<3 by omega),cond_false]
  rw [loopR_go,b0,goL_inl,loopR_go,b1,goL_inl,loopR_go,b2,goL_inl,loopR_go,b3,goL_inr]
 have hl2:loopR (r10_L2 ((),(d.1,D3))) (0:Int)=some (.inl ()):=by
  refine all_loop (xs:=D3) (by have:=hd3.few; simp only at this; omega) (fun i x hx=>?_) ?_
  ·obtain ⟨q1,q2,-⟩:=in_len hx
   unfold r10_L2
   simp only [q1,q2,cond_true,Option.bind_some,hall x (List.mem_of_getElem? hx),decide_true,Bool.not_true,cond_false]
  ·unfold r10_L2
   simp only [at_len,cond_false]
 unfold r10
 simp only [keeps_tells,e1,Option.bind_some,Bool.not_true,cond_false,e3',hl0,hck,decide_true,hl1,Sum.elim_inl,hl2,hlen]
end Go.Hv
