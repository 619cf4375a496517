import Derived.Test.YtlfcemfcgmidlaaDoorHvEndC
namespace Go.Hv
open Go.RowKit Go.Proofs Go.V
structure SitesOf (c:Conf) (l:Int) (j:Job) (Q:List Int):Prop where
 few:Q.length≤10
 up:Q.Pairwise fun x y=>x<y
 rng:∀ s∈Q,0≤s∧s<c.1
 mem:∀ s,s∈Q↔∃ t∈j.2.2.1,t.2.1=l∧siteOf c t=s
def decM (me n:Int) (yes:Bool) (s:Int):Msg:=(4,(me,(s,((me,n),(0,(0,(0,(0,(0,(yes,0))))))))))
theorem fold_app {β γ:Type} (f:β→γ):∀ (l:List β) (m:List γ),l.foldl (fun s x=>s++[f x]) m=m++l.map f
 | [],m=>by simp
 | a :: l,m=>by rw [List.foldl_cons,fold_app f l]; simp
theorem del_mid {A B:List Job} {j:Job} (hl:(A++j :: B).length≤1000):r103 (A++j :: B,((A.length:Int),Go.IntKind.wrap .i64 ((A.length:Int)+1)))=some (A++B):=by
 have hA:A.length+1≤(A++j :: B).length:=by simp
 have hw:Go.IntKind.wrap .i64 ((A.length:Int)+1)=((A.length+1:Nat):Int):=by rw [wrap_i64 (by unfold i64; omega)]; omega
 unfold r103 delR
 rw [hw]
 simp only [decide_eq_true (show (0:Int)≤(A.length:Int) by omega),decide_eq_true (show (A.length:Int)≤((A.length+1:Nat):Int) by omega),decide_eq_true (show ((A.length+1:Nat):Int)≤((A++j :: B).length:Int) by omega),Bool.and_self,cond_true,Int.toNat_natCast,app_eq]
 congr 1
 rw [List.take_left,show A++j :: B=(A++[j])++B by simp,List.drop_left' (by simp)]
theorem end_is {c:Conf} {l me next:Int} {A B:List Job} {j:Job} {ms:List Msg} {rs:List Rec} {ps:List Rep} {su co:Int} (hf:j.2.2.1.length≤10) (hs:1≤c.1) (hk:∀ t∈j.2.2.1,0≤t.2.2.1) (hm:ms.length≤900) (hj:(A++j :: B).length≤1000) :
 ∃ Q,SitesOf c l j Q∧r38 (mkW c l me next (A++j :: B) ms rs ps su co,(A.length:Int))=some (mkW c l me next (A++B) (ms++Q.map (decM me j.1 false)) rs ps su co):=by
 obtain ⟨out,Q,y,h1,h2,h3,q1,q2,q3,q4⟩:=fewE (c:=c) (l:=l) (me:=me) (next:=next) (A:=A) (B:=B) (j:=j) (ms:=ms) (rs:=rs) (ps:=ps) (su:=su) (co:=co) hf hs hk
 refine ⟨Q,⟨q1,q2,q3,q4⟩,?_⟩
 have h4:=(fold_loop (body:=r38_L4 ((),Q) j) (xs:=Q) (emb:=fun i s=>((),(i,(c.1,(c.2.1,(c.2.2,(l,(me,(next,(A++j :: B,(s,(rs,(ps,(su,co)))))))))))))) (out:=fun s=>((),(c.1,(c.2.1,(c.2.2,(l,(me,(next,(A++j :: B,(s,(rs,(ps,(su,co)))))))))))))
  (fun s x=>s++[decM me j.1 false x]) (fun i s=>s.length=ms.length+i∧i≤10) (by omega) (fun i x s hx hs'=>by
   obtain ⟨e1,-,e3,e4⟩:=in_len hx
   have hil:=(List.getElem?_eq_some_iff.mp hx).1
   refine ⟨?_,by simp; omega,by omega⟩
   unfold r38_L4
   simp only [e1,e3,cond_true,Int.toNat_natCast,e4,Option.bind_some,roomOk_true (show (2 * (s.length+1)+192) * 96≤281474976710656 by omega),app_eq,wrap_end s _ (by omega),inB_end]
   rfl) (fun s _=>by
   unfold r38_L4
   simp only [at_len,cond_false]) (s0:=ms) ⟨rfl,by omega⟩).1
 rw [fold_app] at h4
 have hd:=del_mid hj
 unfold r38
 rw [show (mkW c l me next (A++j :: B) ms rs ps su co,(A.length:Int)).1.2.2.2.1.2=A++j :: B from rfl]
 simp only [inB_mid,Int.toNat_natCast,idx_mid,Option.bind_some,cond_true,h1,h2,h3]
 unfold mkW
 simp only [h4,Option.bind_some,hd]
theorem ints_clone {l:List Int} (h:l.length≤10):r99 l=some l:=nilR_clone (by omega)
def telJob (j:Job) (Q:List Int):Job:=(j.1,(3,(j.2.2.1,(Q,(j.2.2.2.2.1,0)))))
theorem find4 {c:Conf} {l me next:Int} {A B:List Job} {j:Job} {ms:List Msg} {rs:List Rec} {ps:List Rep} {su co:Int} (hf:j.2.2.1.length≤10) :
 (Option.bind (loopR (r66_L4 j ((),((((),((),())),A.length),(c.1,(c.2.1,(c.2.2,(l,(me,(next,(A++j :: B,(ms,(rs,(ps,(su,co)))))))))))))) (0:Int)) fun (q:(Unit ⊕ Int))=>Sum.elim (fun (_:Unit)=>some (-1:Int)) (fun (v:Int)=>some v) q)=some (idxOr (j.2.2.1.findIdx? fun t=>t.1)) :=
 find_is (p:=fun t:Task=>t.1) (by omega) (fun i x hx=>by
  obtain ⟨e1,-,e3,e4⟩:=in_len hx
  unfold r66_L4
  simp only [e1,cond_true,idx_mid,Option.bind_some,e3,Int.toNat_natCast,e4]
  cases x.1 <;> rfl) (by
  unfold r66_L4
  simp only [at_len,cond_false])
theorem tell5 {c:Conf} {l me next:Int} {A B:List Job} {j:Job} {ms:List Msg} {rs:List Rec} {ps:List Rep} {su co:Int} {Q:List Int} (hQ:j.2.2.2.1=Q) (hq:Q.length≤10) (hm:ms.length≤900) :
 loopR (r66_L5 j j) ((),((),(((),((),(A.length,()))),((0:Int),(c.1,(c.2.1,(c.2.2,(l,(me,(next,(A++j :: B,(ms,(rs,(ps,(su,co)))))))))))))))=some ((),(c.1,(c.2.1,(c.2.2,(l,(me,(next,(A++j :: B,(ms++Q.map (decM me j.1 true),(rs,(ps,(su,co)))))))))))):=by
 have h4:=(fold_loop (body:=r66_L5 j j) (xs:=j.2.2.2.1) (emb:=fun i s=>((),((),(((),((),(A.length,()))),(i,(c.1,(c.2.1,(c.2.2,(l,(me,(next,(A++j :: B,(s,(rs,(ps,(su,co)))))))))))))))) (out:=fun s=>((),(c.1,(c.2.1,(c.2.2,(l,(me,(next,(A++j :: B,(s,(rs,(ps,(su,co)))))))))))))
  (fun s x=>s++[decM me j.1 true x]) (fun i s=>s.length=ms.length+i∧i≤10) (by rw [hQ]; omega) (fun i x s hx hs'=>by
   obtain ⟨e1,-,e3,e4⟩:=in_len hx
   have hil:=(List.getElem?_eq_some_iff.mp hx).1
   rw [hQ] at hil
   refine ⟨?_,by simp; omega,by omega⟩
   unfold r66_L5
   simp only [e1,idx_mid,e3,cond_true,Int.toNat_natCast,e4,Option.bind_some,roomOk_true (show (2 * (s.length+1)+192) * 96≤281474976710656 by omega),app_eq,wrap_end s _ (show s.length≤1000000 by omega),inB_end,set_end]
   rfl) (fun s _=>by
   unfold r66_L5
   simp only [at_len,cond_false]) (s0:=ms) ⟨rfl,by omega⟩).1
 rw [fold_app,hQ] at h4
 exact h4
theorem commit_is {c:Conf} {l me next:Int} {A B:List Job} {j:Job} {ms:List Msg} {rs:List Rec} {ps:List Rep} {su co:Int} (hf:j.2.2.1.length≤10) (hs:1≤c.1) (hk:∀ t∈j.2.2.1,0≤t.2.2.1) (hm:ms.length≤900) (hr:rs.length≤900) (hp:ps.length≤900) (hj:(A++j :: B).length≤1000) :
 ∃ Q,SitesOf c l j Q∧r66 (mkW c l me next (A++j :: B) ms rs ps su co,(A.length:Int))=some (bif decide ((Q.length:Int)=0) then mkW c l me next (A++B) ms rs (ps++[(me,(4,(j.1,(0,(0,0)))))]) su j.1 else
  mkW c l me next (A++telJob j Q :: B) (ms++Q.map (decM me j.1 true)) (bif j.2.2.1.any (fun t=>t.1) then rs++[(3,((me,j.1),(0,(0,(0,(false,Q))))))] else rs) (ps++[(me,(4,(j.1,(0,(0,0)))))]) su j.1):=by
 obtain ⟨out,Q,y,h1,h2,h3,q1,q2,q3,q4⟩:=fewC (c:=c) (l:=l) (me:=me) (next:=next) (A:=A) (B:=B) (j:=j) (ms:=ms) (rs:=rs) (ps:=ps) (su:=su) (co:=co) hf hs hk
 refine ⟨Q,⟨q1,q2,q3,q4⟩,?_⟩
 have hd:=del_mid hj
 have hcl:=ints_clone q1
 have hr1:roomOk false ps.length 1 48=true:=roomOk_true (by omega)
 have hr2:roomOk false rs.length 1 80=true:=roomOk_true (by omega)
 unfold r66
 rw [show (mkW c l me next (A++j :: B) ms rs ps su co,(A.length:Int)).1.2.2.2.1.2=A++j :: B from rfl]
 simp only [inB_mid,Int.toNat_natCast,idx_mid,Option.bind_some,cond_true,h1,h2,h3]
 unfold mkW
 simp only [hr1,cond_true,Option.bind_some,app_eq]
 cases decide ((Q.length:Int)=0) with
 | true=>simp only [cond_true,hd,Option.bind_some]
 | false =>
  have h4:=find4 (c:=c) (l:=l) (me:=me) (next:=next) (A:=A) (B:=B) (j:=j) (ms:=ms) (rs:=rs) (ps:=ps++[(me,(4,(j.1,(0,(0,0)))))]) (su:=su) (co:=j.1) hf
  simp only [cond_false,idx_mid,Option.bind_some,h4,idxOr_any]
  cases j.2.2.1.any (fun t=>t.1) with
  | true =>
   have h5:=tell5 (c:=c) (l:=l) (me:=me) (next:=next) (A:=A) (B:=B) (j:=telJob j Q) (ms:=ms) (rs:=rs++[(3,((me,j.1),(0,(0,(0,(false,Q))))))]) (ps:=ps++[(me,(4,(j.1,(0,(0,0)))))]) (su:=su) (co:=j.1) (Q:=Q) rfl q1 hm
   simp only [cond_true,hcl,hr2,Option.bind_some,set_mid,idx_mid]
   unfold telJob at h5
   simp only [h5,Option.bind_some]
   rfl
  | false =>
   have h5:=tell5 (c:=c) (l:=l) (me:=me) (next:=next) (A:=A) (B:=B) (j:=telJob j Q) (ms:=ms) (rs:=rs) (ps:=ps++[(me,(4,(j.1,(0,(0,0)))))]) (su:=su) (co:=j.1) (Q:=Q) rfl q1 hm
   simp only [cond_false,Option.bind_some,set_mid,idx_mid]
   unfold telJob at h5
   simp only [h5,Option.bind_some]
   rfl
end Go.Hv
