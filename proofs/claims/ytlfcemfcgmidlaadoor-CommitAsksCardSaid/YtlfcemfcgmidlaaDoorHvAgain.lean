import Derived.Test.YtlfcemfcgmidlaaDoorHvCommit
namespace Go.Hv
open Go.RowKit Go.Proofs Go.V
def chkM (c:Conf) (me n:Int) (t:Task):Msg:=(3,(me,(Int.tmod t.2.2.1 c.1,((me,n),(t.2.1,(t.2.2.1,(0,(t.2.2.2.2.1,(0,(false,0))))))))))
def asksB (t:Task):Bool:=!(t.1 || t.2.2.2.2.2.2.2)
def st49 (c:Conf) (l me next:Int) (js:List Job) (ms:List Msg) (rs:List Rec) (ps:List Rep) (su co:Int):=(c.1,(c.2.1,(c.2.2,(l,(me,(next,(js,(ms,(rs,(ps,(su,co)))))))))))
theorem again_is {c:Conf} {l me next:Int} {A B:List Job} {j:Job} {ms:List Msg} {rs:List Rec} {ps:List Rep} {su co:Int} (hf:j.2.2.1.length≤10) (hs:c.1≠0) (hm:ms.length≤900) :
 loopR (r37_L0 j) ((),((((),((),())),A.length),((),((((),((),())),A.length),(false,(((),((),(A.length,()))),((0:Int),st49 c l me next (A++j :: B) ms rs ps su co))))))) =
  some ((),((((),((),())),A.length),(j.2.2.1.any asksB,st49 c l me next (A++j :: B) (ms++(j.2.2.1.filter asksB).map (chkM c me j.1)) rs ps su co))):=by
 have hz:decide (c.1=0)=false:=decide_eq_false hs
 have h4:=(fold_loop (body:=r37_L0 j) (xs:=j.2.2.1) (emb:=fun i s=>((),((((),((),())),A.length),((),((((),((),())),A.length),(s.1,(((),((),(A.length,()))),(i,st49 c l me next (A++j :: B) s.2 rs ps su co)))))))) (out:=fun s=>((),((((),((),())),A.length),(s.1,st49 c l me next (A++j :: B) s.2 rs ps su co))))
  (fun s t=>bif asksB t then (true,s.2++[chkM c me j.1 t]) else s) (fun i s=>s.2.length≤ms.length+i∧i≤10) (by omega) (fun i t s ht hs'=>by
   obtain ⟨e1,-,e3,e4⟩:=in_len ht
   have hil:=(List.getElem?_eq_some_iff.mp ht).1
   obtain ⟨b,s⟩:=s
   simp only at hs'
   obtain ⟨w,tl,ty,tv,tn,ta,td,tu⟩:=t
   refine ⟨?_,?_,by omega⟩
   ·unfold r37_L0 asksB chkM st49
    simp only [e1,idx_mid,e3,cond_true,Int.toNat_natCast,e4,Option.bind_some]
    cases w with
    | true=>rfl
    | false =>
     cases tu with
     | true=>rfl
     | false =>
      simp only [Bool.not_false,Bool.or_self,cond_true,cond_false,Option.bind_some,hz,roomOk_true (show (2 * (s.length+1)+192) * 96≤281474976710656 by omega),app_eq,wrap_end s _ (show s.length≤1000000 by omega),inB_end,Int.toNat_natCast,idx_end,set_end]
   ·cases asksB (w,(tl,(ty,(tv,(tn,(ta,(td,tu))))))) with
    | true=>simp; omega
    | false=>simp; omega) (fun s _=>by
   unfold r37_L0
   simp only [at_len,cond_false]) (s0:=(false,ms)) ⟨by simp,by omega⟩).1
 have hfold:∀ (l:List Task) (b:Bool) (m:List Msg),l.foldl (fun s t=>bif asksB t then (true,s.2++[chkM c me j.1 t]) else s) (b,m)=(b || l.any asksB,m++(l.filter asksB).map (chkM c me j.1)):=fun l=>by
  induction l with
  | nil=>intro b m; simp
  | cons a l ih =>
   intro b m
   rw [List.foldl_cons]
   cases h:asksB a with
   | true=>rw [cond_true,ih]; simp [h]
   | false=>rw [cond_false,ih]; simp [h]
 rw [hfold] at h4
 simpa using h4
def chkJob (j:Job):Job:=(j.1,(2,(j.2.2.1,(j.2.2.2.1,(j.2.2.2.2.1,0)))))
theorem committing_ask {c:Conf} {l me next:Int} {A B:List Job} {j:Job} {ms:List Msg} {rs:List Rec} {ps:List Rep} {su co:Int} (hf:j.2.2.1.length≤10) (hs:c.1≠0) (hm:ms.length≤900) (ha:j.2.2.1.any asksB=true) :
 r37 (mkW c l me next (A++j :: B) ms rs ps su co,(A.length:Int))=some (mkW c l me next (A++chkJob j :: B) (ms++(j.2.2.1.filter asksB).map (chkM c me j.1)) rs ps j.1 co):=by
 have h:=again_is (c:=c) (l:=l) (me:=me) (next:=next) (A:=A) (B:=B) (j:=j) (ms:=ms) (rs:=rs) (ps:=ps) (su:=j.1) (co:=co) hf hs hm
 unfold st49 at h
 unfold r37
 rw [show (mkW c l me next (A++j :: B) ms rs ps su co,(A.length:Int)).1.2.2.2.1.2=A++j :: B from rfl]
 simp only [inB_mid,Int.toNat_natCast,idx_mid,Option.bind_some,cond_true]
 unfold mkW
 simp only [h,ha,Option.bind_some,cond_true,idx_mid,set_mid]
 rfl
end Go.Hv
