import Derived.Test.YtlfcemfcgmidlaaDoorHvAns
namespace Go.Hv
open Go.RowKit Go.Proofs Go.V
def hitB (m:Msg) (t:Task):Bool:=!t.1 && (decide (t.2.1=m.2.2.2.2.1) && (decide (t.2.2.1=m.2.2.2.2.2.1) && decide (t.2.2.2.2.1=m.2.2.2.2.2.2.2.1)))
def updT (m:Msg) (t:Task):Task:=bif hitB m t then (t.1,(t.2.1,(t.2.2.1,(t.2.2.2.1,(t.2.2.2.2.1,(t.2.2.2.2.2.1,(t.2.2.2.2.2.2.1,t.2.2.2.2.2.2.2 || m.2.2.2.2.2.2.2.2.2.1))))))) else t
def withT (j:Job) (ts:List Task):Job:=(j.1,(j.2.1,(ts,j.2.2.2)))
theorem sure_step {c:Conf} {l me next:Int} {A B:List Job} {j:Job} {ms:List Msg} {rs:List Rec} {ps:List Rep} {su co:Int} {m:Msg} {a:Work×(Int×Msg)} (ha:a.2.2=m) {n0:Job} {P R:List Task} {t:Task} {mine left:Bool} (hl:n0.2.2.1.length=(P++t :: R).length) (hP:P.length≤100) :
 r44_L0 n0 a ((),((((),((),())),A.length),(mine,(left,((P.length:Int),st49 c l me next (A++withT j (P++t :: R) :: B) ms rs ps su co))))) =
  some (.inl ((),((((),((),())),A.length),((mine || hitB m t),((left || asksB (updT m t)),(((P.length+1:Nat):Int),st49 c l me next (A++withT j (P++updT m t :: R) :: B) ms rs ps su co)))))):=by
 have hw:Go.IntKind.wrap .i64 ((P.length:Int)+1)=((P.length+1:Nat):Int):=by rw [wrap_i64 (by unfold i64; omega)]; omega
 have hlt:decide ((P.length:Int)<(n0.2.2.1.length:Int))=true:=decide_eq_true (by rw [hl]; simp; omega)
 obtain ⟨n,st,ts,asd,k,g⟩:=j
 obtain ⟨w,tl,ty,tv,tn,ta,td,tu⟩:=t
 obtain ⟨mk,mf,mt,mx,ml,my,mv,mn,ma,mys,mc⟩:=m
 unfold r44_L0 st49 withT
 simp only [hlt,cond_true,idx_mid,Option.bind_some,inB_mid,Int.toNat_natCast,hw,ha]
 unfold updT hitB asksB
 cases w with
 | true =>
  cases left <;> cases mine <;> simp only [Bool.not_true,Bool.not_false,cond_true,cond_false,Option.bind_some,idx_mid,Bool.false_and,Bool.or_false,Bool.true_or]
 | false =>
  simp only [Bool.not_false,cond_true,Bool.true_and]
  cases decide (tl=ml) with
  | false=>cases left <;> cases mine <;> simp only [Bool.not_true,Bool.not_false,cond_true,cond_false,Option.bind_some,idx_mid,Bool.false_and,Bool.or_false,Bool.true_or,Bool.false_or]
  | true =>
   simp only [cond_true,Bool.true_and]
   cases decide (ty=my) with
   | false=>cases left <;> cases mine <;> simp only [Bool.not_true,Bool.not_false,cond_true,cond_false,Option.bind_some,idx_mid,Bool.false_and,Bool.or_false,Bool.true_or,Bool.false_or]
   | true =>
    simp only [cond_true,Bool.true_and,Option.bind_some]
    cases decide (tn=mn) with
    | false=>cases left <;> cases mine <;> simp only [Bool.not_true,Bool.not_false,cond_true,cond_false,Option.bind_some,idx_mid,Bool.or_false,Bool.true_or,Bool.false_or]
    | true =>
     cases tu <;> cases left <;> cases mine <;> simp only [Bool.not_true,Bool.not_false,cond_true,cond_false,Option.bind_some,idx_mid,set_mid,Bool.or_false,Bool.true_or,Bool.false_or,Bool.or_true]
theorem sure_loop {c:Conf} {l me next:Int} {A B:List Job} {j:Job} {ms:List Msg} {rs:List Rec} {ps:List Rep} {su co:Int} {m:Msg} {a:Work×(Int×Msg)} (ha:a.2.2=m) {n0:Job}:∀ (R P:List Task) (mine left:Bool),n0.2.2.1.length=(P++R).length→(P++R).length≤100 →
 loopR (r44_L0 n0 a) ((),((((),((),())),A.length),(mine,(left,((P.length:Int),st49 c l me next (A++withT j (P++R) :: B) ms rs ps su co))))) =
  some ((),((((),((),())),A.length),((mine || R.any (hitB m)),((left || (R.map (updT m)).any asksB),st49 c l me next (A++withT j (P++R.map (updT m)) :: B) ms rs ps su co)))):=by
 intro R
 induction R with
 | nil =>
  intro P mine left hl hP
  rw [List.append_nil] at hl
  rw [loopR_go]
  have:r44_L0 n0 a ((),((((),((),())),A.length),(mine,(left,((P.length:Int),st49 c l me next (A++withT j (P++[]) :: B) ms rs ps su co)))))=some (.inr ((),((((),((),())),A.length),(mine,(left,st49 c l me next (A++withT j (P++[]) :: B) ms rs ps su co))))):=by
   unfold r44_L0
   simp only [hl,at_len,cond_false]
  rw [this,goL_inr]
  simp
 | cons t R ih =>
  intro P mine left hl hP
  have hPl:P.length≤100:=by simp at hP; omega
  rw [loopR_go,sure_step ha hl hPl,goL_inl]
  have h:=ih (P++[updT m t]) (mine || hitB m t) (left || asksB (updT m t)) (by rw [hl]; simp) (by simp at hP ⊢; omega)
  simp only [List.length_append,List.length_singleton,List.append_assoc,List.singleton_append] at h
  rw [h]
  simp only [List.any_cons,List.map_cons,Bool.or_assoc]
theorem sure_is {c:Conf} {l me next:Int} {A B:List Job} {j:Job} {ms:List Msg} {rs:List Rec} {ps:List Rep} {su co:Int} {m:Msg} (hf:j.2.2.1.length≤100) (hs:c.1≠0) (hp:ps.length≤900) :
 r44 (mkW c l me next (A++j :: B) ms rs ps su co,((A.length:Int),m)) =
  bif decide (j.2.1=2) && decide (m.2.1=Int.tmod m.2.2.2.2.2.1 c.1) then
   bif j.2.2.1.any (hitB m) then
    bif !m.2.2.2.2.2.2.2.2.2.1 then r38 (mkW c l me next (A++withT j (j.2.2.1.map (updT m)) :: B) ms rs (ps++[(me,(4,(j.1,(0,(0,11)))))]) su co,(A.length:Int))
    else bif !((j.2.2.1.map (updT m)).any asksB) then r66 (mkW c l me next (A++withT j (j.2.2.1.map (updT m)) :: B) ms rs ps su co,(A.length:Int))
    else some (mkW c l me next (A++withT j (j.2.2.1.map (updT m)) :: B) ms rs ps su co)
   else some (mkW c l me next (A++withT j (j.2.2.1.map (updT m)) :: B) ms rs ps su co)
  else some (mkW c l me next (A++j :: B) ms rs ps su co):=by
 have hz:decide (c.1=0)=false:=decide_eq_false hs
 have hr1:roomOk false ps.length 1 48=true:=roomOk_true (by omega)
 have h:=sure_loop (c:=c) (l:=l) (me:=me) (next:=next) (A:=A) (B:=B) (j:=j) (ms:=ms) (rs:=rs) (ps:=ps) (su:=su) (co:=co) (m:=m) (a:=(mkW c l me next (A++j :: B) ms rs ps su co,((A.length:Int),m))) rfl (n0:=j) j.2.2.1 [] false false rfl (by simpa using hf)
 rw [List.nil_append,show withT j j.2.2.1=j from rfl,Bool.false_or,Bool.false_or,List.nil_append] at h
 simp only [List.length_nil,Int.natCast_zero] at h
 unfold st49 mkW at h
 unfold r44 mkW
 simp only [inB_mid,Int.toNat_natCast,idx_mid,Option.bind_some,cond_true]
 cases decide (j.2.1=2) with
 | false=>rfl
 | true =>
  simp only [Bool.not_true,Bool.not_false,cond_true,hz,cond_false,Option.bind_some,Bool.true_and]
  cases decide (m.2.1=Int.tmod m.2.2.2.2.2.1 c.1) with
  | false=>rfl
  | true =>
   simp only [Bool.not_true,cond_false,cond_true,h,Option.bind_some]
   cases j.2.2.1.any (hitB m) with
   | false=>rfl
   | true =>
    simp only [Bool.not_true,cond_false,cond_true]
    cases m.2.2.2.2.2.2.2.2.2.1 with
    | false =>
     simp only [Bool.not_false,cond_true,idx_mid,Option.bind_some,hr1,app_eq]
     rw [show (withT j (j.2.2.1.map (updT m))).1=j.1 from rfl]
     cases r38 _ <;> rfl
    | true =>
     simp only [Bool.not_true,cond_false]
     cases (j.2.2.1.map (updT m)).any asksB with
     | true=>rfl
     | false =>
      simp only [Bool.not_false,cond_true]
      cases r66 _ <;> rfl
end Go.Hv
