import Derived.Test.YtlfcemfcgmidlaaDoorHvAgain
namespace Go.Hv
open Go.RowKit Go.Proofs Go.V
def fitB (c:Conf) (t:Task) (m:Msg) (wr:Bool):Bool :=
 !t.2.2.2.2.2.2.1 && (decide (t.2.2.2.2.2.1=m.2.2.2.2.2.2.2.2.1) && (decide (t.1=wr) && (decide (t.2.2.1=m.2.2.2.2.2.1) && ((wr || decide (t.2.1=m.2.2.2.2.1)) && decide (m.2.1=Int.tmod t.2.2.1 c.1)))))
def ansRep (me:Int) (j:Job) (m:Msg) (wr:Bool):Rep:=(me,((bif wr then 3 else 2),(j.1,(m.2.2.2.2.2.1,(m.2.2.2.2.2.2.1,m.2.2.2.2.2.2.2.2.2.2)))))
def doneT (t:Task) (m:Msg) (wr:Bool):Task:=(t.1,(t.2.1,(t.2.2.1,((bif wr then t.2.2.2.1 else m.2.2.2.2.2.2.1),((bif wr then t.2.2.2.2.1 else m.2.2.2.2.2.2.2.1),(t.2.2.2.2.2.1,(true,t.2.2.2.2.2.2.2)))))))
def ageJ (j:Job) (ts:List Task):Job:=(j.1,(j.2.1,(ts,(j.2.2.2.1,(j.2.2.2.2.1,0)))))
section
variable {c:Conf} {l me next:Int} {A B:List Job} {j:Job} {ms:List Msg} {rs:List Rec} {ps:List Rep} {su co:Int} {m:Msg} {wr:Bool}
theorem okB_end {T:List Task} {t:Task}:okB none (some (T.length:Int)) none (T++[t]).length=true:=by
 show (decide (0≤(T.length:Int)) && decide ((T.length:Int)≤((T++[t]).length:Nat)))=true
 rw [decide_eq_true (show (0:Int)≤(T.length:Int) by omega),decide_eq_true (by simp; omega)]; rfl
theorem mid_end {T:List Task} {t:Task}:midL (T++[t]) 0 T.length=T:=by
 unfold midL
 rw [List.drop_zero,List.take_left]
theorem ans_is {T:List Task} {t:Task} (ht:j.2.2.1=T++[t]) (hT:T.length≤100) (hs:c.1≠0) (hp:ps.length≤900) :
 r43 (mkW c l me next (A++j :: B) ms rs ps su co,((A.length:Int),(m,wr))) =
  bif fitB c t m wr then
   bif !(decide (m.2.2.2.2.2.2.2.2.2.2=0)) then
    bif wr then r38 (mkW c l me next (A++ageJ j (T++[t]) :: B) ms rs (ps++[ansRep me j m wr]) su co,(A.length:Int))
    else some (mkW c l me next (A++ageJ j T :: B) ms rs (ps++[ansRep me j m wr]) su co)
   else some (mkW c l me next (A++ageJ j (T++[doneT t m wr]) :: B) ms rs (ps++[ansRep me j m wr]) su co)
  else some (mkW c l me next (A++j :: B) ms rs ps su co):=by
 have hz:decide (c.1=0)=false:=decide_eq_false hs
 have hr1:roomOk false ps.length 1 48=true:=roomOk_true (by omega)
 have hw:=wrap_end T t (show T.length≤1000000 by omega)
 obtain ⟨n,st,ts,asd,k,g⟩:=j
 simp only at ht
 subst ht
 obtain ⟨w,tl,ty,tv,tn,ta,td,tu⟩:=t
 obtain ⟨mk,mf,mt,mx,ml,my,mv,mn,ma,mys,mc⟩:=m
 unfold r43
 rw [show (mkW c l me next (A++(n,(st,(T++[(w,(tl,(ty,(tv,(tn,(ta,(td,tu)))))))],(asd,(k,g))))) :: B) ms rs ps su co,((A.length:Int),((mk,(mf,(mt,(mx,(ml,(my,(mv,(mn,(ma,(mys,mc)))))))))),wr))).1.2.2.2.1.2=A++(n,(st,(T++[(w,(tl,(ty,(tv,(tn,(ta,(td,tu)))))))],(asd,(k,g))))) :: B from rfl]
 simp only [inB_mid,Int.toNat_natCast,idx_mid,Option.bind_some,cond_true,hw,decide_eq_false (show ¬ (T.length:Int)<0 by omega),cond_false]
 unfold mkW fitB ansRep doneT ageJ
 simp only [hz,hr1,cond_true,cond_false,Option.bind_some,app_eq,idx_mid,set_mid,okB_end,mid_end,beq_self,Bool.not_not]
 cases td with
 | true=>rfl
 | false =>
  cases decide (ta=ma) with
  | false=>rfl
  | true =>
   cases decide (w=wr) with
   | false=>rfl
   | true =>
    cases decide (ty=my) with
    | false=>rfl
    | true =>
     cases wr with
     | true =>
      cases decide (mf=Int.tmod ty c.1) with
      | false=>rfl
      | true =>
       cases decide (mc=0) with
       | true=>rfl
       | false =>
        simp only [Bool.not_false,Bool.not_true,cond_true,cond_false,Option.bind_some,Bool.and_self,Bool.true_or]
        cases r38 _ <;> rfl
     | false =>
      cases decide (tl=ml) with
      | false=>rfl
      | true =>
       cases decide (mf=Int.tmod ty c.1) with
       | false=>rfl
       | true =>
        cases decide (mc=0) with
        | true=>rfl
        | false=>rfl
end
end Go.Hv
