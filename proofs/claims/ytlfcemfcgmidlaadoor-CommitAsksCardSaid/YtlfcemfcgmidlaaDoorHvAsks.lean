import Derived.Test.YtlfcemfcgmidlaaDoorHvPlain
import Derived.Test.YtlfcemfcgmidlaaDoorHvKeep
namespace Go.Hv
open Go.RowKit Go.Proofs Go.V
def AskT (k:Nat) (ts:List Task):Prop:=∀ (i:Nat) t,ts[i]?=some t→t.1=false∧t.2.1=((i % 2:Nat):Int)∧t.2.2.1=(i:Int)∧0≤t.2.2.2.1∧t.2.2.2.1≤50∧0≤t.2.2.2.2.1∧t.2.2.2.2.1≤10∧t.2.2.2.2.2.1=(i:Int)+1∧t.2.2.2.2.2.2.1=true∧t.2.2.2.2.2.2.2=decide (i<k)
theorem AskT.snoc {ts:List Task} (h:AskT 0 ts) {t:Task} (ht:t.1=false∧t.2.1=((ts.length % 2:Nat):Int)∧t.2.2.1=(ts.length:Int)∧0≤t.2.2.2.1∧t.2.2.2.1≤50∧0≤t.2.2.2.2.1∧t.2.2.2.2.1≤10∧t.2.2.2.2.2.1=(ts.length:Int)+1∧t.2.2.2.2.2.2.1=true∧t.2.2.2.2.2.2.2=false):AskT 0 (ts++[t]):=by
 intro i u hu
 by_cases g:i<ts.length
 ·rw [List.getElem?_append_left g] at hu
  exact h i u hu
 ·rw [List.getElem?_append_right (by omega)] at hu
  have hi:=(List.getElem?_eq_some_iff.mp hu).1
  simp only [List.length_singleton] at hi
  have hi:i=ts.length:=by omega
  subst hi
  simp at hu
  subst hu
  simpa using ht
theorem AskT.ok {n:Int} {k:Nat} {ts:List Task} (h:AskT k ts) (hl:ts.length≤5):(∀ t∈ts,TaskOk (two1 n) t∧t.2.2.2.2.2.1≤(ts.length:Int))∧(ts.Pairwise fun x y=>x.2.2.2.2.2.1<y.2.2.2.2.2.1):=by
 refine ⟨fun t ht=>?_,?_⟩
 ·obtain ⟨i,hi⟩:=List.getElem?_of_mem ht
  have hil:=(List.getElem?_eq_some_iff.mp hi).1
  obtain ⟨g1,g2,g3,g4,g5,g6,g7,g8,g9,g10⟩:=h i t hi
  exact ⟨⟨by omega,by rw [g2]; show ((i % 2:Nat):Int)<2; omega,by omega,by omega,g4,by omega,by omega,by omega,by omega,by omega,fun e=>by rw [g9] at e; cases e⟩,by omega⟩
 ·rw [List.pairwise_iff_getElem]
  intro i j hi hj hij
  have h1:=(h i _ (List.getElem?_eq_getElem hi)).2.2.2.2.2.2.2.1
  have h2:=(h j _ (List.getElem?_eq_getElem hj)).2.2.2.2.2.2.2.1
  omega
theorem AskT.done {k:Nat} {ts:List Task} (h:AskT k ts):∀ t∈ts,t.2.2.2.2.2.2.1=true:=fun t ht=>by
 obtain ⟨i,hi⟩:=List.getElem?_of_mem ht
 exact (h i t hi).2.2.2.2.2.2.2.2.1
theorem desk_ask {n:Int} {k:Nat} {ts:List Task} (h:AskT k ts) (hl:ts.length≤5):DeskOk (two1 n) (deskT ts):=by
 obtain ⟨h1,h2⟩:=h.ok (n:=n) hl
 exact job_one n (by omega) (by omega) (by omega) h1 h2 (fun i t hi hd=>by
  have:=(h i t hi).2.2.2.2.2.2.2.2.1
  rw [hd] at this; cases this)
abbrev getT (ts:List Task) (v r:Int) (b:Bool):Task:=(false,(((ts.length % 2:Nat):Int),((ts.length:Int),(v,(r,((ts.length:Int)+1,(b,false)))))))
theorem desk_wait {n:Int} {ts:List Task} (h:AskT 0 ts) (hl:ts.length<5):DeskOk (two1 n) (2,[(1,(1,(ts++[getT ts 0 0 false],([],((ts.length:Int)+1,0)))))]):=by
 obtain ⟨h1,h2⟩:=h.ok (n:=n) (by omega)
 refine job_one n (by simp; omega) (by omega) (by omega) (fun t ht=>?_) ?_ (fun i t hi hd=>?_)
 ·rcases List.mem_append.1 ht with ht | ht
  ·exact ⟨(h1 t ht).1,by have:=(h1 t ht).2; omega⟩
  ·simp only [List.mem_singleton] at ht
   subst ht
   exact ⟨⟨by simp only; omega,by show ((ts.length % 2:Nat):Int)<2; omega,by simp only; omega,by simp only; omega,by simp,by simp,by simp,by simp,by simp only; omega,by simp only; omega,fun _=>⟨rfl,.inr ⟨rfl,rfl⟩⟩⟩,by simp⟩
 ·rw [List.pairwise_append]
  refine ⟨h2,List.pairwise_singleton _ _,fun a ha b hb=>?_⟩
  simp only [List.mem_singleton] at hb
  subst hb
  have:=(h1 a ha).2
  simp only
  omega
 ·by_cases g:i<ts.length
  ·rw [List.getElem?_append_left g] at hi
   have:=(h i t hi).2.2.2.2.2.2.2.2.1
   rw [hd] at this; cases this
  ·have:=(List.getElem?_eq_some_iff.mp hi).1
   simp at this ⊢
   omega
theorem half_cases (i:Nat):((i % 2:Nat):Int)=0∨((i % 2:Nat):Int)=1:=by omega
theorem get_refuse {n:Int} {ts:List Task} (h:AskT 0 ts) (hl:ts.length<5) :
 r33 (mkW (two1 n) 1 0 (deskT ts).1 (deskT ts).2 [] [] [] 0 0,(2,(1,(((ts.length % 2:Nat):Int),((ts.length:Int),0)))))=some (0,mkW (two1 n) 1 0 (deskT ts).1 (deskT ts).2 [] [] [] 0 0):=by
 have key:∀ (b:Int) (q:Int×Int),0≤b→b<2→idxI (two1 n).2.1 b=some q→r48 ((1,0),q)=some true→r33 (mkW (two1 n) 1 0 (deskT ts).1 (deskT ts).2 [] [] [] 0 0,(2,(1,(b,((ts.length:Int),0)))))=some (0,mkW (two1 n) 1 0 (deskT ts).1 (deskT ts).2 [] [] [] 0 0):=fun b q b0 b1 hq hb =>
  refuse_ok (l:=1) (A:=[]) (B:=[]) (j:=(1,(1,(ts,([],((ts.length:Int),0)))))) (x:=(2,(1,(b,((ts.length:Int),0))))) (by simp) rfl (by simp) rfl h.done (by simp only; omega) (by simp only; omega) (.inl rfl) (by simp only; omega) (by simp only; omega) (by simp) (by simp) b0 b1 (p:=(1,0)) (q:=q) rfl hq hb
 rcases half_cases ts.length with e | e <;> rw [e]
 ·exact key 0 (0,0) (by omega) (by omega) rfl rfl
 ·exact key 1 (1,0) (by omega) (by omega) rfl rfl
theorem new_get {ts:List Task}:newJob (1,(1,(ts,([],((ts.length:Int),0))))) (false,(((ts.length % 2:Nat):Int),((ts.length:Int),(0,(0,(0,(false,false)))))))=(1,(1,(ts++[getT ts 0 0 false],([],((ts.length:Int)+1,0))))):=rfl
theorem get_t {n:Int} {ts:List Task} (n1:1≤n) (hl:ts.length<5) {b y:Int}:r36 (mkW (two1 n) 1 0 (deskT ts).1 (deskT ts).2 [] [] [] 0 0,((0:Int),(false,(b,(y,(0,(0,(0,(false,false)))))))))=some (mkW (two1 n) 1 0 2 [newJob (1,(1,(ts,([],((ts.length:Int),0))))) (false,(b,(y,(0,(0,(0,(false,false)))))))] [newMsg (two1 n) 0 (1,(1,(ts,([],((ts.length:Int),0))))) (false,(b,(y,(0,(0,(0,(false,false)))))))] [] [] 0 0) :=
 task_is (c:=two1 n) (l:=1) (me:=0) (next:=2) (A:=[]) (B:=[]) (j:=(1,(1,(ts,([],((ts.length:Int),0)))))) (ms:=[]) (rs:=[]) (ps:=[]) (su:=0) (co:=0) (t:=(false,(b,(y,(0,(0,(0,(false,false)))))))) (by simp) (by simp only; omega) (by simp only; omega) (by simp) (by show n≠0; omega)
theorem back_get {c:Conf} {l me:Int} {d:Desk} {m:Msg} {w:Int×(Int×(Int×(Int×(Int×Int))))} (h2:m.1=1) {v r:Int} (hv:r15 (w.2.2.2.2.1,50)=some v) (hr:r15 (w.2.1,4)=some r) :
 r22 (c,(l,(me,(d,(m,w)))))=Option.bind (r21 (c,(l,(me,(d,((5,(m.2.2.1,(me,(m.2.2.2.1,(m.2.2.2.2.1,(m.2.2.2.2.2.1,(v,(r,(m.2.2.2.2.2.2.2.2.1,(false,0)))))))))):Msg)))))) fun y=>bif decide (y.2=0) then some y.1.1 else some d:=by
 obtain ⟨m1,mr⟩:=m
 subst h2
 unfold r22
 simp only [decide_true,cond_true,hv,hr,Option.bind_some]
theorem get_ans {n:Int} {ts:List Task} (n1:1≤n) (hl:ts.length<5) {v r:Int}:r43 (mkW (two1 n) 1 0 (2:Int) [(1,(1,(ts++[getT ts 0 0 false],([],((ts.length:Int)+1,0)))))] [] [] [] 0 0,((0:Int),(((5,(Int.tmod (ts.length:Int) n,(0,((0,1),(((ts.length % 2:Nat):Int),((ts.length:Int),(v,(r,((ts.length:Int)+1,(false,0)))))))))):Msg),false)))=some (mkW (two1 n) 1 0 2 [(1,(1,(ts++[getT ts v r true],([],((ts.length:Int)+1,0)))))] [] [] [(0,(2,(1,((ts.length:Int),(v,0)))))] 0 0):=by
 have ha:=ans_is (c:=two1 n) (l:=1) (me:=0) (next:=2) (A:=[]) (B:=[]) (j:=(1,(1,(ts++[getT ts 0 0 false],([],((ts.length:Int)+1,0)))))) (ms:=[]) (rs:=[]) (ps:=[]) (su:=0) (co:=0) (m:=((5,(Int.tmod (ts.length:Int) n,(0,((0,1),(((ts.length % 2:Nat):Int),((ts.length:Int),(v,(r,((ts.length:Int)+1,(false,0)))))))))):Msg)) (wr:=false) (T:=ts) (t:=getT ts 0 0 false) rfl (by omega) (by show n≠0; omega) (by simp)
 have hfit:fitB (two1 n) (getT ts 0 0 false) ((5,(Int.tmod (ts.length:Int) n,(0,((0,1),(((ts.length % 2:Nat):Int),((ts.length:Int),(v,(r,((ts.length:Int)+1,(false,0)))))))))):Msg) false=true:=by simp [fitB]
 rw [hfit] at ha
 exact ha
section
variable {n:Int} {ts:List Task} {v r:Int}
theorem get_call (n1:1≤n) (n2:n≤3) (h:AskT 0 ts) (hl:ts.length<5):r17 (two1 n,((1:Int),((0:Int),(deskT ts,((6000:Int),((2:Int),((1:Int),(((ts.length % 2:Nat):Int),((ts.length:Int),(0:Int)))))))))) =
 some (((2,[(1,(1,(ts++[getT ts 0 0 false],([],((ts.length:Int)+1,0)))))]),([newMsg (two1 n) 0 (1,(1,(ts,([],((ts.length:Int),0))))) (false,(((ts.length % 2:Nat):Int),((ts.length:Int),(0,(0,(0,(false,false)))))))],([],([],(0,0))))),0):=by
 have h1:(two1 n).1≤4:=by show n≤4; omega
 have h2:(1:Int)<(two1 n).2.1.length:=by simp
 have h3:(0:Int)<(two1 n).1:=by show 0<n; omega
 have h4:=desk_ask (n:=n) h (by omega)
 have h5:=Cf.check_ok (two_ok n1 n2)
 have h6:=get_refuse (n:=n) h hl
 have h7:=place_one (c:=two1 n) (l:=1) (me:=0) (next:=2) (j:=(1,(1,(ts,([],((ts.length:Int),0)))))) rfl
 have h8:=get_t n1 hl (b:=((ts.length % 2:Nat):Int)) (y:=(ts.length:Int))
 rw [new_get] at h8
 generalize newMsg (two1 n) 0 (1,(1,(ts,([],((ts.length:Int),0))))) (false,(((ts.length % 2:Nat):Int),((ts.length:Int),(0,(0,(0,(false,false)))))))=w at h8 ⊢
 generalize ((ts.length % 2:Nat):Int)=b at h6 h8 ⊢
 have hc:=call_task (room:=6000) (d:=deskT ts) (x:=(2,(1,(b,((ts.length:Int),0))))) h1 h5 h4 (by omega) h2 (by omega) h3 (.inl rfl) (i:=0) h6 h7 h8
 exact hc
theorem get_hear (n1:1≤n) (n2:n≤3) (h:AskT 0 ts) (hl:ts.length<5) (v0:0≤v) (v1:v≤50) (r0:0≤r) (r1:r≤10):∃ z:Work,z.2.2.2.1=deskT (ts++[getT ts v r true])∧r21 (two1 n,((1:Int),((0:Int),((2,[(1,(1,(ts++[getT ts 0 0 false],([],((ts.length:Int)+1,0)))))]),((5,(Int.tmod (ts.length:Int) n,(0,((0,1),(((ts.length % 2:Nat):Int),((ts.length:Int),(v,(r,((ts.length:Int)+1,(false,0)))))))))):Msg)))))=some (z.2.2.2,0):=by
 have hs:0≤Int.tmod (ts.length:Int) n∧Int.tmod (ts.length:Int) n<n:=tmod_site (c:=two1 n) (t:=(true,(0,((ts.length:Int),(v,(0,(0,(false,false)))))))) n1 (by simp only; omega)
 have hm:r41 (two1 n,((5,(Int.tmod (ts.length:Int) n,(0,((0,1),(((ts.length % 2:Nat):Int),((ts.length:Int),(v,(r,((ts.length:Int)+1,(false,0)))))))))):Msg))=some 0 :=
  Cf.msg_ok (two_ok n1 n2) ⟨by simp,by simp,hs.1,hs.2,by simp,by show 0<n; omega,by simp,by show 0<n; omega,by simp,by simp,by simp only; omega,by show ((ts.length % 2:Nat):Int)<2; omega,by simp only; omega,by simp only; omega,v0,by simp only; omega,r0,by simp only; omega,by simp only; omega,by simp only; omega,.inl rfl,⟨_,rfl,by simp [Cf.formBad]⟩⟩
 have ha:=get_ans n1 hl (v:=v) (r:=r)
 refine ⟨mkW (two1 n) 1 0 2 [(1,(1,(ts++[getT ts v r true],([],((ts.length:Int)+1,0)))))] [] [] [(0,(2,(1,((ts.length:Int),(v,0)))))] 0 0,by simp [mkW],?_⟩
 have h1:(two1 n).1≤4:=by show n≤4; omega
 have h2:(1:Int)<(two1 n).2.1.length:=by simp
 have h3:(0:Int)<(two1 n).1:=by show 0<n; omega
 have h4:=desk_wait (n:=n) h hl
 have h5:=Cf.check_ok (two_ok n1 n2)
 have h7:=place_one (c:=two1 n) (l:=1) (me:=0) (next:=2) (j:=(1,(1,(ts++[getT ts 0 0 false],([],((ts.length:Int)+1,0)))))) rfl
 generalize mkW (two1 n) 1 0 2 [(1,(1,(ts++[getT ts v r true],([],((ts.length:Int)+1,0)))))] [] [] [(0,(2,(1,((ts.length:Int),(v,0)))))] 0 0=z at ha ⊢
 exact hear_done h1 h5 h4 (by omega) h2 (by omega) h3 hm rfl rfl (.inl rfl) (i:=0) (by omega) h7 ha
theorem get_back (n1:1≤n) (n2:n≤3) (h:AskT 0 ts) (hl:ts.length<5):∃ v r,0≤v∧v≤50∧0≤r∧r≤10∧r22 (two1 n,((1:Int),((0:Int),((2,[(1,(1,(ts++[getT ts 0 0 false],([],((ts.length:Int)+1,0)))))]),(newMsg (two1 n) 0 (1,(1,(ts,([],((ts.length:Int),0))))) (false,(((ts.length % 2:Nat):Int),((ts.length:Int),(0,(0,(0,(false,false))))))),((0:Int),((ts.length:Int),((0:Int),((0:Int),((ts.length:Int),(0:Int)))))))))))
 = some (deskT (ts++[getT ts v r true])):=by
 obtain ⟨v,p1,v0,v1⟩:=Cf.picked_is (n:=(ts.length:Int)) (m:=50) (by unfold i64; omega) (by omega)
 obtain ⟨r,p2,r0,r1⟩:=Cf.picked_is (n:=(ts.length:Int)) (m:=4) (by unfold i64; omega) (by omega)
 refine ⟨v,r,v0,by omega,r0,by omega,?_⟩
 obtain ⟨z,z1,z2⟩:=get_hear n1 n2 h hl v0 (show v≤50 by omega) r0 (show r≤10 by omega)
 rw [back_get rfl p1 p2]
 unfold newMsg
 simp only [cond_false,z2,Option.bind_some,decide_true,cond_true,z1]
end
theorem tmod_half (i:Nat):Int.tmod (i:Int) 2=((i % 2:Nat):Int):=by
 rw [Int.tmod_eq_emod_of_nonneg (by omega)]; omega
theorem i64_len {β:Type} {l:List β} (h:l.length≤9223372036854775807):i64 (l.length:Int):=by unfold i64; omega
theorem idxI_head {β:Type} (x:β) (l:List β):idxI (x :: l) 0=some x:=rfl
theorem get_loop {n y:Int} (n1:1≤n) (n2:n≤3) (y0:0≤y) (y1:y<5):∀ (m:Nat) (ts:List Task),(ts.length:Int)+m=1+y→AskT 0 ts →
 ∃ ts',loopR (r8_L0 y (two1 n)) ((),((ts.length:Int),deskT ts))=some (.inl ((),deskT ts'))∧AskT 0 ts'∧(ts'.length:Int)=1+y:=by
 have hw:Go.IntKind.wrap .i64 (1+y)=1+y:=wrap_i64 (by unfold i64; omega)
 intro m
 induction m with
 | zero =>
  intro ts hl h
  refine ⟨ts,?_,h,by omega⟩
  have:r8_L0 y (two1 n) ((),((ts.length:Int),deskT ts))=some (.inr (.inl ((),deskT ts))):=by
   unfold r8_L0
   simp only [hw,decide_eq_false (show ¬ (ts.length:Int)<1+y by omega),cond_false]
  rw [loopR_go,this,goL_inr]
 | succ m ih =>
  intro ts hl h
  have hcall:=get_call n1 n2 h (by omega)
  obtain ⟨v,r,v0,v1,r0,r1,hback⟩:=get_back n1 n2 h (by omega)
  have hwi:Go.IntKind.wrap .i64 ((ts.length:Int)+1)=((ts.length+1:Nat):Int):=by rw [wrap_i64 (by unfold i64; omega)]; omega
  have hstep:r8_L0 y (two1 n) ((),((ts.length:Int),deskT ts))=some (.inl ((),(((ts.length+1:Nat):Int),deskT (ts++[getT ts v r true])))):=by
   unfold r8_L0
   simp only [hw,decide_eq_true (show (ts.length:Int)<1+y by omega),cond_true,tmod_half,hcall,Option.bind_some,decide_true,Bool.not_true,Bool.not_false,List.length_singleton,Int.natCast_one,cond_false,idxI_head,hback,hwi]
  obtain ⟨ts',e1,e2,e3⟩:=ih (ts++[getT ts v r true]) (by simp; omega) (h.snoc ⟨rfl,rfl,rfl,v0,v1,r0,r1,rfl,rfl,rfl⟩)
  refine ⟨ts',?_,e2,e3⟩
  rw [loopR_go,hstep,goL_inl]
  rw [List.length_append,List.length_singleton] at e1
  exact e1
abbrev deskC (ts:List Task):Desk:=(2,[(1,(2,(ts,([],((ts.length:Int),0)))))])
theorem desk_chk {n:Int} {k:Nat} {ts:List Task} (h:AskT k ts) (hl:ts.length≤5):DeskOk (two1 n) (deskC ts):=by
 obtain ⟨h1,h2⟩:=h.ok (n:=n) hl
 refine ⟨by simp,by simp,by simp,fun j hj=>?_,List.pairwise_singleton _ _⟩
 simp only [List.mem_singleton] at hj
 subst hj
 exact ⟨by simp,by simp,by simp,by simp,by simp,by simp,by simp only; omega,by simp only; omega,by simp only; omega,h1,h2,fun i t hi e=>(by
  have:=(h i t hi).2.2.2.2.2.2.2.2.1
  rw [this] at e; cases e),by simp,List.Pairwise.nil,by simp⟩
theorem asks_all {ts:List Task} (h:AskT 0 ts):ts.filter asksB=ts:=by
 rw [List.filter_eq_self]
 intro t ht
 obtain ⟨i,hi⟩:=List.getElem?_of_mem ht
 obtain ⟨g1,-,-,-,-,-,-,-,-,g10⟩:=h i t hi
 unfold asksB
 rw [g1,g10]
 simp
theorem ask_commit {n:Int} (n1:1≤n) (n2:n≤3) {ts:List Task} (h:AskT 0 ts) (hl:ts.length≤5) (h0:0<ts.length) :
 r17 (two1 n,((1:Int),((0:Int),(deskT ts,((6000:Int),((4:Int),((1:Int),((0:Int),((0:Int),(0:Int))))))))))=some ((deskC ts,(ts.map (chkM (two1 n) 0 1),([],([],(1,0))))),0):=by
 have hany:ts.any asksB=true:=by
  have hx:ts[0]?=some ts[0]:=List.getElem?_eq_getElem h0
  have:=asks_all h
  rw [List.any_eq_true]
  refine ⟨ts[0],List.getElem_mem _,?_⟩
  rw [List.filter_eq_self] at this
  exact this _ (List.getElem_mem _)
 have hask:=committing_ask (c:=two1 n) (l:=1) (me:=0) (next:=2) (A:=[]) (B:=[]) (j:=(1,(1,(ts,([],((ts.length:Int),0)))))) (ms:=[]) (rs:=[]) (ps:=[]) (su:=0) (co:=0) (by simp only; omega) (by show n≠0; omega) (by simp) hany
 have href:=refuse_commit (c:=two1 n) (l:=1) (me:=0) (next:=2) (A:=[]) (B:=[]) (j:=(1,(1,(ts,([],((ts.length:Int),0)))))) (x:=(4,(1,(0,(0,0))))) (by simp) rfl (by simp) rfl h.done (by simp only; omega) rfl
 have h1:(two1 n).1≤4:=by show n≤4; omega
 have h2:(1:Int)<(two1 n).2.1.length:=by simp
 have h3:(0:Int)<(two1 n).1:=by show 0<n; omega
 have h4:=desk_ask (n:=n) h hl
 have h5:=Cf.check_ok (two_ok n1 n2)
 have h7:=place_one (c:=two1 n) (l:=1) (me:=0) (next:=2) (j:=(1,(1,(ts,([],((ts.length:Int),0)))))) rfl
 have hc:=call_commit (room:=6000) (d:=deskT ts) (x:=(4,(1,(0,(0,0))))) h1 h5 h4 (by omega) h2 (by omega) h3 rfl href (i:=0) h7 hask
 rw [hc]
 unfold mkW chkJob
 simp only [asks_all h,List.nil_append]
def sureM (c:Conf) (t:Task) (yes:Bool):Msg:=(7,(Int.tmod t.2.2.1 c.1,(0,((0,1),(t.2.1,(t.2.2.1,(0,(t.2.2.2.2.1,(0,(yes,0))))))))))
def Alike (ts us:List Task):Prop:=us.length=ts.length∧∀ (i:Nat) t u,ts[i]?=some t→us[i]?=some u→u.2.2.2.2.1=t.2.2.2.2.1
theorem upd_fields (m:Msg) (t:Task):(updT m t).1=t.1∧(updT m t).2.1=t.2.1∧(updT m t).2.2.1=t.2.2.1∧(updT m t).2.2.2.1=t.2.2.2.1∧(updT m t).2.2.2.2.1=t.2.2.2.2.1∧(updT m t).2.2.2.2.2.1=t.2.2.2.2.2.1∧(updT m t).2.2.2.2.2.2.1=t.2.2.2.2.2.2.1∧(updT m t).2.2.2.2.2.2.2=(t.2.2.2.2.2.2.2 || (hitB m t && m.2.2.2.2.2.2.2.2.2.1)):=by
 unfold updT
 cases hitB m t with
 | true=>exact ⟨rfl,rfl,rfl,rfl,rfl,rfl,rfl,by simp⟩
 | false=>exact ⟨rfl,rfl,rfl,rfl,rfl,rfl,rfl,by simp⟩
theorem hit_at {n:Int} {i k:Nat} {ts us:List Task} (h:AskT 0 ts) (hu:AskT i us) (ha:Alike ts us) {t u:Task} {yes:Bool} (ht:ts[i]?=some t) (hk:us[k]?=some u):hitB (sureM (two1 n) t yes) u=decide (k=i):=by
 obtain ⟨a1,a2,a3,-⟩:=h i t ht
 obtain ⟨b1,b2,b3,-⟩:=hu k u hk
 unfold hitB sureM
 by_cases e:k=i
 ·subst e
  have h5:=ha.2 k t u ht hk
  simp only [b1,a2,b2,a3,b3,h5,Bool.not_false,decide_true,Bool.and_self]
 ·rw [decide_eq_false e,b1,a3,b3,decide_eq_false (show ¬ (k:Int)=(i:Int) by omega)]
  simp
theorem upd_ask {n:Int} {i:Nat} {ts us:List Task} (h:AskT 0 ts) (hu:AskT i us) (ha:Alike ts us) {t:Task} (ht:ts[i]?=some t):AskT (i+1) (us.map (updT (sureM (two1 n) t true)))∧Alike ts (us.map (updT (sureM (two1 n) t true))):=by
 refine ⟨fun k x hx=>?_,by rw [List.length_map]; exact ha.1,fun k a x hk hx=>?_⟩
 ·rw [List.getElem?_map] at hx
  obtain ⟨u,h1,rfl⟩:=Option.map_eq_some_iff.1 hx
  obtain ⟨f1,f2,f3,f4,f5,f6,f7,f8⟩:=upd_fields (sureM (two1 n) t true) u
  obtain ⟨g1,g2,g3,g4,g5,g6,g7,g8,g9,g10⟩:=hu k u h1
  rw [f1,f2,f3,f4,f5,f6,f7,f8,hit_at h hu ha ht h1,g10]
  refine ⟨g1,g2,g3,g4,g5,g6,g7,g8,g9,?_⟩
  rw [show (sureM (two1 n) t true).2.2.2.2.2.2.2.2.2.1=true from rfl,Bool.and_true,Bool.eq_iff_iff]
  simp only [Bool.or_eq_true,decide_eq_true_eq]
  omega
 ·rw [List.getElem?_map] at hx
  obtain ⟨u,h1,rfl⟩:=Option.map_eq_some_iff.1 hx
  rw [(upd_fields (sureM (two1 n) t true) u).2.2.2.2.1]
  exact ha.2 k a u hk h1
theorem asks_left {k:Nat} {us:List Task} (h:AskT k us):us.any asksB=decide (k<us.length):=by
 rw [Bool.eq_iff_iff,List.any_eq_true,decide_eq_true_eq]
 constructor
 ·rintro ⟨u,hu,ha⟩
  obtain ⟨i,hi⟩:=List.getElem?_of_mem hu
  have hil:=(List.getElem?_eq_some_iff.mp hi).1
  obtain ⟨g1,-,-,-,-,-,-,-,-,g10⟩:=h i u hi
  unfold asksB at ha
  rw [g1,g10] at ha
  simp at ha
  omega
 ·intro hk
  have hx:us[k]?=some us[k]:=List.getElem?_eq_getElem hk
  obtain ⟨g1,-,-,-,-,-,-,-,-,g10⟩:=h k _ hx
  refine ⟨us[k],List.getElem_mem _,?_⟩
  unfold asksB
  rw [g1,g10]
  simp
section
variable {n:Int} {i:Nat} {ts us:List Task} {t:Task}
theorem hear_any (n1:1≤n) (n2:n≤3) (h:AskT 0 ts) (hu:AskT i us) (hl:us.length≤5) (hlt:ts.length≤5) (ht:ts[i]?=some t) (yes:Bool) {z:Work} (hz:r44 (mkW (two1 n) 1 0 (deskC us).1 (deskC us).2 [] [] [] 0 0,((0:Int),sureM (two1 n) t yes))=some z) :
 r21 (two1 n,((1:Int),((0:Int),(deskC us,sureM (two1 n) t yes))))=some (z.2.2.2,0):=by
 obtain ⟨g1,g2,g3,g4,g5,g6,g7,g8,g9,g10⟩:=h i t ht
 have hil:=(List.getElem?_eq_some_iff.mp ht).1
 have hs:=tmod_site (c:=two1 n) (t:=t) n1 (by omega)
 have hm:r41 (two1 n,sureM (two1 n) t yes)=some 0 :=
  Cf.msg_ok (two_ok n1 n2) ⟨by simp [sureM],by simp [sureM],hs.1,hs.2,by simp [sureM],by show 0<n; omega,by simp [sureM],by show 0<n; omega,by simp [sureM],by simp [sureM],by show 0≤t.2.1; omega,by show t.2.1<2; omega,by show 0≤t.2.2.1; omega,by show t.2.2.1<8; omega,by simp [sureM],by simp [sureM],by show 0≤t.2.2.2.2.1; omega,by show t.2.2.2.2.1≤1048576; omega,by simp [sureM],by simp [sureM],.inl rfl,⟨_,rfl,by simp [sureM,Cf.formBad]⟩⟩
 have h1:(two1 n).1≤4:=by show n≤4; omega
 have h2:(1:Int)<(two1 n).2.1.length:=by simp
 have h3:(0:Int)<(two1 n).1:=by show 0<n; omega
 have h4:=desk_chk (n:=n) hu hl
 have h5:=Cf.check_ok (two_ok n1 n2)
 have h7:=place_one (c:=two1 n) (l:=1) (me:=0) (next:=2) (j:=(1,(2,(us,([],((us.length:Int),0)))))) rfl
 exact hear_sure h1 h5 h4 (by omega) h2 (by omega) h3 hm rfl rfl rfl (i:=0) (by omega) h7 hz
theorem sure_at (n1:1≤n) (h:AskT 0 ts) (hu:AskT i us) (ha:Alike ts us) (hl:us.length≤5) (ht:ts[i]?=some t) (yes:Bool) :
 r44 (mkW (two1 n) 1 0 (deskC us).1 (deskC us).2 [] [] [] 0 0,((0:Int),sureM (two1 n) t yes)) =
  bif !yes then r38 (mkW (two1 n) 1 0 2 [withT (1,(2,(us,([],((us.length:Int),0))))) (us.map (updT (sureM (two1 n) t yes)))] [] [] [(0,(4,(1,(0,(0,11)))))] 0 0,(0:Int))
  else bif !((us.map (updT (sureM (two1 n) t yes))).any asksB) then r66 (mkW (two1 n) 1 0 2 [withT (1,(2,(us,([],((us.length:Int),0))))) (us.map (updT (sureM (two1 n) t yes)))] [] [] [] 0 0,(0:Int))
  else some (mkW (two1 n) 1 0 2 [withT (1,(2,(us,([],((us.length:Int),0))))) (us.map (updT (sureM (two1 n) t yes)))] [] [] [] 0 0):=by
 have hs:=sure_is (c:=two1 n) (l:=1) (me:=0) (next:=2) (A:=[]) (B:=[]) (j:=(1,(2,(us,([],((us.length:Int),0)))))) (ms:=[]) (rs:=[]) (ps:=[]) (su:=0) (co:=0) (m:=sureM (two1 n) t yes) (by simp only; omega) (by show n≠0; omega) (by simp)
 have hil:=(List.getElem?_eq_some_iff.mp ht).1
 have hul:i<us.length:=by rw [ha.1]; exact hil
 have hhit:us.any (hitB (sureM (two1 n) t yes))=true:=by
  rw [List.any_eq_true]
  refine ⟨us[i],List.getElem_mem _,?_⟩
  have:=hit_at (n:=n) (yes:=yes) h hu ha ht (List.getElem?_eq_getElem hul)
  rw [this,decide_eq_true rfl]
 simp only [hhit,decide_true,cond_true] at hs
 rw [show decide ((sureM (two1 n) t yes).2.1=Int.tmod (sureM (two1 n) t yes).2.2.2.2.2.1 (two1 n).1)=true from decide_eq_true rfl] at hs
 exact hs
theorem tasks_upd (_h:AskT 0 ts) (hl:us.length≤5) (hu:AskT i us) (yes:Bool):(us.map (updT (sureM (two1 n) t yes))).length≤10∧∀ x∈us.map (updT (sureM (two1 n) t yes)),0≤x.2.2.1:=by
 refine ⟨by rw [List.length_map]; omega,fun x hx=>?_⟩
 obtain ⟨u,h1,rfl⟩:=List.mem_map.1 hx
 obtain ⟨k,hk⟩:=List.getElem?_of_mem h1
 rw [(upd_fields (sureM (two1 n) t yes) u).2.2.1,(hu k u hk).2.2.1]
 omega
theorem end_some {c:Conf} {l me next:Int} {A B:List Job} {j:Job} {ms:List Msg} {rs:List Rec} {ps:List Rep} {su co:Int} (hf:j.2.2.1.length≤10) (hs:1≤c.1) (hk:∀ t∈j.2.2.1,0≤t.2.2.1) (hm:ms.length≤900) (hj:(A++j :: B).length≤1000) :
 ∃ z:Work,r38 (mkW c l me next (A++j :: B) ms rs ps su co,(A.length:Int))=some z∧z.2.2.2.2.2.2.1=ps∧z.2.2.2.2.2.2.2.2=co:=by
 obtain ⟨Q,-,he⟩:=end_is (l:=l) (me:=me) (next:=next) (A:=A) (B:=B) (ms:=ms) (rs:=rs) (ps:=ps) (su:=su) (co:=co) hf hs hk hm hj
 exact ⟨_,he,rfl,rfl⟩
theorem hear_no (n1:1≤n) (n2:n≤3) (h:AskT 0 ts) (hu:AskT i us) (ha:Alike ts us) (hl:us.length≤5) (ht:ts[i]?=some t) :
 ∃ T:Turn,r21 (two1 n,((1:Int),((0:Int),(deskC us,sureM (two1 n) t false))))=some (T,0)∧T.2.2.2.1=[(0,(4,(1,(0,(0,11)))))]∧T.2.2.2.2.2=0:=by
 have hs:=sure_at n1 h hu ha hl ht false
 obtain ⟨t1,t2⟩:=tasks_upd (n:=n) (t:=t) h hl hu false
 obtain ⟨z,z1,z2,z3⟩:=end_some (c:=two1 n) (l:=1) (me:=0) (next:=2) (A:=[]) (B:=[]) (j:=withT (1,(2,(us,([],((us.length:Int),0))))) (us.map (updT (sureM (two1 n) t false)))) (ms:=[]) (rs:=[]) (ps:=[(0,(4,(1,(0,(0,11)))))]) (su:=0) (co:=0) t1 n1 t2 (by simp) (by simp)
 rw [Bool.not_false,cond_true] at hs
 exact ⟨z.2.2.2,hear_any n1 n2 h hu hl (by rw [← ha.1]; exact hl) ht false (hs.trans z1),z2,z3⟩
theorem hear_last (n1:1≤n) (n2:n≤3) (h:AskT 0 ts) (hu:AskT i us) (ha:Alike ts us) (hl:us.length≤5) (ht:ts[i]?=some t) (hi:i+1=us.length) :
 ∃ T:Turn,r21 (two1 n,((1:Int),((0:Int),(deskC us,sureM (two1 n) t true))))=some (T,0)∧T.2.2.2.1=[(0,(4,(1,(0,(0,0)))))]∧T.2.2.2.2.2=1:=by
 have hs:=sure_at n1 h hu ha hl ht true
 obtain ⟨t1,t2⟩:=tasks_upd (n:=n) (t:=t) h hl hu true
 obtain ⟨u1,-⟩:=upd_ask (n:=n) h hu ha ht
 have hleft:=asks_left u1
 rw [List.length_map,decide_eq_false (show ¬ i+1<us.length by omega)] at hleft
 obtain ⟨Q,-,he⟩:=commit_is (c:=two1 n) (l:=1) (me:=0) (next:=2) (A:=[]) (B:=[]) (j:=withT (1,(2,(us,([],((us.length:Int),0))))) (us.map (updT (sureM (two1 n) t true)))) (ms:=[]) (rs:=[]) (ps:=[]) (su:=0) (co:=0) t1 n1 t2 (by simp) (by simp) (by simp) (by simp)
 simp only [hleft,Bool.not_true,Bool.not_false,cond_true,cond_false] at hs
 simp only [List.nil_append,List.length_nil,Int.natCast_zero] at he
 rw [he] at hs
 refine ⟨_,hear_any n1 n2 h hu hl (by rw [← ha.1]; exact hl) ht true hs,?_,?_⟩
 ·cases decide ((Q.length:Int)=0) <;> rfl
 ·cases decide ((Q.length:Int)=0) <;> rfl
theorem hear_more (n1:1≤n) (n2:n≤3) (h:AskT 0 ts) (hu:AskT i us) (ha:Alike ts us) (hl:us.length≤5) (ht:ts[i]?=some t) (hi:i+1<us.length) :
 ∃ T:Turn,r21 (two1 n,((1:Int),((0:Int),(deskC us,sureM (two1 n) t true))))=some (T,0)∧T.2.2.2.1=[]∧T.1=deskC (us.map (updT (sureM (two1 n) t true))):=by
 have hs:=sure_at n1 h hu ha hl ht true
 obtain ⟨u1,-⟩:=upd_ask (n:=n) h hu ha ht
 have hleft:=asks_left u1
 rw [List.length_map,decide_eq_true hi] at hleft
 simp only [hleft,Bool.not_true,cond_false] at hs
 refine ⟨_,hear_any n1 n2 h hu hl (by rw [← ha.1]; exact hl) ht true hs,rfl,?_⟩
 show (2,[(1,(2,(us.map (updT (sureM (two1 n) t true)),([],((us.length:Int),0)))))])=(2,[(1,(2,(us.map (updT (sureM (two1 n) t true)),([],(((us.map (updT (sureM (two1 n) t true))).length:Int),0)))))])
 rw [List.length_map]
end
theorem asks_loop {n y:Int} (n1:1≤n) (n2:n≤3) (y0:0≤y) (y1:y<5) {ts:List Task} (h:AskT 0 ts) (hl:(ts.length:Int)=1+y) {bad:Int} (_b1:bad≤ts.length):∀ (m i:Nat) (us:List Task),i+m=ts.length→AskT i us→Alike ts us→(i:Int)≤bad→0<m →
 loopR (r8_L1 ((deskC ts,(ts.map (chkM (two1 n) 0 1),([],([],(1,0))))),0) (two1 n) bad y) ((),((i:Int),deskC us))=some (.inr true):=by
 have hw:Go.IntKind.wrap .i64 (1+y)=1+y:=wrap_i64 (by unfold i64; omega)
 have hw1:Go.IntKind.wrap .i64 (1+y - 1)=y:=by rw [wrap_i64 (by unfold i64; omega)]; omega
 intro m
 induction m with
 | zero=>intro i us _ _ _ _ h0; omega
 | succ m ih =>
  intro i us hi hu ha hb _
  have hil:i<ts.length:=by omega
  have hul:us.length≤5:=by rw [ha.1]; omega
  have ht:ts[i]?=some ts[i]:=List.getElem?_eq_getElem hil
  have hx:(ts.map (chkM (two1 n) 0 1))[i]?=some (chkM (two1 n) 0 1 ts[i]):=by rw [List.getElem?_map,ht]; rfl
  obtain ⟨e1,e2,-⟩:=in_len hx
  have hwi:Go.IntKind.wrap .i64 ((i:Int)+1)=((i+1:Nat):Int):=by rw [wrap_i64 (by unfold i64; omega)]; omega
  rw [loopR_go]
  by_cases g:(i:Int)=bad
  ·obtain ⟨T,t1,t2,t3⟩:=hear_no n1 n2 h hu ha hul ht
   have:r8_L1 ((deskC ts,(ts.map (chkM (two1 n) 0 1),([],([],(1,0))))),0) (two1 n) bad y ((),((i:Int),deskC us))=some (.inr (.inr true)):=by
    unfold sureM at t1
    unfold r8_L1
    simp only [e1,e2,cond_true,Option.bind_some]
    unfold chkM
    simp only [decide_eq_true g,Bool.not_true,t1,Option.bind_some,decide_true,cond_false,cond_true,t2,t3,List.length_singleton,Int.natCast_one,idxI_head]
   rw [this,goL_inr]
  ·by_cases g2:(i:Int)=y
   ·obtain ⟨T,t1,t2,t3⟩:=hear_last n1 n2 h hu ha hul ht (by have:=ha.1; omega)
    have:r8_L1 ((deskC ts,(ts.map (chkM (two1 n) 0 1),([],([],(1,0))))),0) (two1 n) bad y ((),((i:Int),deskC us))=some (.inr (.inr true)):=by
     unfold sureM at t1
     unfold r8_L1
     simp only [e1,e2,cond_true,Option.bind_some]
     unfold chkM
     simp only [decide_eq_false g,Bool.not_false,t1,Option.bind_some,decide_true,Bool.not_true,cond_false,hw,hw1,decide_eq_true g2,cond_true,t2,t3,List.length_singleton,Int.natCast_one,idxI_head]
    rw [this,goL_inr]
   ·obtain ⟨T,t1,t2,t3⟩:=hear_more n1 n2 h hu ha hul ht (by have:=ha.1; omega)
    have:r8_L1 ((deskC ts,(ts.map (chkM (two1 n) 0 1),([],([],(1,0))))),0) (two1 n) bad y ((),((i:Int),deskC us))=some (.inl ((),(((i+1:Nat):Int),deskC (us.map (updT (sureM (two1 n) ts[i] true)))))):=by
     unfold sureM at t1 t3 ⊢
     unfold r8_L1
     simp only [e1,e2,cond_true,Option.bind_some]
     unfold chkM
     simp only [decide_eq_false g,Bool.not_false,t1,Option.bind_some,decide_true,Bool.not_true,cond_false,hw,hw1,decide_eq_false g2,t2,List.length_nil,Int.natCast_zero,Int.lt_irrefl,decide_false,t3,hwi]
    rw [this,goL_inl]
    obtain ⟨u1,u2⟩:=upd_ask (n:=n) h hu ha ht
    exact ih (i+1) _ (by omega) u1 u2 (by omega) (by omega)
theorem begin_high {n:Int} (h1:1≤n) (h2:n≤3):r17 (two1 n,((1:Int),((0:Int),(((1:Int),[]),((6000:Int),((1:Int),((0:Int),((0:Int),((0:Int),(0:Int))))))))) )=some ((((2:Int),[job1]),([],([(5,((0,1),(0,(0,(0,(false,[]))))))],([(0,(1,(1,(0,(0,0)))))],(0,0))))),0):=by
 rw [call_begin (show (two1 n).1≤4 by show n≤4; omega) (Cf.check_ok (two_ok h1 h2)) (desk_none n) (by omega) (by simp) (by omega) (by show 0<n; omega) rfl]
 rw [begun_is (by omega) (by omega) (by simp) (by simp) (by simp)]
 rfl
theorem commitAsks {a:Int×(List Int×Int)} (h1:i64 a.1) (hk:i64 (a.2.1.length:Int)) (h3:i64 a.2.2):r8 a=some true:=by
 obtain ⟨n,e1,n1,n2⟩:=two_is h1
 obtain ⟨y,e2,y0,y1⟩:=Cf.picked_is (m:=5) hk (by omega)
 have hw:Go.IntKind.wrap .i64 (1+y)=1+y:=wrap_i64 (by unfold i64; omega)
 have hw2:Go.IntKind.wrap .i64 (1+y+1)=2+y:=by rw [wrap_i64 (by unfold i64; omega)]; omega
 obtain ⟨bad,e3,b0,b1⟩:=Cf.picked_is (m:=2+y) h3 (by omega)
 have hb:=begin_high n1 n2
 obtain ⟨ts,l0,h,hl⟩:=get_loop n1 n2 y0 y1 (1+y).toNat [] (by simp; omega) (fun i t hi=>by simp at hi)
 have hcom:=ask_commit n1 n2 h (by omega) (by omega)
 have l1:=asks_loop n1 n2 y0 y1 h hl (bad:=bad) (by omega) ts.length 0 ts (by omega) h ⟨rfl,fun i t u h1 h2=>by rw [h1] at h2; cases h2; rfl⟩ (by omega) (by omega)
 have l0':loopR (r8_L0 y (two1 n)) ((),((0:Int),(((2:Int),[job1]))))=some (.inl ((),deskT ts)):=l0
 simp only [Int.natCast_zero] at l1
 unfold r8
 simp only [e1,Option.bind_some,hb,e2,l0',Sum.elim_inl,hcom,decide_true,Bool.not_true,Bool.not_false,cond_true,cond_false,hw,List.length_map,hl,List.length_nil,Int.natCast_zero,hw2,e3,l1,Sum.elim_inr]
end Go.Hv
