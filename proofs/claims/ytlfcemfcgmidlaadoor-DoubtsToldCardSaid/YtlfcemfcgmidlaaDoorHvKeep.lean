import Derived.Test.YtlfcemfcgmidlaaDoorHvPair
namespace Go.Hv
open Go.RowKit Go.Proofs Go.V
section
variable {c:Conf} {next:Int} {A B:List Job} {j j':Job}
theorem desk_at (h:DeskOk c (next,A++j :: B)):JobOk c next j:=h.job j (by simp)
theorem desk_set (h:DeskOk c (next,A++j :: B)) (hj:JobOk c next j') (hn:j'.1=j.1):DeskOk c (next,A++j' :: B):=by
 refine ⟨h.n0,h.n1,?_,fun x hx=>?_,?_⟩
 ·have:=h.few
  simp at this ⊢
  exact this
 ·rcases List.mem_append.1 hx with hx | hx
  ·exact h.job x (by simp [hx])
  ·rcases List.mem_cons.1 hx with rfl | hx
   ·exact hj
   ·exact h.job x (by simp [hx])
 ·have hp:=h.up
  rw [List.pairwise_append,List.pairwise_cons] at hp ⊢
  obtain ⟨h1,⟨h2,h3⟩,h4⟩:=hp
  refine ⟨h1,⟨fun y hy=>by rw [hn]; exact h2 y hy,h3⟩,fun x hx y hy=>?_⟩
  rcases List.mem_cons.1 hy with rfl | hy
  ·rw [hn]; exact h4 x hx j (by simp)
  ·exact h4 x hx y (by simp [hy])
theorem desk_del (h:DeskOk c (next,A++j :: B)):DeskOk c (next,A++B):=by
 refine ⟨h.n0,h.n1,?_,fun x hx=>h.job x ?_,h.up.sublist ?_⟩
 ·have:=h.few
  simp at this ⊢
  omega
 ·rcases List.mem_append.1 hx with hx | hx <;> simp [hx]
 ·exact List.Sublist.append (List.Sublist.refl _) (List.sublist_cons_self _ _)
theorem JobOk.mono {n':Int} (h:JobOk c next j) (hn:next≤n'):JobOk c n' j :=
 ⟨h.n0,by have:=h.n1; omega,h.g0,h.g1,h.s0,h.s1,h.few,h.k0,h.k1,h.task,h.up,h.done,h.asked,h.aup,h.tell⟩
theorem desk_new {js:List Job} (h:DeskOk c (next,js)) (hn:next≤1048576) (hl:js.length<6):DeskOk c (next+1,js++[(next,(1,([],([],(0,0)))))]):=by
 have h0:=h.n0
 simp only at h0
 refine ⟨by simp only; omega,by simp only; omega,by simp; omega,fun x hx=>?_,?_⟩
 ·rcases List.mem_append.1 hx with hx | hx
  ·exact (h.job x hx).mono (by simp only; omega)
  ·simp only [List.mem_singleton] at hx
   subst hx
   exact ⟨h0,by simp only; omega,by simp,by simp,by simp,by simp,by simp,by simp,by simp,by simp,List.Pairwise.nil,by simp,by simp,List.Pairwise.nil,by simp⟩
 ·rw [List.pairwise_append]
  refine ⟨h.up,List.pairwise_singleton _ _,fun x hx y hy=>?_⟩
  simp only [List.mem_singleton] at hy
  subst hy
  exact (h.job x hx).n1
structure TasksOk (c:Conf) (k st:Int) (ts:List Task):Prop where
 few:ts.length≤10
 task:∀ t∈ts,TaskOk c t∧t.2.2.2.2.2.1≤k
 up:ts.Pairwise fun x y=>x.2.2.2.2.2.1<y.2.2.2.2.2.1
 done:∀ (i:Nat) t,ts[i]?=some t→t.2.2.2.2.2.2.1=false→i+1=ts.length∧st=1
theorem JobOk.tasks (h:JobOk c next j):TasksOk c j.2.2.2.2.1 j.2.1 j.2.2.1:=⟨h.few,h.task,h.up,h.done⟩
theorem job_tasks (h:JobOk c next j) {ts:List Task} (ht:TasksOk c j.2.2.2.2.1 j.2.1 ts) {g:Int} (g0:0≤g) (g1:g≤1048576):JobOk c next (j.1,(j.2.1,(ts,(j.2.2.2.1,(j.2.2.2.2.1,g))))) :=
 ⟨h.n0,h.n1,g0,g1,h.s0,h.s1,ht.few,h.k0,h.k1,ht.task,ht.up,ht.done,h.asked,h.aup,h.tell⟩
theorem job_age (h:JobOk c next j) {g:Int} (g0:0≤g) (g1:g≤1048576):JobOk c next (j.1,(j.2.1,(j.2.2.1,(j.2.2.2.1,(j.2.2.2.2.1,g))))):=job_tasks h h.tasks g0 g1
theorem TasksOk.allDone {k st:Int} {ts:List Task} (h:TasksOk c k st ts) (hs:st≠1):∀ t∈ts,t.2.2.2.2.2.2.1=true:=fun t ht=>by
 obtain ⟨i,hi⟩:=List.getElem?_of_mem ht
 cases e:t.2.2.2.2.2.2.1 with
 | true=>rfl
 | false=>exact absurd (h.done i t hi e).2 hs
theorem TasksOk.init {k st:Int} {T:List Task} {t:Task} (h:TasksOk c k st (T++[t])):(∀ x∈T,x.2.2.2.2.2.2.1=true)∧TasksOk c k st T:=by
 have hd:∀ x∈T,x.2.2.2.2.2.2.1=true:=fun x hx=>by
  obtain ⟨i,hi⟩:=List.getElem?_of_mem hx
  have hil:=(List.getElem?_eq_some_iff.mp hi).1
  cases e:x.2.2.2.2.2.2.1 with
  | true=>rfl
  | false =>
   have:=(h.done i x (by rw [List.getElem?_append_left hil]; exact hi) e).1
   simp at this
   omega
 refine ⟨hd,?_,fun x hx=>h.task x (by simp [hx]),(List.pairwise_append.1 h.up).1,fun i x hx e=>?_⟩
 ·have:=h.few
  simp at this
  omega
 ·rw [hd x (List.mem_of_getElem? hx)] at e
  cases e
theorem TasksOk.last {k st:Int} {T:List Task} {t u:Task} (h:TasksOk c k st (T++[t])) (hu:TaskOk c u) (ha:u.2.2.2.2.2.1=t.2.2.2.2.2.1) (hd:u.2.2.2.2.2.2.1=true):TasksOk c k st (T++[u]):=by
 obtain ⟨h1,h2⟩:=h.init
 refine ⟨by have:=h.few; simp at this ⊢; omega,fun x hx=>?_,?_,fun i x hx e=>?_⟩
 ·rcases List.mem_append.1 hx with hx | hx
  ·exact h2.task x hx
  ·simp only [List.mem_singleton] at hx
   subst hx
   exact ⟨hu,by rw [ha]; exact (h.task t (by simp)).2⟩
 ·have hp:=h.up
  rw [List.pairwise_append] at hp ⊢
  refine ⟨hp.1,List.pairwise_singleton _ _,fun x hx y hy=>?_⟩
  simp only [List.mem_singleton] at hy
  subst hy
  rw [ha]
  exact hp.2.2 x hx t (by simp)
 ·rcases List.mem_append.1 (List.mem_of_getElem? hx) with hm | hm
  ·rw [h1 x hm] at e; cases e
  ·simp only [List.mem_singleton] at hm
   subst hm
   rw [hd] at e; cases e
theorem TasksOk.upd {k st:Int} {ts:List Task} (h:TasksOk c k st ts) (hs:st≠1) {m:Msg}:TasksOk c k st (ts.map (updT m)):=by
 have hd:=h.allDone hs
 have hu:∀ t:Task,(updT m t).1=t.1∧(updT m t).2.1=t.2.1∧(updT m t).2.2.1=t.2.2.1∧(updT m t).2.2.2.1=t.2.2.2.1∧(updT m t).2.2.2.2.1=t.2.2.2.2.1∧(updT m t).2.2.2.2.2.1=t.2.2.2.2.2.1∧(updT m t).2.2.2.2.2.2.1=t.2.2.2.2.2.2.1:=fun t=>by
  unfold updT
  cases hitB m t <;> exact ⟨rfl,rfl,rfl,rfl,rfl,rfl,rfl⟩
 refine ⟨by rw [List.length_map]; exact h.few,fun x hx=>?_,?_,fun i x hx e=>?_⟩
 ·obtain ⟨t,ht,rfl⟩:=List.mem_map.1 hx
  obtain ⟨u1,u2,u3,u4,u5,u6,u7⟩:=hu t
  obtain ⟨⟨l0,l1,y0,y1,v0,v1,n0,n1,a0,a1,-⟩,hk⟩:=h.task t ht
  rw [u6]
  refine ⟨⟨?_,?_,?_,?_,?_,?_,?_,?_,?_,?_,fun e=>?_⟩,hk⟩
  ·rw [u2]; exact l0
  ·rw [u2]; exact l1
  ·rw [u3]; exact y0
  ·rw [u3]; exact y1
  ·rw [u4]; exact v0
  ·rw [u4]; exact v1
  ·rw [u5]; exact n0
  ·rw [u5]; exact n1
  ·rw [u6]; exact a0
  ·rw [u6]; exact a1
  ·rw [u7,hd t ht] at e; cases e
 ·rw [List.pairwise_map]
  exact h.up.imp fun {x y} hxy=>by rw [(hu x).2.2.2.2.2.1,(hu y).2.2.2.2.2.1]; exact hxy
 ·obtain ⟨t,ht,rfl⟩:=List.mem_map.1 (List.mem_of_getElem? hx)
  rw [(hu t).2.2.2.2.2.2,hd t ht] at e; cases e
theorem job_new (h:JobOk c next j) (hs:j.2.1=1) (hd:∀ t∈j.2.2.1,t.2.2.2.2.2.2.1=true) (hl:j.2.2.1.length<10) (hk:j.2.2.2.2.1<1048576) {w:Bool} {lb y v:Int}
 (l0:0≤lb) (l1:lb<c.2.1.length) (y0:0≤y) (y1:y<8) (v0:0≤v) (v1:v≤1073741824) (hv:w=true∨v=0):JobOk c next (newJob j (w,(lb,(y,(v,(0,(0,(false,false)))))))):=by
 have hk0:=h.k0
 unfold newJob
 refine ⟨h.n0,h.n1,by simp,by simp,h.s0,h.s1,by simp; omega,by simp only; omega,by simp only; omega,fun t ht=>?_,?_,fun i t ht e=>⟨?_,hs⟩,h.asked,h.aup,h.tell⟩
 ·simp only at ht ⊢
  rcases List.mem_append.1 ht with ht | ht
  ·exact ⟨(h.task t ht).1,by have:=(h.task t ht).2; omega⟩
  ·simp only [List.mem_singleton] at ht
   subst ht
   exact ⟨⟨l0,l1,y0,y1,v0,v1,by simp,by simp,by simp only; omega,by simp only; omega,fun _=>⟨rfl,hv.imp id fun e=>⟨e,rfl⟩⟩⟩,by simp⟩
 ·simp only
  rw [List.pairwise_append]
  refine ⟨h.up,List.pairwise_singleton _ _,fun x hx y hy=>?_⟩
  simp only [List.mem_singleton] at hy
  subst hy
  have:=(h.task x hx).2
  simp only
  omega
 ·simp only at ht ⊢
  by_cases g:i<j.2.2.1.length
  ·rw [List.getElem?_append_left g] at ht
   rw [hd t (List.mem_of_getElem? ht)] at e; cases e
  ·have:=(List.getElem?_eq_some_iff.mp ht).1
   simp at this ⊢
   omega
theorem job_tell (h:JobOk c next j) (hd:∀ t∈j.2.2.1,t.2.2.2.2.2.2.1=true) {l:Int} {Q:List Int} (hQ:SitesOf c l j Q) (hne:Q≠[]):JobOk c next (telJob j Q) :=
 ⟨h.n0,h.n1,by simp [telJob],by simp [telJob],by simp [telJob],by simp [telJob],h.few,h.k0,h.k1,h.task,h.up,fun i t ht e=>by
  exact absurd (hd t (List.mem_of_getElem? ht)) (by rw [e]; simp),hQ.rng,hQ.up,by simp [telJob,hne]⟩
theorem job_chk (h:JobOk c next j) (hs:j.2.1=1) (hd:∀ t∈j.2.2.1,t.2.2.2.2.2.2.1=true):JobOk c next (chkJob j):=by
 have ha:j.2.2.2.1=[]:=Decidable.byContradiction fun e=>by
  have:=h.tell.2 e
  omega
 exact ⟨h.n0,h.n1,by simp [chkJob],by simp [chkJob],by simp [chkJob],by simp [chkJob],h.few,h.k0,h.k1,h.task,h.up,fun i t ht e=>by
  exact absurd (hd t (List.mem_of_getElem? ht)) (by rw [e]; simp),h.asked,h.aup,by simp [chkJob,ha]⟩
theorem job_ack (h:JobOk c next j) (hs:j.2.1=3) (p:Int→Bool) (hne:j.2.2.2.1.filter p≠[]):JobOk c next (j.1,(j.2.1,(j.2.2.1,(j.2.2.2.1.filter p,(j.2.2.2.2.1,j.2.2.2.2.2))))) :=
 ⟨h.n0,h.n1,h.g0,h.g1,h.s0,h.s1,h.few,h.k0,h.k1,h.task,h.up,h.done,fun s hs'=>h.asked s (List.mem_filter.1 hs' |>.1),h.aup.filter p,by simp [hs,hne]⟩
end
end Go.Hv
