import Derived.Test.YtlfcemfcgmidlaaDoorHvCfg
import Derived.Test.YtlfcemfcgmidlaaDoorHaDel
import Derived.Test.YtlfcemfcgmidlaaDoorHaRun
namespace Go.Hv
open Go.RowKit Go.Proofs Go.V
abbrev Task:=Bool×(Int×(Int×(Int×(Int×(Int×(Bool×Bool))))))
abbrev Job:=Int×(Int×(List Task×(List Int×(Int×Int))))
abbrev Desk:=Int×List Job
abbrev Conf:=Int×(List (Int×Int)×Int)
structure TaskOk (c:Conf) (t:Task):Prop where
 l0:0≤t.2.1
 l1:t.2.1<c.2.1.length
 y0:0≤t.2.2.1
 y1:t.2.2.1<8
 v0:0≤t.2.2.2.1
 v1:t.2.2.2.1≤1073741824
 n0:0≤t.2.2.2.2.1
 n1:t.2.2.2.2.1≤1048576
 a0:1≤t.2.2.2.2.2.1
 a1:t.2.2.2.2.2.1≤1048576
 fresh:t.2.2.2.2.2.2.1=false→t.2.2.2.2.2.2.2=false∧(t.1=true∨(t.2.2.2.1=0∧t.2.2.2.2.1=0))
structure JobOk (c:Conf) (next:Int) (j:Job):Prop where
 n0:1≤j.1
 n1:j.1<next
 g0:0≤j.2.2.2.2.2
 g1:j.2.2.2.2.2≤1048576
 s0:1≤j.2.1
 s1:j.2.1≤3
 few:j.2.2.1.length≤10
 k0:0≤j.2.2.2.2.1
 k1:j.2.2.2.2.1≤1048576
 task:∀ t∈j.2.2.1,TaskOk c t∧t.2.2.2.2.2.1≤j.2.2.2.2.1
 up:j.2.2.1.Pairwise fun x y=>x.2.2.2.2.2.1<y.2.2.2.2.2.1
 done:∀ (i:Nat) t,j.2.2.1[i]?=some t→t.2.2.2.2.2.2.1=false→i+1=j.2.2.1.length∧j.2.1=1
 asked:∀ s∈j.2.2.2.1,0≤s∧s<c.1
 aup:j.2.2.2.1.Pairwise fun x y=>x<y
 tell:j.2.1=3↔j.2.2.2.1≠[]
structure DeskOk (c:Conf) (d:Desk):Prop where
 n0:1≤d.1
 n1:d.1≤1048577
 few:d.2.length≤6
 job:∀ j∈d.2,JobOk c d.1 j
 up:d.2.Pairwise fun x y=>x.1<y.1
theorem pw_get {β:Type} {R:β→β→Prop} {l:List β} (h:l.Pairwise R) {i j:Nat} {x y:β} (hij:i<j) (hx:l[i]?=some x) (hy:l[j]?=some y):R x y:=by
 obtain ⟨h1,rfl⟩:=List.getElem?_eq_some_iff.mp hx
 obtain ⟨h2,rfl⟩:=List.getElem?_eq_some_iff.mp hy
 exact List.pairwise_iff_getElem.1 h i j h1 h2 hij
theorem up_key:∀ (m:List Int) (a k:Int),(∀ s∈m,a<s∧s<k)→(m.Pairwise fun x y=>x<y)→(m.length:Int)≤k - (a+1)∨m=[]
 | [],_,_,_,_=>.inr rfl
 | x :: m,a,k,h1,h2=>by
  left
  rw [List.pairwise_cons] at h2
  have hx:=h1 x List.mem_cons_self
  rcases up_key m x k (fun s hs=>⟨h2.1 s hs,(h1 s (List.mem_cons_of_mem _ hs)).2⟩) h2.2 with g | g
  ·simp only [List.length_cons]; omega
  ·subst g; simp; omega
theorem up_few {c:Int} {l:List Int} (h1:∀ s∈l,0≤s∧s<c) (h2:l.Pairwise fun x y=>x<y):(l.length:Int)≤c∨l=[]:=by
 rcases up_key l (-1) c (fun s hs=>⟨by have:=(h1 s hs).1; omega,(h1 s hs).2⟩) h2 with g | g
 ·left; omega
 ·exact .inr g
theorem task_ok {c:Conf} {t:Task} (h:TaskOk c t):r59 (c,t)=some true:=by
 obtain ⟨w,l,y,v,n,a,d,s⟩:=t
 obtain ⟨l0,l1,y0,y1,v0,v1,n0,n1,a0,a1,fr⟩:=h
 simp only at l0 l1 y0 y1 v0 v1 n0 n1 a0 a1 fr
 unfold r59
 simp only [decide_eq_false (show ¬ l<0 by omega),decide_eq_false (show ¬ (c.2.1.length:Int)≤l by omega),decide_eq_false (show ¬ y<0 by omega),decide_eq_false (show ¬ 8≤y by omega),decide_eq_false (show ¬ v<0 by omega),decide_eq_false (show ¬ 1073741824<v by omega),
  decide_eq_false (show ¬ n<0 by omega),decide_eq_false (show ¬ 1048576<n by omega),decide_eq_false (show ¬ a<1 by omega),decide_eq_false (show ¬ 1048576<a by omega),Bool.not_false,cond_true,cond_false,Option.bind_some]
 cases d with
 | true=>rfl
 | false =>
  obtain ⟨f1,f2⟩:=fr rfl
  subst f1
  simp only [Bool.not_false,cond_true]
  rcases f2 with f2 | ⟨f2,f3⟩
  ·subst f2; rfl
  ·subst f2; subst f3
   cases w <;> rfl
theorem job_ok {c:Conf} (hc:c.1≤4) {d:Desk} (_hn:d.1≤1048577) {j:Job} (h:JobOk c d.1 j):r30 (c,d,j)=some true:=by
 have h1:=h.n0
 have h2:=h.n1
 have h3:=h.few
 have h4:=h.g0
 have h5:=h.g1
 have h6:=h.s0
 have h7:=h.s1
 have h8:=h.k0
 have h9:=h.k1
 have hfew:=up_few h.asked h.aup
 have hal:(j.2.2.2.1.length:Int)≤4:=by
  rcases hfew with g | g
  ·omega
  ·rw [g]; simp
 have l0:loopR (r30_L0 (c,d,j)) (0:Int)=some (.inl ()):=by
  refine all_loop (xs:=j.2.2.1) (by omega) (fun i x hx=>?_) ?_
  ·obtain ⟨e1,e2,-⟩:=in_len hx
   obtain ⟨t1,t2⟩:=h.task x (List.mem_of_getElem? hx)
   have hil:=(List.getElem?_eq_some_iff.mp hx).1
   have ta:=task_ok t1
   have wl:Go.IntKind.wrap .i64 ((j.2.2.1.length:Int) - 1)=(j.2.2.1.length:Int) - 1:=wrap_i64 (by unfold i64; omega)
   have tl:(bif !(x.2.2.2.2.2.2.1) then bif !(decide ((i:Int)<(j.2.2.1.length:Int) - 1)) then bif !(x.2.2.2.2.2.2.1) then some (!(decide (j.2.1=1))) else some false else some true else bif !(x.2.2.2.2.2.2.1) then some (!(decide (j.2.1=1))) else some false)=some false:=by
    cases e:x.2.2.2.2.2.2.1 with
    | true=>rfl
    | false =>
     obtain ⟨f1,f2⟩:=h.done i x hx e
     rw [decide_eq_false (show ¬ (i:Int)<(j.2.2.1.length:Int) - 1 by omega),decide_eq_true f2]; rfl
   unfold r30_L0
   simp only [e1,e2,ta,cond_true,Option.bind_some,Bool.not_true,Bool.not_false,decide_eq_false (show ¬ j.2.2.2.2.1<x.2.2.2.2.2.1 by omega),wl]
   by_cases g:(0:Int)<(i:Int)
   ·have hy:j.2.2.1[i - 1]?=some (j.2.2.1[i - 1]'(by omega)):=List.getElem?_eq_getElem (by omega)
    have hlt:=pw_get h.up (show i - 1<i by omega) hy hx
    obtain ⟨f1,f2,-⟩:=in_len hy
    have hw:Go.IntKind.wrap .i64 ((i:Int) - 1)=((i - 1:Nat):Int):=by
     rw [wrap_i64 (by unfold i64; omega)]; omega
    simp only [decide_eq_true g,cond_true,hw,f2,Option.bind_some,decide_eq_false (show ¬ x.2.2.2.2.2.1≤(j.2.2.1[i - 1]'(by omega)).2.2.2.2.2.1 by omega),Bool.not_false,tl,cond_false]
   ·simp only [decide_eq_false g,cond_false,tl,Option.bind_some]
  ·unfold r30_L0
   simp only [at_len,cond_false]
 have l1:loopR (r30_L1 (c,d,j)) (0:Int)=some (.inl ()):=by
  refine all_loop (xs:=j.2.2.2.1) (by omega) (fun i x hx=>?_) ?_
  ·obtain ⟨e1,e2,-⟩:=in_len hx
   have hb:=h.asked x (List.mem_of_getElem? hx)
   unfold r30_L1
   simp only [e1,e2,cond_true,Option.bind_some,decide_eq_false (show ¬ x<0 by omega),decide_eq_false (show ¬ c.1≤x by omega),Bool.not_false]
   by_cases g:(0:Int)<(i:Int)
   ·have hil:=(List.getElem?_eq_some_iff.mp hx).1
    have hy:j.2.2.2.1[i - 1]?=some (j.2.2.2.1[i - 1]'(by omega)):=List.getElem?_eq_getElem (by omega)
    have hlt:=pw_get h.aup (show i - 1<i by omega) hy hx
    obtain ⟨f1,f2,-⟩:=in_len hy
    have hw:Go.IntKind.wrap .i64 ((i:Int) - 1)=((i - 1:Nat):Int):=by
     rw [wrap_i64 (by unfold i64; omega)]; omega
    simp only [decide_eq_true g,cond_true,hw,f2,Option.bind_some,decide_eq_false (show ¬ x≤j.2.2.2.1[i - 1]'(by omega) by omega),cond_false]
   ·simp only [decide_eq_false g,cond_false,Option.bind_some]
  ·unfold r30_L1
   simp only [at_len,cond_false]
 have htell:decide (decide (j.2.1=3)=decide ((0:Int)<(j.2.2.2.1.length:Int)))=true:=by
  refine decide_eq_true ?_
  by_cases g:j.2.1=3
  ·have:=List.length_pos_iff.2 (h.tell.1 g)
   rw [decide_eq_true g,decide_eq_true (by omega)]
  ·have:j.2.2.2.1=[]:=Decidable.byContradiction fun e=>g (h.tell.2 e)
   rw [decide_eq_false g,this]; rfl
 unfold r30
 simp only [decide_eq_false (show ¬ j.1<1 by omega),decide_eq_false (show ¬ d.1≤j.1 by omega),decide_eq_false (show ¬ j.2.2.2.2.2<0 by omega),decide_eq_false (show ¬ 1048576<j.2.2.2.2.2 by omega),decide_eq_false (show ¬ j.2.1<1 by omega),decide_eq_false (show ¬ 3<j.2.1 by omega),
  decide_eq_false (show ¬ (10:Int)<(j.2.2.1.length:Int) by omega),decide_eq_false (show ¬ j.2.2.2.2.1<0 by omega),decide_eq_false (show ¬ 1048576<j.2.2.2.2.1 by omega),l0,l1,htell,Bool.not_false,cond_true,cond_false,Option.bind_some,Sum.elim_inl]
theorem desk_ok {c:Conf} (hc:c.1≤4) (hk:r29 c=some 0) {d:Desk} (h:DeskOk c d):r16 (c,d)=some 0:=by
 have h1:=h.n0
 have h2:=h.n1
 have h3:=h.few
 have l0:loopR (r16_L0 (c,d)) (0:Int)=some (.inl ()):=by
  refine all_loop (xs:=d.2) (by omega) (fun i x hx=>?_) ?_
  ·obtain ⟨e1,e2,-⟩:=in_len hx
   have hil:=(List.getElem?_eq_some_iff.mp hx).1
   unfold r16_L0
   simp only [e1,e2,cond_true,Option.bind_some,job_ok hc h.n1 (h.job x (List.mem_of_getElem? hx)),Bool.not_true,Bool.not_false]
   by_cases g:(0:Int)<(i:Int)
   ·have hy:d.2[i - 1]?=some (d.2[i - 1]'(by omega)):=List.getElem?_eq_getElem (by omega)
    have hlt:=pw_get h.up (show i - 1<i by omega) hy hx
    obtain ⟨f1,f2,-⟩:=in_len hy
    have hw:Go.IntKind.wrap .i64 ((i:Int) - 1)=((i - 1:Nat):Int):=by
     rw [wrap_i64 (by unfold i64; omega)]; omega
    simp only [decide_eq_true g,cond_true,hw,f2,Option.bind_some,decide_eq_false (show ¬ x.1≤(d.2[i - 1]'(by omega)).1 by omega),cond_false]
   ·simp only [decide_eq_false g,cond_false,Option.bind_some]
  ·unfold r16_L0
   simp only [at_len,cond_false]
 unfold r16
 simp only [hk,decide_true,Bool.not_true,Bool.not_false,cond_true,cond_false,Option.bind_some,decide_eq_false (show ¬ d.1<1 by omega),decide_eq_false (show ¬ (1048577:Int)<d.1 by omega),decide_eq_false (show ¬ (6:Int)<(d.2.length:Int) by omega),l0,Sum.elim_inl]
end Go.Hv
