import Derived.Test.YtlfcemfcgmidlaaDoorHvPair
namespace Go.Hv
open Go.RowKit Go.Proofs Go.V
section
variable {c:Conf} {next:Int} {A B:List Job} {j j':Job}
theorem JobOk.mono {n':Int} (h:JobOk c next j) (hn:next≤n'):JobOk c n' j :=
 ⟨h.n0,by have:=h.n1; omega,h.g0,h.g1,h.s0,h.s1,h.few,h.k0,h.k1,h.task,h.up,h.done,h.asked,h.aup,h.tell⟩
structure TasksOk (c:Conf) (k st:Int) (ts:List Task):Prop where
 few:ts.length≤10
 task:∀ t∈ts,TaskOk c t∧t.2.2.2.2.2.1≤k
 up:ts.Pairwise fun x y=>x.2.2.2.2.2.1<y.2.2.2.2.2.1
 done:∀ (i:Nat) t,ts[i]?=some t→t.2.2.2.2.2.2.1=false→i+1=ts.length∧st=1
theorem TasksOk.allDone {k st:Int} {ts:List Task} (h:TasksOk c k st ts) (hs:st≠1):∀ t∈ts,t.2.2.2.2.2.2.1=true:=fun t ht=>by
 obtain ⟨i,hi⟩:=List.getElem?_of_mem ht
 cases e:t.2.2.2.2.2.2.1 with
 | true=>rfl
 | false=>exact absurd (h.done i t hi e).2 hs
theorem TasksOk.upd {k st:Int} {ts:List Task} (h:TasksOk c k st ts) (hs:st≠1) {m:Msg}:TasksOk c k st (ts.map (updT m)):=by
 have hd:=h.allDone hs
 have hu:∀ t:Task,(updT m t).1=t.1∧(updT m t).2.1=t.2.1∧(updT m t).2.2.1=t.2.2.1∧(updT m t).2.2.2.1=t.2.2.2.1∧(updT m t).2.2.2.2.1=t.2.2.2.2.1∧(updT m t).2.2.2.2.2.1=t.2.2.2.2.2.1∧(updT m t).2.2.2.2.2.2.1=t.2.2.2.2.2.2.1:=fun t=>by
  unfold updT
  cases hitB m t <;> exact ⟨rfl,rfl,rfl,rfl,rfl,rfl,rfl⟩
 refine ⟨by rw [List.length_map]; exact h.few,fun x hx=>?_,?_,fun i x hx e=>?_⟩
 ·obtain ⟨t,ht,rfl⟩:=List.mem_map.1 hx
  obtain ⟨u1,u2,u3,u4,u5,u6,u7⟩:=hu t
  obtain ⟨⟨l0,l1,y0,y1,v0,v1,n0,n1,a0,a1,-⟩,hk⟩:=h.task t ht
  rw [u6]
  refine ⟨⟨?_,?_,?_,?_,?_,?_,?_,?_,?_,?_,fun e=>?_⟩,hk⟩
  ·rw [u2]; exact l0
  ·rw [u2]; exact l1
  ·rw [u3]; exact y0
  ·rw [u3]; exact y1
  ·rw [u4]; exact v0
  ·rw [u4]; exact v1
  ·rw [u5]; exact n0
  ·rw [u5]; exact n1
  ·rw [u6]; exact a0
  ·rw [u6]; exact a1
  ·rw [u7,hd t ht] at e; cases e
 ·rw [List.pairwise_map]
  exact h.up.imp fun {x y} hxy=>by rw [(hu x).2.2.2.2.2.1,(hu y).2.2.2.2.2.1]; exact hxy
 ·obtain ⟨t,ht,rfl⟩:=List.mem_map.1 (List.mem_of_getElem? hx)
  rw [(hu t).2.2.2.2.2.2,hd t ht] at e; cases e
end
end Go.Hv
