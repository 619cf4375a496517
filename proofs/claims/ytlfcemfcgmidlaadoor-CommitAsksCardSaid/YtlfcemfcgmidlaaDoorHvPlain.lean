import Derived.Test.YtlfcemfcgmidlaaDoorHvPair
namespace Go.Hv
open Go.RowKit Go.Proofs Go.V
theorem call_commit {c:Conf} {l me:Int} {d:Desk} {room:Int} {x:Int×(Int×(Int×(Int×Int)))} (hc:c.1≤4) (hk:r29 c=some 0) (hd:DeskOk c d) (l0:0≤l) (l1:l<c.2.1.length) (m0:0≤me) (m1:me<c.1) (x0:x.1=4)
 (hr:r33 (mkW c l me d.1 d.2 [] [] [] 0 0,x)=some (0,mkW c l me d.1 d.2 [] [] [] 0 0)) {i:Int} (hp:r35 (mkW c l me d.1 d.2 [] [] [] 0 0,x.2.1)=some (i,mkW c l me d.1 d.2 [] [] [] 0 0))
 {z:Work} (hz:r37 (mkW c l me d.1 d.2 [] [] [] 0 0,i)=some z) :
 r17 (c,(l,(me,(d,(room,x)))))=some (z.2.2.2,0):=by
 have hck:=desk_ok hc hk hd
 have how:=own_is hc hd
 unfold mkW at hr hp hz
 unfold r17
 simp only [hck,how,Option.bind_some,decide_true,Bool.not_true,Bool.not_false,cond_true,cond_false,decide_eq_false (show ¬ l<0 by omega),decide_eq_false (show ¬ (c.2.1.length:Int)≤l by omega),decide_eq_false (show ¬ me<0 by omega),decide_eq_false (show ¬ c.1≤me by omega),
  decide_eq_false (show ¬ x.1<1 by omega),decide_eq_false (show ¬ 5<x.1 by omega),decide_eq_false (show ¬ x.1=1 by omega),hr,hp,decide_eq_false (show ¬ x.1=2 by omega),decide_eq_false (show ¬ x.1=3 by omega),decide_eq_true x0,hz]
def PutT (ts:List Task):Prop:=∀ (i:Nat) t,ts[i]?=some t→t.1=true∧t.2.1=0∧0≤t.2.2.1∧t.2.2.1<8∧0≤t.2.2.2.1∧t.2.2.2.1≤10∧t.2.2.2.2.1=0∧t.2.2.2.2.2.1=(i:Int)+1∧t.2.2.2.2.2.2.1=true∧t.2.2.2.2.2.2.2=false
abbrev deskT (ts:List Task):Desk:=(2,[(1,(1,(ts,([],((ts.length:Int),0)))))])
theorem PutT.snoc {ts:List Task} (h:PutT ts) {t:Task} (ht:t.1=true∧t.2.1=0∧0≤t.2.2.1∧t.2.2.1<8∧0≤t.2.2.2.1∧t.2.2.2.1≤10∧t.2.2.2.2.1=0∧t.2.2.2.2.2.1=(ts.length:Int)+1∧t.2.2.2.2.2.2.1=true∧t.2.2.2.2.2.2.2=false):PutT (ts++[t]):=by
 intro i u hu
 by_cases g:i<ts.length
 ·rw [List.getElem?_append_left g] at hu
  exact h i u hu
 ·rw [List.getElem?_append_right (by omega)] at hu
  have hi:=(List.getElem?_eq_some_iff.mp hu).1
  simp only [List.length_singleton] at hi
  have hi:i=ts.length:=by omega
  subst hi
  simp at hu
  subst hu
  exact ht
theorem PutT.ok {n:Int} {ts:List Task} (h:PutT ts) (hl:ts.length≤10):(∀ t∈ts,TaskOk (two1 n) t∧t.2.2.2.2.2.1≤(ts.length:Int))∧(ts.Pairwise fun x y=>x.2.2.2.2.2.1<y.2.2.2.2.2.1):=by
 refine ⟨fun t ht=>?_,?_⟩
 ·obtain ⟨i,hi⟩:=List.getElem?_of_mem ht
  have hil:=(List.getElem?_eq_some_iff.mp hi).1
  obtain ⟨g1,g2,g3,g4,g5,g6,g7,g8,g9,g10⟩:=h i t hi
  exact ⟨⟨by omega,by rw [g2]; simp,g3,g4,g5,by omega,by omega,by omega,by omega,by omega,fun e=>by rw [g9] at e; cases e⟩,by omega⟩
 ·rw [List.pairwise_iff_getElem]
  intro i j hi hj hij
  have h1:=(h i _ (List.getElem?_eq_getElem hi)).2.2.2.2.2.2.2.1
  have h2:=(h j _ (List.getElem?_eq_getElem hj)).2.2.2.2.2.2.2.1
  omega
theorem place_one {c:Conf} {l me next:Int} {j:Job} (hj:j.1=1):r35 (mkW c l me next [j] [] [] [] 0 0,1)=some (0,mkW c l me next [j] [] [] [] 0 0):=by
 have h:=place_is (mkW c l me next [j] [] [] [] 0 0) 1 (by simp [mkW])
 rw [show (mkW c l me next [j] [] [] [] 0 0).2.2.2.1.2=[]++j :: [] from rfl,idx_some hj (by simp)] at h
 exact h
section
variable {n:Int} {ts:List Task} {k v:Int}
end
def Hands (n:Int) (ts:List Task) (hands:List Bool) (cnt:Int):Prop :=
 hands.length=n.toNat∧cnt≤ts.length∧∃ D:List Int,D.Nodup∧cnt=(D.length:Int)∧(∀ s,s∈D↔∃ t∈ts,siteOf (two1 n) t=s)∧∀ k:Nat,(k:Int)<n→idxN hands k=some (decide ((k:Int)∈D))
theorem Hands.few {n:Int} {ts:List Task} {hands:List Bool} {cnt:Int} (h:Hands n ts hands cnt) (hl:ts.length≤10):cnt≤10:=by
 have:=h.2.1
 omega
end Go.Hv
