import Derived.Test.YtlfcemfcgmidlaaDoorHvEndE
namespace Go.Hv
open Go.RowKit Go.Proofs Go.V
theorem sitesC {c:Conf} {l me next:Int} {A B:List Job} {j:Job} {ms:List Msg} {rs:List Rec} {ps:List Rep} {su co:Int} (hf:j.2.2.1.length≤10) (hs:c.1≠0) :
 ∃ out,loopR (r66_L0 j (mkW c l me next (A++j :: B) ms rs ps su co,(A.length:Int))) ((),((0:Int),[]))=some ((),out)∧out.Nodup∧out.length≤10∧∀ y,y∈out↔∃ t∈j.2.2.1,t.2.1=l∧siteOf c t=y:=by
 obtain ⟨h1,h2⟩:=fold_loop (body:=r66_L0 j (mkW c l me next (A++j :: B) ms rs ps su co,(A.length:Int))) (xs:=j.2.2.1) (emb:=fun i s=>((),(i,s))) (out:=fun s=>((),s))
  (fun s t=>if t.2.1=l∧¬ siteOf c t∈s then s++[siteOf c t] else s) (fun i s=>s.Nodup∧s.length≤i∧∀ y,y∈s↔∃ t∈j.2.2.1.take i,t.2.1=l∧siteOf c t=y) (by omega) (fun i t s ht hs'=>by
   obtain ⟨s1,s2,s3⟩:=hs'
   obtain ⟨e1,-,e3,e4⟩:=in_len ht
   have hil:=(List.getElem?_eq_some_iff.mp ht).1
   have hcn:=contains_is s (siteOf c t) (by omega)
   have htk:j.2.2.1.take (i+1)=j.2.2.1.take i++[t]:=by rw [List.take_add_one,ht]; rfl
   refine ⟨?_,?_,?_,fun y=>?_⟩
   ·unfold r66_L0
    simp only [e1,cond_true]
    unfold mkW
    simp only [Int.toNat_natCast,idx_mid,Option.bind_some,e3,e4,cond_true,decide_eq_false hs,cond_false]
    rw [show r74 (s,Int.tmod t.2.2.1 c.1)=some (decide (siteOf c t∈s)) from hcn]
    by_cases g:t.2.1=l
    ·by_cases g2:siteOf c t∈s
     ·rw [if_neg (fun h=>h.2 g2),decide_eq_true g,decide_eq_true g2]; rfl
     ·rw [if_pos ⟨g,g2⟩,decide_eq_true g,decide_eq_false g2,roomOk_true (show (2 * (s.length+1)+192) * 8≤281474976710656 by omega)]
      simp only [cond_true,Option.bind_some,Bool.not_false,app_eq]
      rfl
    ·rw [if_neg (fun h=>g h.1),decide_eq_false g]; rfl
   ·split
    ·rename_i g
     rw [List.nodup_append]
     exact ⟨s1,by simp,fun a ha b hb=>by simp at hb; subst hb; intro e; subst e; exact g.2 ha⟩
    ·exact s1
   ·split
    ·simp; omega
    ·omega
   ·rw [htk]
    constructor
    ·intro hy
     split at hy
     ·rename_i g
      rcases List.mem_append.1 hy with hy | hy
      ·obtain ⟨u,u1,u2⟩:=(s3 y).1 hy
       exact ⟨u,List.mem_append.2 (.inl u1),u2⟩
      ·simp at hy
       exact ⟨t,by simp,g.1,hy.symm⟩
     ·obtain ⟨u,u1,u2⟩:=(s3 y).1 hy
      exact ⟨u,List.mem_append.2 (.inl u1),u2⟩
    ·rintro ⟨u,u1,u2,u3⟩
     rcases List.mem_append.1 u1 with u1 | u1
     ·have:=(s3 y).2 ⟨u,u1,u2,u3⟩
      split
      ·exact List.mem_append.2 (.inl this)
      ·exact this
     ·simp at u1
      subst u1
      split
      ·subst u3; simp
      ·rename_i g
       subst u3
       exact Decidable.byContradiction fun e=>g ⟨u2,e⟩) (fun s _=>by
  unfold r66_L0
  simp only [at_len,cond_false]) (s0:=[]) ⟨List.nodup_nil,by simp,by simp⟩
 obtain ⟨g1,g2,g3⟩:=h2
 rw [List.take_length] at g3
 exact ⟨_,h1,g1,by omega,g3⟩
theorem fewC {c:Conf} {l me next:Int} {A B:List Job} {j:Job} {ms:List Msg} {rs:List Rec} {ps:List Rep} {su co:Int} (hf:j.2.2.1.length≤10) (hs:1≤c.1) (hk:∀ t∈j.2.2.1,0≤t.2.2.1) :
 ∃ out Q y,loopR (r66_L0 j (mkW c l me next (A++j :: B) ms rs ps su co,(A.length:Int))) ((),((0:Int),[]))=some ((),out)∧r127 (Go.IntKind.wrap .u64 (out.length:Int))=some y∧loopR r66_L3 ((),((),((0:Int),((out.length:Int),(y,(true,(true,out)))))))=some ((),Q) ∧
  Q.length≤10∧(Q.Pairwise fun x y=>x<y)∧(∀ s∈Q,0≤s∧s<c.1)∧∀ s,s∈Q↔∃ t∈j.2.2.1,t.2.1=l∧siteOf c t=s:=by
 obtain ⟨out,h1,h2,h3,h4⟩:=sitesC (c:=c) (l:=l) (me:=me) (next:=next) (A:=A) (B:=B) (j:=j) (ms:=ms) (rs:=rs) (ps:=ps) (su:=su) (co:=co) hf (by omega)
 obtain ⟨y,hy⟩:=lenC (n:=out.length) (by omega)
 obtain ⟨Q,q1,q2,q3⟩:=sortC (xs:=out) (by omega) y
 refine ⟨out,Q,y,h1,hy,q1,by rw [q2.length_eq]; exact h3,?_,fun s hs'=>?_,fun s=>by rw [q2.mem_iff]; exact h4 s⟩
 ·have hn:Q.Nodup:=q2.nodup_iff.2 h2
  exact (q3.and hn).imp fun h=>by have:=h.1; have:=h.2; omega
 ·obtain ⟨t,t1,-,t3⟩:=(h4 s).1 (q2.mem_iff.1 hs')
  rw [← t3]
  exact tmod_site hs (hk t t1)
end Go.Hv
