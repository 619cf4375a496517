import Derived.Test.YtlfcemfcgmidlaaDoorHvSortE
namespace Go.Hv
open Go.RowKit Go.Proofs Go.V
theorem lessC (x y:Int):r139 (x,y)=some (decide (x<y)):=by
 unfold r139 r131
 simp only [decide_true,Bool.not_true,Bool.not_false,Option.bind_some,cond_false,cond_true]
theorem lenC {n:Nat} (h:n≤12):∃ y,r127 (Go.IntKind.wrap .u64 (n:Int))=some y:=by
 have key:∀ k:Fin 13,(r127 (Go.IntKind.wrap .u64 ((k.val:Nat):Int))).isSome=true:=by decide +kernel
 have:=key ⟨n,by omega⟩
 exact Option.isSome_iff_exists.1 this
theorem insC {d:(Unit×(Unit×(Int×(Int×(Int×(Bool×(Bool×List Int)))))))} (h0:d.2.2.1=0):∀ (k:Nat) (P P2 R:List Int) (v:Int),P.length=k→(P++P2).Pairwise (fun a b=>a≤b)→(∀ p∈P2,v<p)→P.length≤1000 →
 ∃ Q,loopR (r66_L1 d) ((),((),((P.length:Int),P++v :: (P2++R))))=some ((),((),Q++R))∧Q.Perm (v :: (P++P2))∧Q.Pairwise (fun a b=>a≤b):=by
 intro k
 induction k with
 | zero =>
  intro P P2 R v hP hs hv _
  have:P=[]:=List.length_eq_zero_iff.1 hP
  subst this
  refine ⟨v :: P2,?_,.refl _,List.pairwise_cons.2 ⟨fun p hp=>by have:=hv p hp; omega,by simpa using hs⟩⟩
  rw [loopR_go]
  have:r66_L1 d ((),((),((([]:List Int).length:Int),[]++v :: (P2++R))))=some (.inr ((),((),[]++v :: (P2++R)))):=by
   unfold r66_L1
   simp only [h0,List.length_nil,Int.natCast_zero,Int.lt_irrefl,decide_false,cond_false,Option.bind_some]
  rw [this,goL_inr]
  rfl
 | succ k ih =>
  intro P P2 R v hP hs hv hl
  rcases List.eq_nil_or_concat P with rfl | ⟨P',p,hPe⟩
  ·simp at hP
  rw [List.concat_eq_append] at hPe
  subst hPe
  have hP':P'.length=k:=by simpa using hP
  have hl':P'.length≤999:=by simp at hl; omega
  have hlen:(P'++[p]).length=P'.length+1:=by simp
  have hL:(P'++[p])++v :: (P2++R)=P'++p :: v :: (P2++R):=by simp
  have e2:=idx_mid (P'++[p]) v (P2++R)
  have e1:=inB_mid (P'++[p]) v (P2++R)
  have e6:=set_mid (P'++[p]) v p (P2++R)
  rw [hlen] at e1 e2 e6
  rw [hL] at e1 e2 e6
  have e4:=inB_mid P' p (v :: (P2++R))
  have e5:=idx_mid P' p (v :: (P2++R))
  have hL2:(P'++[p])++p :: (P2++R)=P'++p :: p :: (P2++R):=by simp
  rw [hL2] at e6
  have e7:=idx_mid P' p (p :: (P2++R))
  have e8:=inB_mid P' p (p :: (P2++R))
  have e9:=set_mid P' p v (p :: (P2++R))
  have ew:Go.IntKind.wrap .i64 (((P'.length+1:Nat):Int) - 1)=(P'.length:Int):=by rw [wrap_i64 (by unfold i64; omega)]; omega
  have hsP:=List.pairwise_append.1 hs
  rw [loopR_go]
  by_cases c:v<p
  ·have hb:r66_L1 d ((),((),(((P'++[p]).length:Int),(P'++[p])++v :: (P2++R))))=some (.inl ((),((),((P'.length:Int),P'++v :: ((p :: P2)++R))))):=by
    rw [hL,hlen]
    unfold r66_L1
    simp only [h0,decide_eq_true (show (0:Int)<((P'.length+1:Nat):Int) by omega),cond_true,e1,Int.toNat_natCast,e2,Option.bind_some,ew,e4,e5,lessC,decide_eq_true c,e6,e7,e8,e9]
    rfl
   rw [hb,goL_inl]
   have hs':(P'++p :: P2).Pairwise (fun a b=>a≤b):=by simpa using hs
   obtain ⟨Q,q1,q2,q3⟩:=ih P' (p :: P2) R v hP' hs' (fun y hy=>by
    rcases List.mem_cons.1 hy with rfl | hy
    ·exact c
    ·exact hv y hy) (by omega)
   exact ⟨Q,q1,by simpa using q2,q3⟩
  ·refine ⟨(P'++[p])++v :: P2,?_,List.perm_middle,?_⟩
   ·have hb:r66_L1 d ((),((),(((P'++[p]).length:Int),(P'++[p])++v :: (P2++R))))=some (.inr ((),((),(P'++[p])++v :: (P2++R)))):=by
     rw [hL,hlen]
     unfold r66_L1
     simp only [h0,decide_eq_true (show (0:Int)<((P'.length+1:Nat):Int) by omega),cond_true,e1,Int.toNat_natCast,e2,Option.bind_some,ew,e4,e5,lessC,decide_eq_false c,cond_false]
    rw [hb,goL_inr]
    simp
   ·rw [List.pairwise_append]
    refine ⟨hsP.1,List.pairwise_cons.2 ⟨fun y hy=>by have:=hv y hy; omega,hsP.2.1⟩,fun a ha b hb=>?_⟩
    have hap:a≤p:=by
     rcases List.mem_append.1 ha with ha | ha
     ·have h1:=List.pairwise_append.1 hsP.1
      exact h1.2.2 a ha p (by simp)
     ·simp at ha; omega
    rcases List.mem_cons.1 hb with rfl | hb
    ·omega
    ·have:=hv b hb; omega
theorem outerC {d:(Unit×(Unit×(Int×(Int×(Int×(Bool×(Bool×List Int)))))))} (h0:d.2.2.1=0):∀ (R S:List Int),d.2.2.2.1=((S++R).length:Int)→S.Pairwise (fun a b=>a≤b)→(S++R).length≤900 →
 ∃ Q,loopR (r66_L2 d) ((),((),((S.length:Int),S++R)))=some ((),Q)∧Q.Perm (S++R)∧Q.Pairwise (fun a b=>a≤b):=by
 intro R
 induction R with
 | nil =>
  intro S hn hs _
  refine ⟨S,?_,by simp,hs⟩
  rw [List.append_nil] at hn ⊢
  rw [loopR_go]
  have:r66_L2 d ((),((),((S.length:Int),S)))=some (.inr ((),S)):=by
   unfold r66_L2
   simp only [hn,at_len,cond_false]
  rw [this,goL_inr]
 | cons v R ih =>
  intro S hn hs hl
  have hSl:S.length≤900:=by simp at hl; omega
  obtain ⟨Q,q1,q2,q3⟩:=insC h0 S.length S [] R v rfl (by simpa using hs) (by simp) (by omega)
  rw [List.nil_append] at q1
  have hQ:Q.length=S.length+1:=by rw [q2.length_eq]; simp
  have hb:r66_L2 d ((),((),((S.length:Int),S++v :: R)))=some (.inl ((),((),((Q.length:Int),Q++R)))):=by
   have hw:Go.IntKind.wrap .i64 ((S.length:Int)+1)=(Q.length:Int):=by rw [wrap_i64 (by unfold i64; omega)]; omega
   unfold r66_L2
   simp only [hn,decide_eq_true (show (S.length:Int)<((S++v :: R).length:Int) by simp; omega),cond_true,q1,Option.bind_some,hw]
  have hp:(Q++R).Perm (S++v :: R):=by
   have h1:Q.Perm (v :: S):=by simpa using q2
   exact (h1.append_right R).trans (List.perm_middle (l₁:=S)).symm
  obtain ⟨Q',t1,t2,t3⟩:=ih Q (by rw [hn,hp.length_eq]) q3 (by rw [hp.length_eq]; exact hl)
  refine ⟨Q',?_,t2.trans hp,t3⟩
  rw [loopR_go,hb,goL_inl,t1]
theorem sortC {xs:List Int} (h:xs.length≤12) (y:Int):∃ Q,loopR r66_L3 ((),((),((0:Int),((xs.length:Int),(y,(true,(true,xs)))))))=some ((),Q)∧Q.Perm xs∧Q.Pairwise (fun a b=>a≤b):=by
 have hw:Go.IntKind.wrap .i64 ((xs.length:Int) - 0)=(xs.length:Int):=by rw [wrap_i64 (by unfold i64; omega)]; omega
 have h1:Go.IntKind.wrap .i64 ((0:Int)+1)=1:=rfl
 have key:∃ Q,loopR (r66_L2 ((),((),((0:Int),((xs.length:Int),(y,(true,(true,xs)))))))) ((),((),((1:Int),xs)))=some ((),Q)∧Q.Perm xs∧Q.Pairwise (fun a b=>a≤b):=by
  cases xs with
  | nil =>
   refine ⟨[],?_,.refl _,List.Pairwise.nil⟩
   rw [loopR_go]
   unfold r66_L2
   simp only [List.length_nil,Int.natCast_zero,decide_eq_false (show ¬ (1:Int)<0 by omega),cond_false,goL_inr]
  | cons a R=>exact outerC (d:=((),((),((0:Int),(((a :: R).length:Int),(y,(true,(true,a :: R)))))))) rfl R [a] rfl (List.pairwise_singleton _ _) (by simp at h ⊢; omega)
 obtain ⟨Q,q1,q2,q3⟩:=key
 refine ⟨Q,?_,q2,q3⟩
 rw [loopR_go]
 have hb:r66_L3 ((),((),((0:Int),((xs.length:Int),(y,(true,(true,xs)))))))=some (.inr ((),Q)):=by
  unfold r66_L3
  simp only [hw,h1,decide_eq_true (show (xs.length:Int)≤12 by omega),cond_true,q1,Option.bind_some]
 rw [hb,goL_inr]
end Go.Hv
