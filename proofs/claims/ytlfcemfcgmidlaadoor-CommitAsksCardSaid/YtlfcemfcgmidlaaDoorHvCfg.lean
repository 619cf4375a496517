import Derived.Test.YtlfcemfcgmidlaaDoorHvSeven
import Derived.Test.YtlfcemfcgmidlaaDoorHaLaw
namespace Go.Hv.Cf
open Go.RowKit Go.Proofs Go.V
theorem picked_is {n m:Int} (h:i64 n) (hm:0<m):∃ v,r15 (n,m)=some v∧0≤v∧v<m:=by
 unfold r15
 simp only
 have hz:decide (m=0)=false:=decide_eq_false (by omega)
 unfold i64 at h
 by_cases c:n<0
 ·rw [decide_eq_true c,wrap_i64 (n:=n+1) (by unfold i64; omega),wrap_i64 (by unfold i64; omega)]
  refine ⟨_,by simp only [cond_true,Option.bind_some,hz,cond_false]; rfl,?_,?_⟩
  ·rw [Int.tmod_eq_emod_of_nonneg (by omega)]; exact Int.emod_nonneg _ (by omega)
  ·rw [Int.tmod_eq_emod_of_nonneg (by omega)]; exact Int.emod_lt_of_pos _ hm
 ·rw [decide_eq_false c]
  refine ⟨_,by simp only [cond_false,Option.bind_some,hz]; rfl,?_,?_⟩
  ·rw [Int.tmod_eq_emod_of_nonneg (by omega)]; exact Int.emod_nonneg _ (by omega)
  ·rw [Int.tmod_eq_emod_of_nonneg (by omega)]; exact Int.emod_lt_of_pos _ hm
def LabOk (l:Int×Int):Prop:=0≤l.1∧l.1<3∧0≤l.2∧l.2<4
structure CfgOk (c:Int×(List (Int×Int)×Int)):Prop where
 s0:1≤c.1
 s1:c.1≤3
 l0:1≤c.2.1.length
 l1:c.2.1.length≤4
 lab:∀ l∈c.2.1,LabOk l
 once:c.2.1.Nodup
 p0:1≤c.2.2
 p1:c.2.2≤4
theorem one_is {l:Int×Int} (h:LabOk l):r58 l=some true:=by
 obtain ⟨h1,h2,h3,h4⟩:=h
 unfold r58
 rw [decide_eq_true h1,decide_eq_true (by omega:l.1≤9),decide_eq_true h3,decide_eq_true (by omega:l.2≤15)]
 rfl
theorem ahead_is {a:Int×(List (Int×Int)×Int)} {d:Int} {b:Int×Int} (hlen:a.2.1.length≤8) :
 loopR (r29_L0 d a b) 0=some (if b∈a.2.1.take d.toNat then .inr 7 else .inl ()):=by
 generalize hxs:a.2.1.take d.toNat=xs
 have hl:xs.length≤8:=by rw [← hxs]; simp; omega
 obtain ⟨r,h1,h2⟩:=loop_rule (body:=r29_L0 d a b) (fun i=>0≤i∧i≤xs.length∧b∉xs.take i.toNat) (fun i=>xs.length - i.toNat) (fun r=>r=if b∈xs then .inr 7 else .inl ()) (fun i hi=>by
  obtain ⟨i0,i1,i2⟩:=hi
  unfold r29_L0
  simp only [hxs]
  by_cases c:i<xs.length
  ·obtain ⟨x,e1,e2⟩:=idxI_is i0 c
   have hw:Go.IntKind.wrap .i64 (i+1)=i+1:=wrap_i64 (by unfold i64; omega)
   rw [decide_eq_true c]
   simp only [cond_true,e1,Option.bind_some,Bool.and_true,hw]
   by_cases m:x=b
   ·subst m
    exact .inr ⟨.inr 7,by simp,by rw [if_pos (List.mem_of_getElem? e2)]⟩
   ·refine .inl ⟨i+1,?_,⟨by omega,by omega,?_⟩,by omega⟩
    ·have:(decide (x.1=b.1) && decide (x.2=b.2))=false:=by
      rw [Bool.and_eq_false_iff]
      by_cases c1:x.1=b.1
      ·exact .inr (decide_eq_false (fun c2=>m (Prod.ext c1 c2)))
      ·exact .inl (decide_eq_false c1)
     rw [this]; rfl
    ·rw [show (i+1).toNat=i.toNat+1 by omega,List.take_add_one,e2]
     simp only [Option.toList_some,List.mem_append,List.mem_singleton,not_or]
     exact ⟨i2,fun e=>m e.symm⟩
  ·refine .inr ⟨_,by rw [decide_eq_false c]; rfl,?_⟩
   rw [List.take_of_length_le (by omega)] at i2
   rw [if_neg i2]) 0 (by simp)
 rw [h1,h2]
theorem check_is {a:Int×(List (Int×Int)×Int)} (s0:1≤a.1) (s1:a.1≤4) (l0:1≤a.2.1.length) (l1:a.2.1.length≤6) (hl:∀ l∈a.2.1,LabOk l) (p0:1≤a.2.2) (p1:a.2.2≤1048576) :
 r29 a=some (if a.2.1.Nodup then 0 else 7):=by
 obtain ⟨r,h1,h2⟩:=loop_rule (body:=r29_L1 a) (fun i=>0≤i∧i≤a.2.1.length∧(a.2.1.take i.toNat).Nodup) (fun i=>a.2.1.length - i.toNat) (fun r=>r=if a.2.1.Nodup then .inl () else .inr 7) (fun i hi=>by
  obtain ⟨i0,i1,i2⟩:=hi
  unfold r29_L1
  by_cases c:i<a.2.1.length
  ·obtain ⟨x,e1,e2⟩:=idxI_is i0 c
   have hw:Go.IntKind.wrap .i64 (i+1)=i+1:=wrap_i64 (by unfold i64; omega)
   have hok:okB none (some i) none a.2.1.length=true:=by
    unfold okB
    simp only
    rw [decide_eq_true i0,decide_eq_true (by omega:i≤a.2.1.length)]; rfl
   rw [decide_eq_true c]
   simp only [cond_true,e1,Option.bind_some,one_is (hl x (List.mem_of_getElem? e2)),Bool.not_true,cond_false,hok,ahead_is (a:=a) (d:=i) (b:=x) (by omega),hw]
   have htk:a.2.1.take (i+1).toNat=a.2.1.take i.toNat++[x]:=by
    rw [show (i+1).toNat=i.toNat+1 by omega,List.take_add_one,e2]; rfl
   by_cases m:x∈a.2.1.take i.toNat
   ·rw [if_pos m]
    refine .inr ⟨_,rfl,?_⟩
    rw [if_neg]
    intro hn
    have h3:(a.2.1.take (i+1).toNat).Nodup:=hn.sublist (List.take_sublist _ _)
    rw [htk,List.nodup_append] at h3
    exact h3.2.2 x m x (by simp) rfl
   ·rw [if_neg m]
    refine .inl ⟨i+1,rfl,⟨by omega,by omega,?_⟩,by omega⟩
    rw [htk,List.nodup_append]
    refine ⟨i2,by simp,fun y hy z hz=>?_⟩
    simp only [List.mem_singleton] at hz
    subst hz
    intro e; subst e; exact m hy
  ·refine .inr ⟨_,by rw [decide_eq_false c]; rfl,?_⟩
   rw [List.take_of_length_le (by omega)] at i2
   rw [if_pos i2]) 0 (by simp)
 unfold r29
 simp only [bif_some,or_bif,Option.bind_some,h1]
 rw [decide_eq_false (by omega : ¬ a.1<1),decide_eq_false (by omega : ¬ 4<a.1),decide_eq_false (by omega : ¬ (a.2.1.length:Int)<1),decide_eq_false (by omega : ¬ (6:Int)<a.2.1.length),decide_eq_false (by omega : ¬ a.2.2<1),decide_eq_false (by omega : ¬ 1048576<a.2.2)]
 simp only [Bool.or_self,cond_false,h2]
 by_cases c:a.2.1.Nodup
 ·rw [if_pos c,if_pos c]; rfl
 ·rw [if_neg c,if_neg c]; rfl
theorem check_ok {c:Int×(List (Int×Int)×Int)} (h:CfgOk c):r29 c=some 0:=by
 rw [check_is h.s0 (by have:=h.s1; omega) h.l0 (by have:=h.l1; omega) h.lab h.p0 (by have:=h.p1; omega),if_pos h.once]
end Go.Hv.Cf
