import Derived.Test.YtlfcemfcgmidlaaDoorHvSure
import Derived.Test.YtlfcemfcgmidlaaDoorHvMsg
namespace Go.Hv
open Go.RowKit Go.Proofs Go.V
section
variable {c:Conf} {l me:Int} {d:Desk} {m:Msg}
theorem hear_done (hc:c.1≤4) (hk:r29 c=some 0) (hd:DeskOk c d) (l0:0≤l) (l1:l<c.2.1.length) (m0:0≤me) (m1:me<c.1) (hm:r41 (c,m)=some 0) (ht:m.2.2.1=me) (hx:m.2.2.2.1.1=me) (h6:m.1=5∨m.1=6)
 {i:Int} (i0:0≤i) (hp:r35 (mkW c l me d.1 d.2 [] [] [] 0 0,m.2.2.2.1.2)=some (i,mkW c l me d.1 d.2 [] [] [] 0 0)) {z:Work} (hz:r43 (mkW c l me d.1 d.2 [] [] [] 0 0,(i,(m,decide (m.1=6))))=some z) :
 r21 (c,(l,(me,(d,m))))=some (z.2.2.2,0):=by
 have hck:=desk_ok hc hk hd
 have how:=own_is hc hd
 unfold mkW at hp hz
 unfold r21
 simp only [hck,how,hm,Option.bind_some,decide_true,Bool.not_true,Bool.not_false,cond_true,cond_false,decide_eq_false (show ¬ l<0 by omega),decide_eq_false (show ¬ (c.2.1.length:Int)≤l by omega),decide_eq_false (show ¬ me<0 by omega),decide_eq_false (show ¬ c.1≤me by omega),
  decide_eq_true ht,decide_eq_true hx,decide_eq_false (show ¬ m.1<5 by omega),hp,decide_eq_false (show ¬ m.1=9 by omega),decide_eq_false (show ¬ i<0 by omega)]
 rcases h6 with h6 | h6
 ·rw [decide_eq_false (show ¬ m.1=6 by omega)] at hz
  simp only [decide_eq_true h6,cond_true,hz,Option.bind_some]
 ·rw [decide_eq_true h6] at hz
  simp only [decide_eq_false (show ¬ m.1=5 by omega),decide_eq_true h6,cond_true,cond_false,hz,Option.bind_some]
theorem hear_sure (hc:c.1≤4) (hk:r29 c=some 0) (hd:DeskOk c d) (l0:0≤l) (l1:l<c.2.1.length) (m0:0≤me) (m1:me<c.1) (hm:r41 (c,m)=some 0) (ht:m.2.2.1=me) (hx:m.2.2.2.1.1=me) (h7:m.1=7)
 {i:Int} (i0:0≤i) (hp:r35 (mkW c l me d.1 d.2 [] [] [] 0 0,m.2.2.2.1.2)=some (i,mkW c l me d.1 d.2 [] [] [] 0 0)) {z:Work} (hz:r44 (mkW c l me d.1 d.2 [] [] [] 0 0,(i,m))=some z) :
 r21 (c,(l,(me,(d,m))))=some (z.2.2.2,0):=by
 have hck:=desk_ok hc hk hd
 have how:=own_is hc hd
 unfold mkW at hp hz
 unfold r21
 simp only [hck,how,hm,Option.bind_some,decide_true,Bool.not_true,Bool.not_false,cond_true,cond_false,decide_eq_false (show ¬ l<0 by omega),decide_eq_false (show ¬ (c.2.1.length:Int)≤l by omega),decide_eq_false (show ¬ me<0 by omega),decide_eq_false (show ¬ c.1≤me by omega),
  decide_eq_true ht,decide_eq_true hx,decide_eq_false (show ¬ m.1<5 by omega),hp,decide_eq_false (show ¬ m.1=9 by omega),decide_eq_false (show ¬ i<0 by omega),decide_eq_false (show ¬ m.1=5 by omega),decide_eq_false (show ¬ m.1=6 by omega),decide_eq_true h7,hz]
end
theorem refuse_ok {c:Conf} {l me next:Int} {A B:List Job} {j:Job} {x:Int×(Int×(Int×(Int×Int)))} (hl:(A++j :: B).length≤1000) (hn:j.1=x.2.1) (hA:∀ y∈A,y.1≠x.2.1) (hs:j.2.1=1) (hd:∀ t∈j.2.2.1,t.2.2.2.2.2.2.1=true) (hf:j.2.2.1.length<10) (hk:j.2.2.2.2.1<1048576)
 (x0:x.1=2∨x.1=3) (y0:0≤x.2.2.2.1) (y1:x.2.2.2.1<8) (v0:0≤x.2.2.2.2) (v1:x.2.2.2.2≤1073741824) (l0:0≤x.2.2.1) (l1:x.2.2.1<c.2.1.length) {p q:Int×Int} (hp':idxI c.2.1 l=some p) (hq:idxI c.2.1 x.2.2.1=some q) (hb:r48 (p,q)=some true) :
 r33 (mkW c l me next (A++j :: B) [] [] [] 0 0,x)=some (0,mkW c l me next (A++j :: B) [] [] [] 0 0):=by
 have hp:=place_is (mkW c l me next (A++j :: B) [] [] [] 0 0) x.2.1 hl
 rw [show (mkW c l me next (A++j :: B) [] [] [] 0 0).2.2.2.1.2=A++j :: B from rfl,idx_some hn hA] at hp
 have hk3:(bif !(decide (x.1=2)) then some (!(decide (x.1=3))) else some false)=some false:=by
  rcases x0 with x0 | x0 <;> rw [x0] <;> rfl
 unfold r33
 simp only [hp,Option.bind_some,idxOr,decide_eq_false (show ¬ (A.length:Int)<0 by omega),cond_false]
 unfold mkW
 simp only [inB_mid,Int.toNat_natCast,idx_mid,Option.bind_some,cond_true,hs,decide_true,Bool.not_true,cond_false]
 have hopen:(bif decide ((0:Int)<(j.2.2.1.length:Int)) then
  bif inB (Go.IntKind.wrap .i64 ((j.2.2.1.length:Int) - (1:Int))) j.2.2.1.length then
   Option.bind (idxN j.2.2.1 (Int.toNat (Go.IntKind.wrap .i64 ((j.2.2.1.length:Int) - (1:Int))))) fun (x17:Task)=>some !(x17.2.2.2.2.2.2.1)
  else none
  else some false)=some false:=by
  rcases List.eq_nil_or_concat j.2.2.1 with e | ⟨T,t,e⟩
  ·rw [e]; rfl
  ·rw [List.concat_eq_append] at e
   have ht:=hd t (by rw [e]; simp)
   have hT:T.length≤1000000:=by rw [e] at hf; simp at hf; omega
   rw [e,wrap_end T t hT,decide_eq_true (show (0:Int)<(((T++[t]).length:Nat):Int) by simp),inB_end]
   simp only [cond_true,Int.toNat_natCast,idx_end,Option.bind_some,ht,Bool.not_true]
 rw [hopen]
 simp only [Option.bind_some,cond_false,hk3,decide_eq_false (show ¬ x.2.2.2.1<0 by omega),decide_eq_false (show ¬ 8≤x.2.2.2.1 by omega),decide_eq_false (show ¬ x.2.2.2.2<0 by omega),decide_eq_false (show ¬ 1073741824<x.2.2.2.2 by omega),Bool.not_false,cond_true,
  decide_eq_false (show ¬ x.2.2.1<0 by omega),decide_eq_false (show ¬ (c.2.1.length:Int)≤x.2.2.1 by omega),hp',hq,hb,Bool.not_true,decide_eq_false (show ¬ (j.2.2.1.length:Int)=10 by omega),decide_eq_false (show ¬ j.2.2.2.2.1=1048576 by omega)]
 cases decide (x.1=2) <;> rfl
theorem refuse_commit {c:Conf} {l me next:Int} {A B:List Job} {j:Job} {x:Int×(Int×(Int×(Int×Int)))} (hl:(A++j :: B).length≤1000) (hn:j.1=x.2.1) (hA:∀ y∈A,y.1≠x.2.1) (hs:j.2.1=1) (hd:∀ t∈j.2.2.1,t.2.2.2.2.2.2.1=true) (hf:j.2.2.1.length≤10) (x0:x.1=4) :
 r33 (mkW c l me next (A++j :: B) [] [] [] 0 0,x)=some (0,mkW c l me next (A++j :: B) [] [] [] 0 0):=by
 have hp:=place_is (mkW c l me next (A++j :: B) [] [] [] 0 0) x.2.1 hl
 rw [show (mkW c l me next (A++j :: B) [] [] [] 0 0).2.2.2.1.2=A++j :: B from rfl,idx_some hn hA] at hp
 unfold r33
 simp only [hp,Option.bind_some,idxOr,decide_eq_false (show ¬ (A.length:Int)<0 by omega),cond_false]
 unfold mkW
 simp only [inB_mid,Int.toNat_natCast,idx_mid,Option.bind_some,cond_true,hs,decide_true,Bool.not_true,cond_false]
 have hopen:(bif decide ((0:Int)<(j.2.2.1.length:Int)) then
  bif inB (Go.IntKind.wrap .i64 ((j.2.2.1.length:Int) - (1:Int))) j.2.2.1.length then
   Option.bind (idxN j.2.2.1 (Int.toNat (Go.IntKind.wrap .i64 ((j.2.2.1.length:Int) - (1:Int))))) fun (x17:Task)=>some !(x17.2.2.2.2.2.2.1)
  else none
  else some false)=some false:=by
  rcases List.eq_nil_or_concat j.2.2.1 with e | ⟨T,t,e⟩
  ·rw [e]; rfl
  ·rw [List.concat_eq_append] at e
   have ht:=hd t (by rw [e]; simp)
   have hT:T.length≤1000000:=by rw [e] at hf; simp at hf; omega
   rw [e,wrap_end T t hT,decide_eq_true (show (0:Int)<(((T++[t]).length:Nat):Int) by simp),inB_end]
   simp only [cond_true,Int.toNat_natCast,idx_end,Option.bind_some,ht,Bool.not_true]
 rw [hopen]
 simp only [Option.bind_some,cond_false,decide_eq_false (show ¬ x.1=2 by omega),decide_eq_false (show ¬ x.1=3 by omega),Bool.not_false,cond_true]
end Go.Hv
