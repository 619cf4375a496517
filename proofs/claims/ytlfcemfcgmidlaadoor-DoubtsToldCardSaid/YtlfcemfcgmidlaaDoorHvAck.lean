import Derived.Test.YtlfcemfcgmidlaaDoorHvKeep
namespace Go.Hv
open Go.RowKit Go.Proofs Go.V
def wA (j:Job) (ys:List Int):Job:=(j.1,(j.2.1,(j.2.2.1,(ys,j.2.2.2.2))))
section
variable {c:Conf} {l me next:Int} {A B:List Job} {j:Job} {ms:List Msg} {rs:List Rec} {ps:List Rep} {su co:Int} {m:Msg}
theorem ack_find (hf:j.2.2.2.1.length≤100) (x:Job) (hx:x=j) :
 (Option.bind (loopR (r45_L0 x (mkW c l me next (A++j :: B) ms rs ps su co,((A.length:Int),m))) (0:Int)) fun (q:(Unit ⊕ Int))=>Sum.elim (fun (_:Unit)=>some (-1:Int)) (fun (v:Int)=>some v) q)=some (idxOr (j.2.2.2.1.findIdx? fun s=>decide (s=m.2.1))):=by
 subst hx
 refine find_is (xs:=x.2.2.2.1) (p:=fun s=>decide (s=m.2.1)) (by omega) (fun i y hy=>?_) ?_
 ·obtain ⟨h1,h2,h3,h4⟩:=in_len hy
  unfold r45_L0 mkW
  simp only [h1,h3,h4,cond_true,Option.bind_some,Int.toNat_natCast,idx_mid]
  cases decide (y=m.2.1) <;> rfl
 ·unfold r45_L0
  simp only [at_len,cond_false]
theorem ack_del (a:Work×(Int×Msg)) (ha:a.2.2=m) (hl:j.2.2.2.1.length≤1000000) {i:Nat} (h:j.2.2.2.1.findIdx? (fun s=>decide (s=m.2.1))=some i) :
 ∃ (n:Nat) (ys:List Int),loopR (r45_L1 a) ((),((((),((),())),A.length),((((),((),())),A.length),(((),((),(A.length,()))),((i:Int),((Go.IntKind.wrap .i64 ((i:Int)+1)),st49 c l me next (A++j :: B) ms rs ps su co)))))) =
  some ((),((((),((),())),A.length),((((),((),())),A.length),(((),((),(A.length,()))),((n:Int),st49 c l me next (A++wA j ys :: B) ms rs ps su co)))))∧n≤ys.length∧ys.take n=j.2.2.2.1.filter (fun x=>!decide (x=m.2.1)):=by
 obtain ⟨hi,ht⟩:=find_split h
 obtain ⟨n,ys,e1,e2,e3,e4⟩:=del_loop (body:=r45_L1 a) (emb:=fun i k xs=>((),((((),((),())),A.length),((((),((),())),A.length),(((),((),(A.length,()))),(i,(k,st49 c l me next (A++wA j xs :: B) ms rs ps su co)))))))
  (out:=fun i xs=>((),((((),((),())),A.length),((((),((),())),A.length),(((),((),(A.length,()))),(i,st49 c l me next (A++wA j xs :: B) ms rs ps su co)))))) (p:=fun x=>decide (x=m.2.1)) (xs0:=j.2.2.2.1) hl (fun i k xs x hij hxl hx=>by
  have hjl:=(List.getElem?_eq_some_iff.mp hx).1
  obtain ⟨h1,h2,h3,h4⟩:=in_len hx
  have hxi:xs[i]?=some xs[i]:=List.getElem?_eq_getElem (by omega)
  obtain ⟨g1,g2,g3,g4⟩:=in_len hxi
  have hw:Go.IntKind.wrap .i64 ((k:Int)+1)=((k+1:Nat):Int):=wrap_i64 (by unfold i64; omega)
  have hw2:Go.IntKind.wrap .i64 ((i:Int)+1)=((i+1:Nat):Int):=wrap_i64 (by unfold i64; omega)
  unfold r45_L1 st49 wA
  simp only [ha,idx_mid,h1,h3,h4,g3,g4,cond_true,Option.bind_some,Int.toNat_natCast,hw,hw2]
  by_cases hp:x=m.2.1
  ·simp only [decide_eq_true hp,Bool.not_true,cond_false,Option.bind_some,if_true]
  ·simp only [decide_eq_false hp,Bool.not_false,cond_true,Option.bind_some,Bool.false_eq_true,if_false,set_mid]) (fun i xs hxl=>by
  unfold r45_L1 st49 wA
  simp only [idx_mid,Option.bind_some,hxl,at_len,cond_false]) (j.2.2.2.1.length - (i+1)) i (i+1) j.2.2.2.1 rfl (by omega) (by omega) rfl ht rfl
 have hw:Go.IntKind.wrap .i64 ((i:Int)+1)=((i+1:Nat):Int):=wrap_i64 (by unfold i64; omega)
 exact ⟨n,ys,by rw [hw]; exact e1,by omega,e4⟩
theorem acked_is (hf:j.2.2.2.1.length≤100) (hr:rs.length≤900) (hj:(A++j :: B).length≤1000) :
 r45 (mkW c l me next (A++j :: B) ms rs ps su co,((A.length:Int),m)) =
  bif decide (j.2.1=3) then
   bif decide (((j.2.2.2.1.filter (fun x=>!decide (x=m.2.1))).length:Int)=0) then some (mkW c l me next (A++B) ms (rs++[(4,((me,j.1),(0,(0,(0,(false,[]))))))]) ps su co)
   else some (mkW c l me next (A++wA j (j.2.2.2.1.filter (fun x=>!decide (x=m.2.1))) :: B) ms rs ps su co)
  else some (mkW c l me next (A++j :: B) ms rs ps su co):=by
 have hr1:roomOk false rs.length 1 80=true:=roomOk_true (by omega)
 have hfind:=ack_find (c:=c) (l:=l) (me:=me) (next:=next) (A:=A) (B:=B) (ms:=ms) (rs:=rs) (ps:=ps) (su:=su) (co:=co) (m:=m) hf j rfl
 unfold r45
 rw [show (mkW c l me next (A++j :: B) ms rs ps su co,((A.length:Int),m)).1.2.2.2.1.2=A++j :: B from rfl]
 simp only [inB_mid,Int.toNat_natCast,idx_mid,Option.bind_some,cond_true]
 cases decide (j.2.1=3) with
 | false=>rfl
 | true =>
  simp only [Bool.not_true,cond_false,cond_true,hfind,Option.bind_some]
  generalize hG:(bif decide (idxOr (j.2.2.2.1.findIdx? fun s=>decide (s=m.2.1))=(-1:Int)) then _ else _)=G
  have hG2:G=some ((),((((),((),())),A.length),st49 c l me next (A++wA j (j.2.2.2.1.filter (fun x=>!decide (x=m.2.1))) :: B) ms rs ps su co)):=by
   rw [← hG]
   cases e:j.2.2.2.1.findIdx? (fun s=>decide (s=m.2.1)) with
   | none =>
    rw [find_all e]
    unfold mkW st49 wA
    simp only [idxOr,beq_self,cond_true,decide_true,set_mid]
   | some i =>
    obtain ⟨n,ys,e1,e2,e3⟩:=ack_del (c:=c) (l:=l) (me:=me) (next:=next) (A:=A) (B:=B) (j:=j) (ms:=ms) (rs:=rs) (ps:=ps) (su:=su) (co:=co) (mkW c l me next (A++j :: B) ms rs ps su co,((A.length:Int),m)) rfl (by omega) e
    obtain ⟨c1,c2,c3⟩:=cut_is e2 (0:Int)
    unfold mkW st49 wA at e1
    unfold mkW st49 wA
    simp only [idxOr,e1,Option.bind_some,idx_mid,c1,cond_true,beq_self,set_mid,c2,c3,e3]
    exact bif_f (decide_eq_false (by omega))
  rw [hG2]
  unfold st49 wA mkW
  simp only [Option.bind_some,idx_mid]
  cases decide (((j.2.2.2.1.filter (fun x=>!decide (x=m.2.1))).length:Int)=0) with
  | false=>rfl
  | true =>
   have hd:=del_mid (A:=A) (B:=B) (j:=wA j (j.2.2.2.1.filter (fun x=>!decide (x=m.2.1)))) (by simpa using hj)
   unfold wA at hd
   simp only [cond_true,hr1,Option.bind_some,app_eq,hd]
theorem idxN_zero {β:Type} (x:β) (l:List β):idxN (x :: l) 0=some x:=rfl
theorem asked_none:r42 (mkW c l me next A [] rs ps su co,((-1:Int),m))=some (mkW c l me next A [decM me m.2.2.2.1.2 false m.2.1] rs ps su co):=by
 have h2:roomOk false 0 1 96=true:=roomOk_true (by omega)
 have hw:Go.IntKind.wrap .i64 (((1:Nat):Int) - 1)=0:=rfl
 have hi:inB (0:Int) 1=true:=rfl
 unfold r42 mkW decM
 simp only [decide_eq_true (show (-1:Int)<0 by omega),cond_true,List.length_nil,h2,Option.bind_some,app_eq,List.nil_append,List.length_singleton,hw,hi]
theorem asked_is (hf:j.2.2.2.1.length≤100) :
 r42 (mkW c l me next (A++j :: B) [] rs ps su co,((A.length:Int),m)) =
  some (mkW c l me next (A++j :: B) (bif decide (j.2.1=3) && decide (m.2.1∈j.2.2.2.1) then [decM me j.1 true m.2.1] else []) rs ps su co):=by
 have hc:=contains_is j.2.2.2.1 m.2.1 (by omega)
 unfold r42
 rw [show (mkW c l me next (A++j :: B) [] rs ps su co,((A.length:Int),m)).1.2.2.2.1.2=A++j :: B from rfl]
 simp only [inB_mid,Int.toNat_natCast,idx_mid,Option.bind_some,cond_true,decide_eq_false (show ¬ (A.length:Int)<0 by omega),cond_false]
 cases decide (j.2.1=3) with
 | false=>rfl
 | true =>
  simp only [cond_true,hc,Option.bind_some,Bool.true_and]
  cases decide (m.2.1∈j.2.2.2.1) with
  | false=>rfl
  | true =>
   have h2:roomOk false 0 1 96=true:=roomOk_true (by omega)
   have hw:Go.IntKind.wrap .i64 (((1:Nat):Int) - 1)=0:=rfl
   have hi:inB (0:Int) 1=true:=rfl
   unfold mkW decM
   simp only [cond_true,List.length_nil,h2,Option.bind_some,app_eq,List.nil_append,List.length_singleton,hw,hi,show Int.toNat 0=0 from rfl,idxN_zero,List.set_cons_zero]
end
end Go.Hv
