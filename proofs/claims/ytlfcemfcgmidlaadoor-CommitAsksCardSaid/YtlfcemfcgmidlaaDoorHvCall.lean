import Derived.Test.YtlfcemfcgmidlaaDoorHvDesk
namespace Go.Hv
open Go.RowKit Go.Proofs Go.V
abbrev Msg:=Int×(Int×(Int×((Int×Int)×(Int×(Int×(Int×(Int×(Int×(Bool×Int)))))))))
abbrev Rec:=Int×((Int×Int)×(Int×(Int×(Int×(Bool×List Int)))))
abbrev Rep:=Int×(Int×(Int×(Int×(Int×Int))))
abbrev Turn:=Desk×(List Msg×(List Rec×(List Rep×(Int×Int))))
abbrev Work:=Conf×(Int×(Int×Turn))
def mkW (c:Conf) (l me next:Int) (js:List Job) (ms:List Msg) (rs:List Rec) (ps:List Rep) (su co:Int):Work:=(c,(l,(me,((next,js),(ms,(rs,(ps,(su,co))))))))
theorem idx_mid {β:Type} (A:List β) (j:β) (B:List β):idxN (A++j :: B) A.length=some j:=by
 show (A++j :: B)[A.length]?=some j
 rw [List.getElem?_append_right (Nat.le_refl _)]; simp
theorem set_mid {β:Type} (A:List β) (j y:β) (B:List β):List.set (A++j :: B) A.length y=A++y :: B:=by
 rw [List.set_append_right _ _ (Nat.le_refl _)]; simp
theorem inB_mid {β:Type} (A:List β) (j:β) (B:List β):inB (A.length:Int) (A++j :: B).length=true:=inB_true (by omega) (by simp; omega)
theorem inB_end {β:Type} (A:List β) (j:β):inB (A.length:Int) (A++[j]).length=true:=inB_mid A j []
theorem idx_end {β:Type} (A:List β) (j:β):idxN (A++[j]) A.length=some j:=idx_mid A j []
theorem set_end {β:Type} (A:List β) (j y:β):List.set (A++[j]) A.length y=A++[y]:=set_mid A j y []
theorem wrap_end {β:Type} (A:List β) (j:β) (h:A.length≤1000000):Go.IntKind.wrap .i64 (((A++[j]).length:Int) - 1)=(A.length:Int):=by
 rw [wrap_i64 (by simp; unfold i64; omega)]; simp
theorem beq_self (n:Nat):Nat.beq n n=true:=Nat.beq_refl n
theorem tasks_clone {l:List Task} (h:l.length≤10):r98 l=some l:=nilR_clone (by omega)
theorem asked_clone {l:List Int} (h:l.length≤4):r99 l=some l:=nilR_clone (by omega)
theorem own_is {c:Conf} (hc:c.1≤4) {d:Desk} (h:DeskOk c d):r60 d=some d:=by
 obtain ⟨next,js⟩:=d
 have hf:=h.few
 simp only at hf
 have l0:=(fold_loop (body:=r60_L0 (next,js)) (xs:=js) (emb:=fun i s=>((),(i,(next,s)))) (out:=fun s=>((),(next,s))) (fun s x=>s++[x]) (fun i s=>s.length=i) (by omega) (fun i x s hx hs=>by
  obtain ⟨e1,e2,-⟩:=in_len hx
  have hil:=(List.getElem?_eq_some_iff.mp hx).1
  have hj:=h.job x (List.mem_of_getElem? hx)
  have h1:=tasks_clone hj.few
  have h2:r99 x.2.2.2.1=some x.2.2.2.1:=asked_clone (by
   rcases up_few hj.asked hj.aup with g | g
   ·omega
   ·rw [g]; simp)
  refine ⟨?_,by simp [hs]⟩
  unfold r60_L0
  simp only [e1,e2,cond_true,Option.bind_some,h1,h2,hs,roomOk_true (show (2 * (i+1)+192) * 80≤281474976710656 by omega),app_eq]) (fun s _=>by
  unfold r60_L0
  simp only [at_len,cond_false]) (s0:=[]) rfl).1
 have hfold:∀ (l m:List Job),l.foldl (fun s x=>s++[x]) m=m++l:=fun l=>by
  induction l with
  | nil=>intro m; simp
  | cons a l ih=>intro m; rw [List.foldl_cons,ih]; simp
 rw [hfold,List.nil_append] at l0
 unfold r60
 simp only [l0,Option.bind_some]
theorem place_is (w:Work) (n:Int) (hl:w.2.2.2.1.2.length≤1000):r35 (w,n)=some (idxOr (w.2.2.2.1.2.findIdx? fun j=>decide (j.1=n)),w):=by
 have h:=find_is (body:=r35_L0 (w,n)) (xs:=w.2.2.2.1.2) (p:=fun j=>decide (j.1=n)) (by omega) (fun i x hx=>by
  obtain ⟨e1,-,e3,e4⟩:=in_len hx
  unfold r35_L0
  simp only [e1,e3,cond_true,Int.toNat_natCast,e4,Option.bind_some]
  cases decide (x.1=n) <;> rfl) (by
  unfold r35_L0
  simp only [at_len,cond_false])
 unfold r35
 rw [h]; rfl
theorem idx_some {A B:List Job} {j:Job} {n:Int} (hn:j.1=n) (hA:∀ x∈A,x.1≠n):(A++j :: B).findIdx? (fun j=>decide (j.1=n))=some A.length:=by
 rw [List.findIdx?_eq_some_iff_getElem]
 refine ⟨by simp,by simp [hn],fun k hk=>?_⟩
 rw [List.getElem_append_left hk]
 simpa using hA _ (List.getElem_mem hk)
def newJob (j:Job) (t:Task):Job:=(j.1,(j.2.1,(j.2.2.1++[(t.1,(t.2.1,(t.2.2.1,(t.2.2.2.1,(t.2.2.2.2.1,(j.2.2.2.2.1+1,t.2.2.2.2.2.2))))))],(j.2.2.2.1,(j.2.2.2.2.1+1,0)))))
def newMsg (c:Conf) (me:Int) (j:Job) (t:Task):Msg:=((bif t.1 then 2 else 1),(me,(Int.tmod t.2.2.1 c.1,((me,j.1),((bif t.1 then 0 else t.2.1),(t.2.2.1,(t.2.2.2.1,(0,(j.2.2.2.2.1+1,(false,0))))))))))
theorem task_is {c:Conf} {l me next:Int} {A B:List Job} {j:Job} {ms:List Msg} {rs:List Rec} {ps:List Rep} {su co:Int} {t:Task} (k0:0≤j.2.2.2.2.1) (k1:j.2.2.2.2.1≤1048576) (hf:j.2.2.1.length≤100) (hm:ms.length≤1000) (hs:c.1≠0) :
 r36 (mkW c l me next (A++j :: B) ms rs ps su co,(A.length:Int),t)=some (mkW c l me next (A++newJob j t :: B) (ms++[newMsg c me j t]) rs ps su co):=by
 obtain ⟨n,st,ts,asd,k,g⟩:=j
 obtain ⟨w,tl,ty,tv,tn,ta,td,tsu⟩:=t
 simp only at k0 k1 hf
 have hw:Go.IntKind.wrap .i64 (k+1)=k+1:=wrap_i64 (by unfold i64; omega)
 have h1:roomOk false ts.length 1 56=true:=roomOk_true (by omega)
 have h2:roomOk false ms.length 1 96=true:=roomOk_true (by omega)
 have hz:decide (c.1=0)=false:=decide_eq_false hs
 unfold r36 mkW newJob newMsg
 simp only [inB_mid,Int.toNat_natCast,idx_mid,set_mid,Option.bind_some,cond_true,cond_false,hw,h1,h2,hz,beq_self,app_eq]
 cases w <;>
 ·simp only [Option.bind_some,cond_true,cond_false,Bool.not_true,Bool.not_false,wrap_end ms _ (by omega),Int.toNat_natCast,idx_end,set_end,inB_end]
def fullB (next:Int) (js:List Job) (room:Int):Bool:=(decide ((js.length:Int)=6) || decide (1048576<next)) || decide (room<600)
theorem begun_is {c:Conf} {l me next:Int} {js:List Job} {ms:List Msg} {rs:List Rec} {ps:List Rep} {su co room:Int} (n0:0≤next) (n1:next≤1048577) (hj:js.length≤6) (hr:rs.length≤1000) (hp:ps.length≤1000) :
 r32 (mkW c l me next js ms rs ps su co,room)=some (bif fullB next js room then mkW c l me next js ms rs (ps++[(me,(1,(0,(0,(0,8)))))]) su co else
  mkW c l me (next+1) (js++[(next,(1,([],([],(0,0)))))]) ms (rs++[(5,((me,next),(0,(0,(0,(false,[]))))))]) (ps++[(me,(1,(next,(0,(0,0)))))]) su co):=by
 have hw:Go.IntKind.wrap .i64 (next+1)=next+1:=wrap_i64 (by unfold i64; omega)
 have h1:roomOk false js.length 1 80=true:=roomOk_true (by omega)
 have h2:roomOk false rs.length 1 80=true:=roomOk_true (by omega)
 have h3:roomOk false ps.length 1 48=true:=roomOk_true (by omega)
 unfold r32 mkW
 simp only [h1,h2,h3,hw,cond_true,Option.bind_some,app_eq,bif_some,or_bif]
 have e:((decide ((js.length:Int)=6) || decide (1048576<next)) || decide (room<600))=fullB next js room:=rfl
 simp only [e]
end Go.Hv
