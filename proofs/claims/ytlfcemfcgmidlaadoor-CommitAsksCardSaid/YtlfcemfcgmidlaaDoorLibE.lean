import Derived.Test.YtlfcemfcgmidlaaDoorLibD
namespace Go.V
open Go.RowKit
section
variable {c:Ctx} {B:Base} {s:Sit} {x:X} {a:Act} {w:World}
variable {ats:Array TypeId} {st xt e ty:TypeId} {i xi ei:TyInfo} {e':TypeId}
theorem out_row {w':World} {b n m off cap:Nat} {φ χ:Lay} (hφ:OwnOut B s w φ) (hχ:OwnOut B s w χ) (hd:∀ q y b,χ q=some y→blkOf y=some b→∀ q' y',φ q'=some y'→blkOf y'≠some b)
 (hsize:w.heap.size≤w'.heap.size) (hb1:∀ f,¬ s.S f b) (hb2:b<w'.heap.size) (hb3:B.O0 b∨B.w0.heap.size≤b) (hb4:∀ r p z,s.Φ r p=some z→blkOf z≠some b)
 (hb5:∀ q y,q≠[]→φ q=some y→blkOf y≠some b) (hb6:∀ q y,χ q=some y→blkOf y≠some b) :
 OwnOut B s w' (topLay (.slice (some ⟨b,off,none⟩) m (cap+1)) (catLay n φ χ)):=by
 have key:∀ q y b',topLay (.slice (some ⟨b,off,none⟩) m (cap+1)) (catLay n φ χ) q=some y→blkOf y=some b' →
  (q=[]∧b'=b)∨(∃ i j q',q=(i,j) :: q'∧i<n∧φ q=some y)∨(∃ i j q',q=(i,j) :: q'∧n≤i∧χ ((i - n,j) :: q')=some y):=by
  intro q y b' h1 h2
  cases q with
  | nil =>
   simp only [topLay,Option.some.injEq] at h1
   subst h1
   simp only [blkOf,Option.some.injEq] at h2
   exact .inl ⟨rfl,h2.symm⟩
  | cons c0 q=>exact .inr (catLay_some h1)
 refine ⟨?_,?_,?_⟩
 ·intro p y p' y' b' h1 b1 h2 b2
  rcases key _ _ _ h1 b1 with ⟨e1,e1'⟩ | ⟨i,j,q,e1,hi,g1⟩ | ⟨i,j,q,e1,hi,g1⟩ <;> rcases key _ _ _ h2 b2 with ⟨e2,e2'⟩ | ⟨k,l,q',e2,hk,g2⟩ | ⟨k,l,q',e2,hk,g2⟩
  ·rw [e1,e2]
  ·subst e1'; exact absurd b2 (hb5 _ _ (by rw [e2]; simp) g2)
  ·subst e1'; exact absurd b2 (hb6 _ _ g2)
  ·subst e2'; exact absurd b1 (hb5 _ _ (by rw [e1]; simp) g1)
  ·exact hφ.inj _ _ _ _ _ g1 b1 g2 b2
  ·exact absurd b1 (hd _ _ _ g2 b2 _ _ g1)
  ·subst e2'; exact absurd b1 (hb6 _ _ g1)
  ·exact absurd b2 (hd _ _ _ g1 b1 _ _ g2)
  ·have:=hχ.inj _ _ _ _ _ g1 b1 g2 b2
   simp only [List.cons.injEq,Prod.mk.injEq] at this
   obtain ⟨⟨h3,h4⟩,h5⟩:=this
   subst h4 h5
   rw [e1,e2]
   congr 2
   omega
 ·intro q y b' h1 b1
  rcases key _ _ _ h1 b1 with ⟨e1,e1'⟩ | ⟨i,j,q,e1,hi,g1⟩ | ⟨i,j,q,e1,hi,g1⟩
  ·subst e1'; exact ⟨hb1,hb2,hb3⟩
  ·have:=hφ.own _ _ _ g1 b1; exact ⟨this.1,by omega,this.2.2⟩
  ·have:=hχ.own _ _ _ g1 b1; exact ⟨this.1,by omega,this.2.2⟩
 ·intro q y b' h1 b1
  rcases key _ _ _ h1 b1 with ⟨e1,e1'⟩ | ⟨i,j,q,e1,hi,g1⟩ | ⟨i,j,q,e1,hi,g1⟩
  ·subst e1'; exact hb4
  ·exact hφ.out _ _ _ g1 b1
  ·exact hχ.out _ _ _ g1 b1
def roomOk (z:Bool) (n m bytes:Nat):Bool:=match z with
 | true=>Nat.ble (m * bytes) 281474976710656
 | false=>Nat.ble ((2 * (n+m)+192) * bytes) 281474976710656
theorem append_core (h0:ats[0]?=some st) (h1:ats[1]?=some xt) (hi:TyOk1 c.P st i) (hd:i.d = .sl e) {xd:TypeDesc} (hxu:c.P.underlying xt=some xd) (hxd:∀ k,xd≠.int k) (hei:TyOk1 c.P e ei)
 (hz:ei.zero.length=ei.size) (hby:0<ei.bytes) (h:RelW B s x a w) {te:Ty} (hte:te.size=ei.size) (_hsz:0<te.size) {xs ys:List (den te)} {base:Option Addr} {n0 cap0:Nat} {ψ χ:Lay}
 (hb:RepO w s.S (.sl .own te xs) (.slice base n0 cap0) ψ) (hψ:OwnOut B s w ψ) {us:List Value} (hc:RowsAt w s.S te ys us χ) (hχ:OwnOut B s w χ)
 (hdis:∀ q y b,χ q=some y→blkOf y=some b→∀ q' y',ψ q'=some y'→blkOf y'≠some b) {v2:Value} {n:Nat} (hn:n=ys.length)
 (hsrc:SrcRuns c.P w ei.size v2 n us) {z:Bool} (hzz:z=true→cap0=0) (hroom:roomOk z n0 n ei.bytes=true) :
 ∃ v' w' ψ',(Builtin.append_ ats ty #[.slice base n0 cap0,v2]).run c.P w = .ok v' w'∧RelW B s x a w'∧RepO w' s.S (.sl .own te (xs++ys)) v' ψ'∧OwnOut B s w' ψ'∧ψ' []=some v':=by
 obtain ⟨hin,hgrow⟩:=run_append (w:=w) (ty:=ty) (base:=base) (sLen:=n0) (sCap:=cap0) h0 h1 hi hd hxu hxd hei hsrc
 have hone:=hc.one
 have hroom' : ¬ n0+n≤cap0→Builtin.nextslicecap (n0+n) cap0 * ei.bytes≤2 ^ 48:=by
  intro hgt
  cases z with
  | true =>
   have h0c:=hzz rfl
   subst h0c
   have hr:n * ei.bytes≤281474976710656:=Nat.le_of_ble_eq_true hroom
   have hn00:n0=0:=by
    generalize hval:Value.slice base n0 0=val at hb
    cases hb with
    | sh _ _ _ ht=>simp [T.isSh] at ht
    | nil=>simp only [Value.slice.injEq] at hval; exact hval.2.1
    | sl=>simp at hval
    | box _ cs ht=>simp [T.box?] at ht
   subst hn00
   rw [Nat.zero_add,nextslicecap_zero _ (by omega)]
   omega
  | false =>
   have hr:(2 * (n0+n)+192) * ei.bytes≤281474976710656:=Nat.le_of_ble_eq_true hroom
   have:=Nat.mul_le_mul_right ei.bytes (nextslicecap_le (n0+n) cap0 (by omega))
   omega
 -- growing: out of the old cells
 have grow : ¬ n0+n≤cap0→n0=xs.length→∀ (os:List Value) (φe:Lay),RowsAt w s.S te xs os φe→(∀ d,(Builtin.firstCells ei.size n0 (.slice base n0 cap0)).run c.P { w with drawn:=d } = .ok os.toArray { w with drawn:=d }) →
  OwnOut B s w φe→(∀ q y b,χ q=some y→blkOf y=some b→∀ q' y',φe q'=some y'→blkOf y'≠some b) →
  ∃ v' w' ψ',(Builtin.append_ ats ty #[.slice base n0 cap0,v2]).run c.P w = .ok v' w'∧RelW B s x a w'∧RepO w' s.S (.sl .own te (xs++ys)) v' ψ'∧OwnOut B s w' ψ'∧ψ' []=some v':=by
  intro hgt hn0 os φe hco hos hφe hdis'
  obtain ⟨newCap,rest,w',hnc,hrest,hheap,ho1,ho2,ho3,hrun⟩:=hgrow hgt hby (hroom' hgt) os.toArray hos
  obtain ⟨k,rfl⟩:∃ k,newCap=k+1:=⟨newCap - 1,by omega⟩
  have hbold:∀ b':Nat,b'<w.heap.size→w'.heap[b']?=w.heap[b']?:=fun b' hb'=>by rw [hheap,Array.getElem?_push,if_neg (by omega)]
  have hbnew:w'.heap[w.heap.size]?=some (.cells (os.toArray++us.toArray++rest) e (0,0)):=by rw [hheap]; simp
  have hsize:w'.heap.size=w.heap.size+1:=by rw [hheap]; simp
  have hlt2:∀ q y b',catLay xs.length φe χ q=some y→blkOf y=some b'→b'<w.heap.size:=by
   intro q y b' e1 e2
   rcases catLay_some e1 with ⟨i,j,q',-,-,g⟩ | ⟨i,j,q',-,-,g⟩
   ·exact (hφe.own _ _ _ g e2).2.1
   ·exact (hχ.own _ _ _ g e2).2.1
  have hcat:=(hco.append hc).mono (w':=w') (fun f b' hb'=>hbold b' (h.slt f b' hb')) (fun c0 p y b' e1 e2=>hbold b' (hlt2 _ _ _ e1 e2))
  have hrow:=hcat.toSl (b:=w.heap.size) (off:=0) (cap:=k) hbnew (by rw [List.length_append]; omega)
   (by
    simp only [Array.size_append,hrest,hz,List.size_toArray,hco.len,hc.len,← hte]
    rw [← Nat.add_mul,← Nat.add_mul,Nat.zero_add]
    refine Nat.mul_le_mul_right _ ?_
    omega)
   (fun k u hk=>by
    rw [Nat.zero_add,Array.getElem?_append_left (by
     have:=(List.getElem?_eq_some_iff.mp hk).1
     simpa using this)]
    simpa using hk)
  have hlen:(xs++ys).length=n0+n:=by simp; omega
  rw [hlen] at hrow
  refine ⟨_,w',_,hrun,h.world hbold (by omega) ho1 ho2 ho3,hrow,?_,rfl⟩
  exact out_row hφe hχ hdis' (by omega) (fun f hR=>by have:=h.slt _ _ hR; omega) (by omega) (.inr h.grow)
   (fun r p z e1 e2=>by have:=(h.own _ _ _ _ e1 e2).2.1; omega)
   (fun q y _ e1 e2=>by have:=(hφe.own _ _ _ e1 e2).2.1; omega)
   (fun q y e1 e2=>by have:=(hχ.own _ _ _ e1 e2).2.1; omega)
 generalize hval:Value.slice base n0 cap0=val at hb
 cases hb with
 | sh _ _ _ ht=>simp [T.isSh] at ht
 | box _ cs ht=>simp [T.box?] at ht
 | nil _ a0 φ hφ0 hφn =>
  simp only [Value.slice.injEq] at hval
  obtain ⟨rfl,rfl,rfl⟩:=hval
  by_cases hm:n=0
  ·have hy:ys=[]:=by
    have:ys.length=0:=by omega
    simpa using this
   subst hy
   have hu0:us=[]:=by
    have:=hc.len
    simpa using this
   subst hu0
   refine ⟨.slice base 0 0,w,fun p=>match p with | []=>some (.slice base 0 0) | _=>none,?_,h,.nil _ base _ rfl (fun _ _=>rfl),?_,rfl⟩
   ·have:=hin (by omega)
    rw [this,hm]
    cases base with
    | none=>rfl
    | some ad=>simp [storeCells]
   ·have hs:∀ (p:Path) y b,(match p with | []=>some (Value.slice base 0 0) | _=>none)=some y→blkOf y=some b→False:=by
     intro p y b e1 e2
     cases p with
     | nil=>simp only [Option.some.injEq] at e1; subst e1; rw [blk_cap0] at e2; simp at e2
     | cons=>simp at e1
    exact ⟨fun p y p' y' b e1 e2=>(hs p y b e1 e2).elim,fun p y b e1 e2=>(hs p y b e1 e2).elim,fun p y b e1 e2=>(hs p y b e1 e2).elim⟩
  ·exact grow (by omega) rfl [] noLay ⟨by simp,fun i j t e=>by simp [cellOf,rows] at e,fun _ _ _=>rfl⟩
    (fun d=>run_firstCells (w:={ w with drawn:=d }) (us:=[]) (by simp) (.inl rfl)) (OwnOut.none B s w) (fun q y b _ _ q' y' e=>by simp [noLay] at e)
 | sl _ es1 bb off capx arr el vs φ hbb hcap hszz hcc hrr h00 hnn =>
  simp only [Value.slice.injEq] at hval
  obtain ⟨rfl,rfl,rfl⟩:=hval
  have hdb:blkOf (.slice (some ⟨bb,off,none⟩) xs.length (capx+1))=some bb:=rfl
  let φe:Lay:=fun q=>match q with | []=>none | q=>ψ q
  have hφs:∀ q y,φe q=some y→q≠[]∧ψ q=some y:=by
   intro q y e1
   cases q with
   | nil=>simp [φe] at e1
   | cons=>exact ⟨by simp,e1⟩
  have hφe:OwnOut B s w φe:=⟨fun p y p' y' b e1 e2 e3 e4=>hψ.inj _ _ _ _ _ (hφs _ _ e1).2 e2 (hφs _ _ e3).2 e4,fun q y b e1=>hψ.own _ _ _ (hφs _ _ e1).2,fun q y b e1=>hψ.out _ _ _ (hφs _ _ e1).2⟩
  have hnb:∀ q y,q≠[]→φe q=some y→blkOf y≠some bb:=by
   intro q y hq e1 e2
   have:=hψ.inj _ _ _ _ _ (hφs _ _ e1).2 e2 h00 hdb
   exact hq this
  have hχb:∀ q y,χ q=some y→blkOf y≠some bb:=fun q y e1 e2=>hdis _ _ _ e1 e2 _ _ h00 hdb
  have hlenm:off+xs.length * te.size≤arr.size:=by
   have:=Nat.mul_le_mul_right te.size hcap
   omega
  let os:=(arr.toList.drop off).take (xs.length * te.size)
  have hosl:os.length=xs.length * te.size:=by simp only [os,List.length_take,List.length_drop,Array.length_toList]; omega
  have hosg:∀ k,k<xs.length * te.size→os[k]?=arr[off+k]?:=fun k hk=>by
   simp only [os,List.getElem?_take,if_pos hk,List.getElem?_drop,Array.getElem?_toList]
  have hoscells:RowsAt w s.S te xs os φe:=by
   refine ⟨hosl,fun i j t e=>?_,fun i j e=>hnn i j e⟩
   have hij:=rows_lt e
   have hlt:i * te.size+j<xs.length * te.size:=by
    have:(i+1) * te.size≤xs.length * te.size:=Nat.mul_le_mul_right _ hij.1
    rw [Nat.add_mul,Nat.one_mul] at this
    omega
   exact ⟨vs i j,by rw [hosg _ hlt]; exact hcc i j t e,hrr i j t e⟩
  by_cases hle:xs.length+n≤capx+1
  ·-- in place
   have hfit:off+xs.length * te.size+us.length≤arr.size:=by
    rw [hc.len,Nat.add_assoc,← Nat.add_mul]
    have:=Nat.mul_le_mul_right te.size hle
    rw [hn] at this
    omega
   have hst:=run_storeCells_at c.P bb (off+xs.length * te.size) el us 0 arr w hbb (by omega) hone
   simp only [Nat.add_zero] at hst
   let arr':Array Value:=(arr.toList.take (off+xs.length * te.size)++us++arr.toList.drop (off+xs.length * te.size+us.length)).toArray
   have harr':arr'.size=arr.size:=by
    simp only [arr',List.size_toArray,List.length_append,List.length_take,List.length_drop,Array.length_toList]; omega
   have hbad:∀ b':Nat,b'≠bb→(w.setRow bb arr').heap[b']?=w.heap[b']?:=fun b' hb'=>setRow_other w bb b' arr' hb'
   have hcat:=(hoscells.append hc).mono (w':=w.setRow bb arr')
    (fun f b' hb'=>hbad b' (fun e=>(hψ.own _ _ _ h00 hdb).1 f (e▸hb')))
    (fun c0 p y b' e1 e2=>hbad b' (fun e3=>by
     subst e3
     rcases catLay_some e1 with ⟨i,j,q',-,-,g⟩ | ⟨i,j,q',-,-,g⟩
     ·exact hnb (c0 :: p) _ (List.cons_ne_nil _ _) g e2
     ·exact hχb _ _ g e2))
   have hrow:=hcat.toSl (b:=bb) (off:=off) (cap:=capx) (arr:=arr') (el:=el)
    (setRow_heap w bb arr arr' el (0,0) hbb) (by simp; omega) (by rw [harr']; exact hszz)
    (fun k u hk=>by
     have hlt:=(List.getElem?_eq_some_iff.mp hk).1
     rw [List.length_append,hosl] at hlt
     have hl1:(arr.toList.take (off+xs.length * te.size)).length=off+xs.length * te.size:=by simp; omega
     simp only [arr',List.getElem?_toArray]
     by_cases hk2:k<xs.length * te.size
     ·rw [List.getElem?_append_left (by omega)] at hk
      rw [List.append_assoc,List.getElem?_append_left (by omega),List.getElem?_take,if_pos (by omega),Array.getElem?_toList,← hosg _ hk2]
      exact hk
     ·rw [List.getElem?_append_right (by omega),hosl] at hk
      rw [List.append_assoc,List.getElem?_append_right (by omega),hl1,List.getElem?_append_left (by omega)]
      rw [show off+k - (off+xs.length * te.size)=k - xs.length * te.size by omega]
      exact hk)
   have hlen:(xs++ys).length=xs.length+n:=by simp; omega
   rw [hlen] at hrow
   refine ⟨_,w.setRow bb arr',_,?_,?_,hrow,?_,rfl⟩
   ·rw [hin hle]
    simp only [addr_add,← hte,hst]
    rfl
   ·exact h.worldBut (b0:=bb) (fun b' _ hb'=>hbad b' hb') (by simp) rfl rfl rfl (hψ.own _ _ _ h00 hdb).1
     (fun r p z e1=>hψ.out _ _ _ h00 hdb _ _ _ e1) (hψ.own _ _ _ h00 hdb).2.2
   ·exact out_row hφe hχ (fun q y b e1 e2 q' y' e3=>hdis _ _ _ e1 e2 _ _ (hφs _ _ e3).2) (by simp) (hψ.own _ _ _ h00 hdb).1 (by simpa using (hψ.own _ _ _ h00 hdb).2.1) (hψ.own _ _ _ h00 hdb).2.2
     (fun r p z e1=>hψ.out _ _ _ h00 hdb _ _ _ e1) hnb hχb
  ·refine grow hle rfl os φe hoscells (fun d=>?_) hφe (fun q y b e1 e2 q' y' e3=>hdis _ _ _ e1 e2 _ _ (hφs _ _ e3).2)
   refine run_firstCells (w:={ w with drawn:=d }) (by rw [hosl,hte]) (.inr ⟨bb,off,rfl,fun k u hk=>?_⟩)
   have:({ w with drawn:=d }:World).cell? ⟨bb,off+k,none⟩=arr[off+k]?:=cell?_of_cells (w:={ w with drawn:=d }) hbb
   rw [this,← hosg k (by rw [← hosl]; exact (List.getElem?_eq_some_iff.mp hk).1)]
   exact hk
end
end Go.V
namespace Go.V
open Go.RowKit
variable {α:Type}
def Ty.flat:Ty→Bool
 | .int _ | .bool | .str | .rsl _ | .unit=>true
 | .pair a b=>and a.flat b.flat
 | _=>false
theorem flat_cells {f g:Fl}:∀ {e:Ty} (_:e.flat=true) (d:den e),cells f e d=cells g e d:=by
 intro e
 induction e with
 | pair a b iha ihb =>
  intro h d
  simp only [Ty.flat,Bool.and_eq_true] at h
  simp only [cells,iha h.1,ihb h.2]
 | int | bool | str | rsl | unit=>intro _ _; rfl
 | _=>intro h _; simp [Ty.flat] at h
theorem flat_sh {f:Fl}:∀ {e:Ty} (_:e.flat=true) (d:den e),∀ t∈cells f e d,t.isSh=true:=by
 intro e
 induction e with
 | pair a b iha ihb =>
  intro h d t ht
  simp only [Ty.flat,Bool.and_eq_true] at h
  simp only [cells,app_eq,List.mem_append] at ht
  rcases ht with ht | ht
  ·exact iha h.1 _ t ht
  ·exact ihb h.2 _ t ht
 | int | bool | str | rsl=>intro _ d t ht; simp only [cells,List.mem_singleton] at ht; subst ht; rfl
 | unit=>intro _ d t ht; simp [cells] at ht
 | _=>intro h _; simp [Ty.flat] at h
def srcK (x:X) (e:Ty) (z:C) (K:List (den e)→X→Option α):Option α:=match z with
 | .k t=>match t with
  | .sl .own _ _=>none
  | .sl _ e' ys=>match e.flat with
   | true=>(cast? (.sl e') (.sl e) ys).bind fun ys=>K ys x
   | false=>none
  | .v (.string s)=>(cast? (.sl (.int .u8)) (.sl e) (s.data.toList.map byteI)).bind fun ys=>K ys x
  | _=>none
 | .nil=>K [] x
 | .own r p _=>match e.flat with
  | true=>atK x r p fun t=>match t with
   | .sl .own e' ys=>(cast? (.sl e') (.sl e) ys).bind fun ys=>K ys x
   | _=>none
  | false=>takeCK x none z fun t x1=>match t with
   | .sl .own e' ys=>(cast? (.sl e') (.sl e) ys).bind fun ys=>K ys x1
   | _=>none
 | .sub r p lo n e0=>match e.flat with
  | true=>atK x r p fun t=>match t with
   | .sl .own e' ys=>match Nat.beq e0.size e'.size with
    | true=>(cast? (.sl e') (.sl e) ys).bind fun ys=>K (midL ys lo n) x
    | false=>none
   | _=>none
  | false=>none
 | _=>none
section
variable {c:Ctx} {B:Base} {s:Sit} {x:X} {a:Act} {w:World}
def flatU (n sz:Nat) (vs:Nat→Nat→Value):List Value:=(List.range (n * sz)).map fun k=>vs (k / sz) (k % sz)
theorem flatU_get {n sz i j:Nat} {vs:Nat→Nat→Value} (hi:i<n) (hj:j<sz):(flatU n sz vs)[i * sz+j]?=some (vs i j):=by
 have hlt:i * sz+j<n * sz:=by
  have:(i+1) * sz≤n * sz:=Nat.mul_le_mul_right _ hi
  rw [Nat.add_mul,Nat.one_mul] at this
  omega
 simp only [flatU,List.getElem?_map,List.getElem?_range hlt,Option.map_some,Option.some.injEq]
 have h1:(i * sz+j) / sz=i:=by rw [Nat.mul_comm,Nat.mul_add_div (by omega),Nat.div_eq_of_lt hj,Nat.add_zero]
 have h2:(i * sz+j) % sz=j:=by rw [Nat.mul_comm,Nat.mul_add_mod,Nat.mod_eq_of_lt hj]
 rw [h1,h2]
theorem flatU_some {n sz k:Nat} {vs:Nat→Nat→Value} {u:Value} (h:(flatU n sz vs)[k]?=some u):∃ i j,i<n∧j<sz∧k=i * sz+j∧u=vs i j:=by
 have hlt:k<n * sz:=by have:=(List.getElem?_eq_some_iff.mp h).1; simpa [flatU] using this
 simp only [flatU,List.getElem?_map,List.getElem?_range hlt,Option.map_some,Option.some.injEq] at h
 have hsz:0<sz:=Nat.pos_of_ne_zero (fun e=>by rw [e] at hlt; simp at hlt)
 refine ⟨k / sz,k % sz,Nat.div_lt_of_lt_mul (by rw [Nat.mul_comm]; exact hlt),Nat.mod_lt _ hsz,?_,h.symm⟩
 rw [Nat.mul_comm]; exact (Nat.div_add_mod k sz).symm
theorem src_slice {sz n cap:Nat} {b:Option Addr} {us:List Value} (hl:us.length=n * sz) (h:n=0∨∃ bb o,b=some ⟨bb,o,none⟩∧∀ (k:Nat) u,us[k]?=some u→w.cell? ⟨bb,o+k,none⟩=some u) :
 SrcRuns c.P w sz (.slice b n cap) n us :=
 ⟨rfl,fun d=>run_firstCells (w:={ w with drawn:=d }) hl h⟩
theorem own_rows {S:Fl→Nat→Prop} {e:Ty} {xs:List (den e)} {v:Value} {φ:Lay} (h:RepO w S (.sl .own e xs) v φ) :
 ∃ us b cap,v = .slice b xs.length cap∧RowsAt w S e xs us (fun q=>match q with | []=>none | q=>φ q)∧SrcRuns c.P w e.size v xs.length us:=by
 cases h with
 | sh _ _ _ ht=>simp [T.isSh] at ht
 | box _ cs ht=>simp [T.box?] at ht
 | nil _ ad φ h0 hn =>
  exact ⟨[],ad,0,rfl,⟨by simp,fun i j t e'=>by simp [cellOf,rows] at e',fun i j _=>by funext q; exact hn (i,j) q⟩,src_slice (by simp) (.inl rfl)⟩
 | sl _ _ b off cap arr el vs φ hb hcap hsz hc hr h0 hn =>
  refine ⟨flatU xs.length e.size vs,_,_,rfl,⟨by simp [flatU],fun i j t e'=>?_,fun i j e'=>hn i j e'⟩,src_slice (by simp [flatU]) (.inr ⟨b,off,rfl,fun k u hk=>?_⟩)⟩
  ·have hij:=rows_lt e'
   exact ⟨vs i j,flatU_get hij.1 hij.2,hr i j t e'⟩
  ·obtain ⟨i,j,hi,hj,rfl,rfl⟩:=flatU_some hk
   rw [cell?_of_cells hb]
   have hcell:∃ t,cellOf (rows .own e xs) i j=some t:=by
    rw [cellOf_rows,List.getElem?_eq_getElem hi,Option.bind_some,nth_eq]
    exact ⟨_,List.getElem?_eq_getElem (by rw [length_cells]; exact hj)⟩
   obtain ⟨t,ht⟩:=hcell
   exact hc i j t ht
theorem flat_rows {S:Fl→Nat→Prop} {e:Ty} {xs:List (den e)} {us:List Value} {φ:Lay} (hf:e.flat=true) (h:RowsAt w S e xs us φ):RowsAt w S e xs us noLay:=by
 refine ⟨h.len,fun i j t e'=>?_,fun _ _ _=>rfl⟩
 obtain ⟨u,g1,g2⟩:=h.get i j t e'
 refine ⟨u,g1,?_⟩
 have hsh:t.isSh=true:=by
  rw [cellOf_rows] at e'
  obtain ⟨d,_,e'⟩:=Option.bind_eq_some_iff.mp e'
  rw [nth_eq] at e'
  exact flat_sh hf d t (List.mem_of_getElem? e')
 rw [g2.shLay hsh] at g2
 exact g2
theorem sh_rows {S:Fl→Nat→Prop} {f:Fl} {e:Ty} {xs:List (den e)} {v:Value} (hf:e.flat=true) (h:RepR w S (.sl f e xs) v) :
 ∃ us b cap,v = .slice b xs.length cap∧RowsAt w S e xs us noLay∧SrcRuns c.P w e.size v xs.length us:=by
 cases h with
 | box _ _ _ hb=>simp [T.shBox?] at hb
 | nil _ _ ad cap=>exact ⟨[],ad,cap,rfl,⟨by simp,fun i j t e'=>by simp [cellOf,rows] at e',fun _ _ _=>rfl⟩,src_slice (by simp) (.inl rfl)⟩
 | sl _ _ _ b off cap vs hR hcap hc hr =>
  have hcell:∀ i j t,cellOf (rows .own e xs) i j=some t→cellOf (rows f e xs) i j=some t:=by
   intro i j t e'
   rw [cellOf_rows] at e' ⊢
   obtain ⟨d,h1,h2⟩:=Option.bind_eq_some_iff.mp e'
   rw [h1,Option.bind_some,flat_cells (f:=f) (g:=.own) hf d]
   exact h2
  refine ⟨flatU xs.length e.size vs,_,_,rfl,⟨by simp [flatU],fun i j t e'=>?_,fun _ _ _=>rfl⟩,src_slice (by simp [flatU]) (.inr ⟨b,off,rfl,fun k u hk=>?_⟩)⟩
  ·have hij:=rows_lt e'
   refine ⟨vs i j,flatU_get hij.1 hij.2,.sh _ _ (hr i j t (hcell i j t e')) ?_⟩
   rw [cellOf_rows] at e'
   obtain ⟨d,_,e'⟩:=Option.bind_eq_some_iff.mp e'
   rw [nth_eq] at e'
   exact flat_sh hf d t (List.mem_of_getElem? e')
  ·obtain ⟨i,j,hi,hj,rfl,rfl⟩:=flatU_some hk
   have hex:∃ t,cellOf (rows .own e xs) i j=some t:=by
    rw [cellOf_rows,List.getElem?_eq_getElem hi,Option.bind_some,nth_eq]
    exact ⟨_,List.getElem?_eq_getElem (by rw [length_cells]; exact hj)⟩
   obtain ⟨t,ht⟩:=hex
   rw [← hc i j t (hcell i j t ht),Nat.add_assoc]
theorem str_rows {S:Fl→Nat→Prop} (l:ByteArray):RowsAt w S (.int .u8) (l.data.toList.map byteI) (l.data.toList.map fun b=>.int .u8 b.toNat) noLay∧SrcRuns c.P w 1 (.string l) l.size (l.data.toList.map fun b=>.int .u8 b.toNat):=by
 refine ⟨⟨by rw [List.length_map,List.length_map]; simp [Ty.size],fun i j t e'=>?_,fun _ _ _=>rfl⟩,rfl,fun d=>?_⟩
 ·have hj:j=0:=by have:=(rows_lt e').2; simp only [Ty.size] at this; omega
  subst hj
  rw [cellOf_rows,List.getElem?_map] at e'
  obtain ⟨d,h1,h2⟩:=Option.bind_eq_some_iff.mp e'
  obtain ⟨b,h3,rfl⟩:=Option.map_eq_some_iff.mp h1
  simp only [cells,nth,Option.some.injEq] at h2
  subst h2
  exact ⟨.int .u8 (byteI b),by simp [Ty.size,h3,byteI],.sh _ _ (.v _ rfl) rfl⟩
 ·have:l.extract 0 l.size=l:=by
   apply ByteArray.ext
   simp
  simp only [Builtin.firstCells,this,Sem.run_pure]
  congr 1
  apply Array.ext'
  simp
structure Src (P:Program) (B:Base) (s:Sit) (x1:X) (a:Act) (w:World) (e:Ty) (ys:List (den e)) (v:Value) (us:List Value) (χ:Lay) (s1:Sit):Prop where
 rel:RelW B s1 x1 a w
 rows:RowsAt w s.S e ys us χ
 out:OwnOut B s1 w χ
 S:s1.S=s.S
 F:s1.F=s.F
 sub:∀ r p z,s1.Φ r p=some z→s.Φ r p=some z
 orig:∀ q y b,χ q=some y→blkOf y=some b→∃ r p z,s.Φ r p=some z∧blkOf z=some b
 runs:SrcRuns P w e.size v ys.length us
theorem src_sound (h:RelW B s x a w) {e:Ty} {z:C} {v:Value} (hz:RepC w s z v) {K:List (den e)→X→Option α} {q:α} (he:srcK x e z K=some q) :
 ∃ ys x1 us χ s1,K ys x1=some q∧Src c.P B s x1 a w e ys v us χ s1:=by
 have plain:∀ {ys:List (den e)} {us:List Value},K ys x=some q→RowsAt w s.S e ys us noLay→SrcRuns c.P w e.size v ys.length us→∃ ys x1 us χ s1,K ys x1=some q∧Src c.P B s x1 a w e ys v us χ s1 :=
  fun hK hr hs=>⟨_,x,_,noLay,s,hK,h,hr,.none B s w,rfl,rfl,fun _ _ _ h=>h,fun _ _ _ h=>(by cases h),hs⟩
 unfold srcK at he
 split at he
 ·split at he
  ·cases he
  ·rename_i t f e' ys hf
   split at he
   ·rename_i hfl
    obtain ⟨ys',h1,he⟩:=Option.bind_eq_some_iff.mp he
    obtain ⟨e1,rfl⟩:=cast?_some h1
    cases e1
    cases hz with
    | k _ _ hr =>
     obtain ⟨us,b,cap,g1,g2,g3⟩:=sh_rows (c:=c) hfl hr
     exact plain he g2 g3
   ·cases he
  ·rename_i l
   obtain ⟨ys',h1,he⟩:=Option.bind_eq_some_iff.mp he
   obtain ⟨e1,rfl⟩:=cast?_some h1
   cases e1
   have:v = .string l:=RepC.scal hz
   subst this
   obtain ⟨g1,g2⟩:=str_rows (c:=c) (w:=w) (S:=s.S) l
   refine plain he g1 ?_
   have hl:l.size=(l.data.toList.map byteI).length:=by rw [List.length_map,Array.length_toList]; rfl
   rw [hl] at g2
   exact g2
  ·cases he
 ·cases hz with
  | nil ad=>exact plain he ⟨by simp,fun i j t e'=>by simp [cellOf,rows] at e',fun _ _ _=>rfl⟩ (src_slice (us:=[]) (by simp) (.inl rfl))
 ·rename_i r p e0
  split at he
  ·rename_i hfl
   obtain ⟨t,h1,he⟩:=atK_some he
   split at he
   ·rename_i e' ys
    obtain ⟨ys',h2,he⟩:=Option.bind_eq_some_iff.mp he
    obtain ⟨e1,rfl⟩:=cast?_some h2
    cases e1
    cases hz with
    | own _ _ _ _ hΦ =>
     obtain ⟨row,k1,k2⟩:=Option.bind_eq_some_iff.mp h1
     obtain ⟨y0,hy0⟩:=h.roots r row k1
     obtain ⟨y,hy⟩:=getT_own p hy0 k2
     obtain ⟨us,b,cap,g1,g2,g3⟩:=own_rows (c:=c) hy
     have hv:y=v:=by
      have hv':((s.Φ r).under p) []=some v:=by rw [Lay.under_apply_nil]; exact hΦ
      generalize (s.Φ r).under p=φ at hy hv'
      cases hy with
      | sh _ _ _ ht=>simp [T.isSh] at ht
      | nil e ad φ h0 hn=>rw [h0,Option.some.injEq] at hv'; exact hv'
      | sl e xs b off cap arr el vs φ hb hcap hsz hc hr h0 hn=>rw [h0,Option.some.injEq] at hv'; exact hv'
      | box _ cs ht=>simp [T.box?] at ht
     subst hv
     exact plain he (flat_rows hfl g2) g3
   ·cases he
  ·obtain ⟨t,x1,s1,ψ,hK,tc⟩:=takeC_sound h hz he
   split at hK
   ·rename_i e' ys
    obtain ⟨ys',h2,hK⟩:=Option.bind_eq_some_iff.mp hK
    obtain ⟨e1,rfl⟩:=cast?_some h2
    cases e1
    obtain ⟨us,b,cap,g1,g2,g3⟩:=own_rows (c:=c) tc.rep
    have hsubl:∀ (q:Path) y,(fun q=>match q with | []=>none | q=>ψ q:Lay) q=some y→ψ q=some y:=by
     intro q y e1
     cases q with
     | nil=>cases e1
     | cons=>exact e1
    exact ⟨_,x1,us,_,s1,hK,tc.rel,g2,⟨fun p y p' y' b e1 e2 e3 e4=>tc.out.inj _ _ _ _ _ (hsubl _ _ e1) e2 (hsubl _ _ e3) e4,fun q y b e1=>tc.out.own _ _ _ (hsubl _ _ e1),fun q y b e1=>tc.out.out _ _ _ (hsubl _ _ e1)⟩,
     tc.S,tc.F,tc.sub,fun q y b e1 e2=>tc.orig _ _ _ (hsubl _ _ e1) e2,g3⟩
   ·cases hK
 ·rename_i r p lo n e0
  split at he
  ·rename_i hfl
   obtain ⟨t,h1,he⟩:=atK_some he
   split at he
   ·rename_i e' ys
    split at he
    ·rename_i hsz
     have hsz:=Nat.eq_of_beq_eq_true hsz
     obtain ⟨ys',h2,he⟩:=Option.bind_eq_some_iff.mp he
     obtain ⟨e1,rfl⟩:=cast?_some h2
     cases e1
     cases hz with
     | sub _ _ _ _ _ a1 a' n0 cap cap' hΦ hle hcap hcn hcc h0 hn =>
      obtain ⟨row,k1,k2⟩:=Option.bind_eq_some_iff.mp h1
      obtain ⟨y0,hy0⟩:=h.roots r row k1
      obtain ⟨y,hy⟩:=getT_own p hy0 k2
      have hv:y = .slice a1 n0 cap:=by
       have hv':((s.Φ r).under p) []=some (.slice a1 n0 cap):=by rw [Lay.under_apply_nil]; exact hΦ
       generalize (s.Φ r).under p=φ at hy hv'
       cases hy with
       | sh _ _ _ ht=>simp [T.isSh] at ht
       | nil e ad φ h0 hn=>rw [h0,Option.some.injEq] at hv'; exact hv'
       | sl e xs b off cap arr el vs φ hb hcap hsz hc hr h0 hn=>rw [h0,Option.some.injEq] at hv'; exact hv'
       | box _ cs ht=>simp [T.box?] at ht
      subst hv
      obtain ⟨ψ,m1,-⟩:=mid_rep (a':=a') hy hle hcn hcc (fun hc0=>by
       obtain ⟨b,off,f1,f2⟩:=hn hc0
       exact ⟨b,off,f1,by rw [f2,hsz]⟩)
      obtain ⟨us,b,cap2,g1,g2,g3⟩:=own_rows (c:=c) m1
      exact plain he (flat_rows hfl g2) g3
    ·cases he
   ·cases he
  ·cases he
 ·cases he
def isNilC:C→Bool
 | .nil=>true
 | _=>false
def D.one:D→Option C
 | .v (.c y)=>some y
 | _=>none
def appendK (cx:Ctx) (nt:Fr) (x:X) (ats:Array TypeId) (d1 d2:D) (k:Nat) (K:X→Option α):Option α :=
 (nth ats.toList 0).bind fun st=>(nth ats.toList 1).bind fun xt=>(look cx.Ty st).bind fun i=>(look cx.Ty xt).bind fun xi=>match i.d with
  | .sl e=>(look cx.Ty e).bind fun ei=>(d1.one).bind fun y=>(d2.one).bind fun z =>
   match and (Nat.beq ei.ty.size ei.size) (and (Nat.ble 1 ei.size) (and (Nat.ble 1 ei.bytes) (and (Nat.beq ei.zero.length ei.size) (match xi.d with | .sl _=>true | .str=>true | _=>false)))) with
   | true=>takeCK x (some ei.ty) y fun t x1=>match t with
    | .sl .own e1 xs=>(cast? (.sl e1) (.sl ei.ty) xs).bind fun xs=>srcK x1 ei.ty (killBy y z) fun ys x2 =>
     cond (roomOk (isNilC y) xs.length ys.length ei.bytes) (newK nt x2 k (.sl .own ei.ty (app xs ys)) (.own k [(0,0)] ei.ty) K) none
    | _=>none
   | false=>none
  | _=>none
theorem append_sound {nt:Fr} (hnt:B.nt=nt) (h:RelW B s x a w) {ats:Array TypeId} {ty:TypeId} {d1 d2:D} {v1 v2:Value} (hv1:RepD w s d1 v1) (hv2:RepD w s d2 v2) {k:Nat} {K:X→Option α} {q:α}
 (he:appendK c nt x ats d1 d2 k K=some q) :
 ∃ x' s' u w',K x'=some q∧(Builtin.append_ ats ty #[v1,v2]).run c.P w = .ok u w'∧RelW B s' x' (a.gput B k u) w':=by
 unfold appendK at he
 obtain ⟨st,h00,he⟩:=Option.bind_eq_some_iff.mp he
 obtain ⟨xt,h11,he⟩:=Option.bind_eq_some_iff.mp he
 have h0:ats[0]?=some st:=by rw [nth_eq,Array.getElem?_toList] at h00; exact h00
 have h1:ats[1]?=some xt:=by rw [nth_eq,Array.getElem?_toList] at h11; exact h11
 obtain ⟨i,e1,he⟩:=Option.bind_eq_some_iff.mp he
 obtain ⟨xi,e2,he⟩:=Option.bind_eq_some_iff.mp he
 have hi:=c.hTy st i e1
 have hxi:=c.hTy xt xi e2
 split at he
 rotate_left
 ·cases he
 rename_i e hel
 obtain ⟨ei,e3,he⟩:=Option.bind_eq_some_iff.mp he
 have hei:=c.hTy e ei e3
 obtain ⟨y,hy,he⟩:=Option.bind_eq_some_iff.mp he
 obtain ⟨z,hz,he⟩:=Option.bind_eq_some_iff.mp he
 have hy':d1 = .v (.c y):=by unfold D.one at hy; split at hy <;> cases hy; rfl
 have hz':d2 = .v (.c z):=by unfold D.one at hz; split at hz <;> cases hz; rfl
 rw [hy'] at hv1
 rw [hz'] at hv2
 have hrc1:RepC w s y v1:=by cases hv1 with | v _ _ hv1=>cases hv1 with | c _ _ hv1=>exact hv1
 have hrc2:RepC w s z v2:=by cases hv2 with | v _ _ hv2=>cases hv2 with | c _ _ hv2=>exact hv2
 split at he
 rotate_left
 ·cases he
 rename_i hb
 simp only [Bool.and_eq_true] at hb
 obtain ⟨hb1,hb2,hb3,hb4,hb5⟩:=hb
 have hb1:=Nat.eq_of_beq_eq_true hb1
 have hb2:=Nat.le_of_ble_eq_true hb2
 have hb3:=Nat.le_of_ble_eq_true hb3
 have hb4:=Nat.eq_of_beq_eq_true hb4
 obtain ⟨t,x1,s1,ψ,hK,tc⟩:=takeC_sound h hrc1 he
 split at hK
 rotate_left
 ·cases hK
 rename_i e1' xs0
 obtain ⟨xs,h2,hK⟩:=Option.bind_eq_some_iff.mp hK
 obtain ⟨e4,rfl⟩:=cast?_some h2
 cases e4
 obtain ⟨ys,x2,us,χ,s2,hK2,src⟩:=src_sound (c:=c) tc.rel (tc.live _ _ hrc2) hK
 rcases cond_some hK2 with ⟨hroom,hK3⟩ | ⟨_,hK3⟩
 rotate_left
 ·cases hK3
 have hval:∃ base cap0,v1 = .slice base xs0.length cap0∧(isNilC y=true→cap0=0):=by
  have hnil:isNilC y=true→v1.cells=v1.cells∧∃ b,v1 = .slice b 0 0:=by
   intro e
   cases hrc1 <;> simp [isNilC] at e
   exact ⟨rfl,_,rfl⟩
  have hrep:=tc.rep
  cases hrep with
  | sh _ _ _ ht=>simp [T.isSh] at ht
  | nil _ ad φ _ _=>exact ⟨ad,0,rfl,fun _=>rfl⟩
  | sl _ _ b off cap arr el vs φ=>exact ⟨_,cap+1,rfl,fun e=>by obtain ⟨_,b,hb⟩:=hnil e; simp at hb⟩
  | box _ cs ht=>simp [T.box?] at ht
 obtain ⟨base,cap0,rfl,hnil⟩:=hval
 have hxd:∃ xd,c.P.underlying xt=some xd∧∀ k,xd≠.int k:=by
  split at hb5
  ·rename_i e9 h9; exact ⟨_,hxi.slice h9,nofun⟩
  ·rename_i h9; exact ⟨_,hxi.string h9,nofun⟩
  ·cases hb5
 obtain ⟨xd,hxu,hxd⟩:=hxd
 have hsrcR:SrcRuns c.P w ei.size v2 ys.length us:=by rw [← hb1]; exact src.runs
 obtain ⟨v',w',ψ',r1,r2,r3,r4,r5⟩:=append_core (ty:=ty) h0 h1 hi hel hxu hxd hei hb4 hb3 src.rel (te:=ei.ty) hb1 (by omega) (xs:=xs0) (ys:=ys) (ψ:=ψ) (χ:=χ) (base:=base) (n0:=xs0.length) (cap0:=cap0)
  (by rw [src.S,tc.S]; exact tc.rep) (tc.out.sub src.S src.sub) (by rw [src.S]; exact src.rows) src.out
  (fun q1 y1 b1 g1 g2 q' y' g3 g4=>by
   obtain ⟨r,p,z',f1,f2⟩:=src.orig _ _ _ g1 g2
   exact tc.out.out _ _ _ g3 g4 _ _ _ f1 f2) rfl hsrcR hnil hroom
 rw [app_eq] at hK3
 obtain ⟨x',s',k1,k2⟩:=new_sound (v:=v') hnt r2 hK3 r3 r4 (fun s' _ hΦ=>.own k [(0,0)] ei.ty v' (by rw [hΦ []]; exact r5))
 exact ⟨x',s',_,w',k1,r1,k2⟩
end
end Go.V
namespace Go.V
open Go.RowKit
variable {α:Type}
def partsC (cx:Ctx) (x:X) (sz:Nat):Nat→List (Nat×Operand)→Option (List C)
 | _,[]=>some []
 | i,p :: ps=>match Nat.beq p.1 i with
  | true=>(evalD cx x p.2).bind fun d=>match and (Nat.beq d.cells.length sz) (allB okCell d.cells) with
   | true=>(partsC cx x sz (i+1) ps).map fun r=>app d.cells r
   | false=>none
  | false=>none
def frzOf (g:Fl):Ty→List (Option Ty)
 | .sl e=>match g with
  | .ro=>[some e]
  | _=>[none]
 | .rsl e=>[some e]
 | .pair a b=>app (frzOf g a) (frzOf g b)
 | .unit=>[]
 | _=>[none]
def repN {β:Type} (l:List β):Nat→List β
 | 0=>[]
 | n+1=>app l (repN l n)
def buildSliceK (cx:Ctx) (nt:Fr) (x:X) (t:TypeId) (len:Nat) (parts:Array (Nat×Operand)) (k:Nat) (K:X→Option α):Option α :=
 (look cx.Ty t).bind fun i=>match i.d with
  | .sl e=>(look cx.Ty e).bind fun ei=>match and (Nat.beq ei.ty.size ei.size) (and (Nat.ble 1 ei.size) (and (Nat.beq parts.toList.length len) (Nat.ble (len * ei.size) 16777216))) with
   | true=>(partsC cx x ei.size 0 parts.toList).bind fun ys=>prepK (repN (frzOf .own ei.ty) len) [] ys x fun ys x0=>takeCsK (repN ei.zel len) ys (len * ei.size) x0 fun ts x1 =>
    (packN ei.ty len ts).bind fun xs=>newK nt x1 k (.sl .own ei.ty xs) (.own k [(0,0)] ei.ty) K
   | false=>none
  | _=>none
section
variable {c:Ctx} {B:Base} {s:Sit} {x:X} {a:Act} {w:World}
theorem partsC_spec (hG:Fit B c) (h:RelW B s x a w) {sz:Nat} (hsz:1≤sz):∀ {ps:List (Nat×Operand)} {i:Nat} {ys:List C},partsC c x sz i ps=some ys →
 ys.length=ps.length * sz∧(∀ (m:Nat) p,ps[m]?=some p→p.1=i+m∧(a.eval p.2).cells.size=sz∧∀ j,j<sz→∃ y u,ys[m * sz+j]?=some y∧(a.eval p.2).cells[j]?=some u∧RepC w s y u∧u.oneCell'=true)
 | [],i,ys,he=>by
  simp only [partsC,Option.some.injEq] at he
  subst he
  exact ⟨by simp,fun m p e=>by simp at e⟩
 | p0 :: ps,i,ys,he=>by
  simp only [partsC] at he
  split at he
  ·rename_i hi
   have hi:=Nat.eq_of_beq_eq_true hi
   obtain ⟨d,e1,he⟩:=Option.bind_eq_some_iff.mp he
   split at he
   ·rename_i hb
    simp only [Bool.and_eq_true] at hb
    have hb1:=Nat.eq_of_beq_eq_true hb.1
    obtain ⟨r,e2,rfl⟩:=Option.map_eq_some_iff.mp he
    obtain ⟨g1,g2⟩:=partsC_spec hG h hsz e2
    have hne:d.cells≠[]:=fun e=>by rw [e] at hb1; simp at hb1; omega
    have hall:=Dcells_sound h (evalD_sound hG h e1) hb.2 hne
    rw [app_eq]
    refine ⟨by simp [hb1,g1,Nat.add_mul]; omega,fun m p e=>?_⟩
    cases m with
    | zero =>
     simp only [List.getElem?_cons_zero,Option.some.injEq] at e
     subst e
     refine ⟨by omega,by rw [hall.1,hb1],fun j hj=>?_⟩
     have hjl:j<d.cells.length:=by omega
     obtain ⟨u,f1,f2⟩:=hall.2 j _ (List.getElem?_eq_getElem hjl)
     exact ⟨d.cells[j],u,by rw [Nat.zero_mul,Nat.zero_add,List.getElem?_append_left hjl]; exact List.getElem?_eq_getElem hjl,f1,f2,cell_one h f2 ((allB_iff _ _).1 hb.2 _ (List.getElem_mem hjl))⟩
    | succ m =>
     obtain ⟨k1,k2,k3⟩:=g2 m p (by simpa using e)
     refine ⟨by omega,k2,fun j hj=>?_⟩
     obtain ⟨y,u,f1,f2,f3,f4⟩:=k3 j hj
     refine ⟨y,u,?_,f2,f3,f4⟩
     rw [List.getElem?_append_right (by rw [hb1,Nat.add_mul]; omega),hb1,show (m+1) * sz+j - sz=m * sz+j by rw [Nat.add_mul]; omega]
     exact f1
   ·cases he
  ·cases he
theorem fill_rows {size:Nat}:∀ (ps:List (Nat×Value)) (cells:Array Value),(ps.map (·.1)).Nodup→(∀ p∈ps,p.2.cells.size=size∧p.1 * size+size≤cells.size) →
 ∃ out,Instr.fill (fun i=>some (i * size,size)) cells ps=some out∧out.size=cells.size∧(∀ p∈ps,∀ j,j<size→out[p.1 * size+j]?=p.2.cells[j]?) ∧
  ∀ idx:Nat,(∀ p∈ps,¬ (p.1 * size≤idx∧idx<p.1 * size+size))→out[idx]?=cells[idx]?:=by
 intro ps
 induction ps with
 | nil=>intro cells _ _; exact ⟨cells,rfl,rfl,fun p hp=>by simp at hp,fun _ _=>rfl⟩
 | cons p ps ih =>
  intro cells hnd hall
  obtain ⟨i,v⟩:=p
  simp only [List.map_cons,List.nodup_cons] at hnd
  have h0:=hall (i,v) (by simp)
  obtain ⟨cells',e1,e2⟩:=fill_step (rest:=ps) (place:=fun i=>some (i * size,size)) (cells:=cells) (i:=i) (v:=v) rfl h0.1 (by rw [h0.1]; exact h0.2)
  have hs':cells'.size=cells.size:=by
   have:cells'.size=cells'.toList.length:=by simp
   rw [this,e1,setFrom_length]; simp
  obtain ⟨out,f1,f2,f3,f4⟩:=ih cells' hnd.2 (fun p hp=>by rw [hs']; exact hall p (by simp [hp]))
  have hget:∀ idx:Nat,cells'[idx]?=if i * size≤idx∧idx<i * size+size∧idx<cells.size then v.cells[idx - i * size]? else cells[idx]?:=by
   intro idx
   have:cells'[idx]?=cells'.toList[idx]?:=by simp
   rw [this,e1,setFrom_get]
   have hl:v.cells.toList.length=size:=by simpa using h0.1
   simp only [hl,Array.length_toList,Array.getElem?_toList]
  refine ⟨out,by rw [e2]; exact f1,by rw [f2,hs'],?_,?_⟩
  ·intro p hp j hj
   rcases List.mem_cons.mp hp with rfl | hp
   ·have hdis:∀ q∈ps,¬ (q.1 * size≤i * size+j∧i * size+j<q.1 * size+size):=by
     intro q hq hc
     have hne:q.1≠i:=fun e=>hnd.1 (by rw [← e]; exact List.mem_map.mpr ⟨q,hq,rfl⟩)
     rcases Nat.lt_or_gt_of_ne hne with hlt | hgt
     ·have:(q.1+1) * size≤i * size:=Nat.mul_le_mul_right size hlt
      rw [Nat.add_mul,Nat.one_mul] at this
      omega
     ·have:(i+1) * size≤q.1 * size:=Nat.mul_le_mul_right size hgt
      rw [Nat.add_mul,Nat.one_mul] at this
      omega
    simp only
    rw [f4 _ hdis,hget,if_pos (by have:=h0.2; simp only at this; omega)]
    congr 1; omega
   ·exact f3 p hp j hj
  ·intro idx hidx
   rw [f4 idx (fun q hq=>hidx q (by simp [hq])),hget,if_neg (by have:=hidx (i,v) (by simp); simp only at this; omega)]
theorem buildSlice_sound {nt:Fr} (hG:Fit B c) (hnt:B.nt=nt) (h:RelW B s x a w) {t:TypeId} {len:Nat} {parts:Array (Nat×Operand)} {k:Nat} {K:X→Option α} {q:α}
 (he:buildSliceK c nt x t len parts k K=some q) :
 ∃ x' s' u w',K x'=some q∧(Instr.buildSlice t len (parts.map fun p=>(p.1,a.eval p.2))).run c.P w = .ok u w'∧RelW B s' x' (a.gput B k u) w':=by
 unfold buildSliceK at he
 obtain ⟨i,e1,he⟩:=Option.bind_eq_some_iff.mp he
 have hok:=c.hTy t i e1
 split at he
 rotate_left
 ·cases he
 rename_i el hel
 have hu:=hok.slice hel
 obtain ⟨ei,e2,he⟩:=Option.bind_eq_some_iff.mp he
 have hoke:=c.hTy _ ei e2
 split at he
 rotate_left
 ·cases he
 rename_i hb
 simp only [Bool.and_eq_true] at hb
 obtain ⟨hb1,hb2,hb3,hb4⟩:=hb
 have hb1:=Nat.eq_of_beq_eq_true hb1
 have hb2:=Nat.le_of_ble_eq_true hb2
 have hb3:=Nat.eq_of_beq_eq_true hb3
 have hb4:=Nat.le_of_ble_eq_true hb4
 obtain ⟨ys,e3,he⟩:=Option.bind_eq_some_iff.mp he
 obtain ⟨p1,p2⟩:=partsC_spec hG h hb2 e3
 obtain ⟨z,hz1,hz2⟩:=hoke.run_zeroValue w
 have hnd:((parts.toList.map fun p=>(p.1,a.eval p.2)).map (·.1)).Nodup:=by
  rw [List.map_map]
  have:(parts.toList.map ((fun x:Nat×Value=>x.1) ∘ fun p:Nat×Operand=>(p.1,a.eval p.2)))=List.range len:=by
   apply List.ext_getElem?
   intro m
   rw [List.getElem?_map]
   cases hm:parts.toList[m]? with
   | none =>
    have:=List.getElem?_eq_none_iff.mp hm
    rw [List.getElem?_eq_none (by simp; omega)]; rfl
   | some p =>
    have hlt:=(List.getElem?_eq_some_iff.mp hm).1
    rw [List.getElem?_range (by omega)]
    have:=(p2 m p hm).1
    simp only [Option.map_some,Function.comp,Option.some.injEq]; omega
  rw [this]
  exact List.nodup_range
 obtain ⟨out,f1,f2,f3,-⟩:=fill_rows (size:=ei.size) (parts.toList.map fun p=>(p.1,a.eval p.2)) ((Array.range (len * ei.size)).map fun j=>(if len * ei.size=0 then #[] else z.cells)[j % (if len * ei.size=0 then #[] else z.cells).size]!) hnd
  (fun p hp=>by
   obtain ⟨q,hq,rfl⟩:=List.mem_map.mp hp
   obtain ⟨m,hm⟩:=List.getElem?_of_mem hq
   obtain ⟨g1,g2,_⟩:=p2 m q hm
   refine ⟨g2,?_⟩
   simp only [Array.size_map,Array.size_range]
   have hlt:=(List.getElem?_eq_some_iff.mp hm).1
   have:(m+1) * ei.size≤len * ei.size:=Nat.mul_le_mul_right _ (by omega)
   rw [Nat.add_mul,Nat.one_mul] at this
   rw [g1,Nat.zero_add]
   exact this)
 have hos:out.size=len * ei.size:=by rw [f2]; simp
 obtain ⟨zs,x0,s0,k1,k2,k3,k4⟩:=prep_sound (repN (frzOf .own ei.ty) len) [] ys (vals:=out.toList) h (fun m y hm=>by
  rw [List.nil_append] at hm
  have hlt:m<len * ei.size:=by have:=(List.getElem?_eq_some_iff.mp hm).1; rw [p1,hb3] at this; exact this
  have hdiv:m / ei.size<len:=Nat.div_lt_of_lt_mul (by rw [Nat.mul_comm]; exact hlt)
  have hmod:m % ei.size<ei.size:=Nat.mod_lt _ (by omega)
  have hp:=List.getElem?_eq_getElem (l:=parts.toList) (i:=m / ei.size) (by omega)
  obtain ⟨g1,g2,g3⟩:=p2 _ _ hp
  obtain ⟨y',u,r1,r2,r3,r4⟩:=g3 _ hmod
  have e4:m / ei.size * ei.size+m % ei.size=m:=by rw [Nat.mul_comm]; exact Nat.div_add_mod m ei.size
  rw [e4,hm,Option.some.injEq] at r1
  subst r1
  have:=f3 _ (List.mem_map.mpr ⟨_,List.getElem_mem (by omega:m / ei.size<parts.toList.length),rfl⟩) _ hmod
  rw [g1,Nat.zero_add,e4] at this
  exact ⟨u,by rw [Array.getElem?_toList,this]; exact r2,r3⟩) he
 simp only [List.length_nil,Nat.zero_add] at k3
 obtain ⟨ts,x1,s1,us,φ,hK,hrel,htk,hS,hF,hsub,-,hlen,hvals⟩:=takeCs_sound (len * ei.size) _ zs (vals:=out.toList) k2.rel (Taken.empty (fun _=>.nilIface)) k4 (by rw [k3,p1,hb3]) k1
 simp only [List.nil_append,List.length_nil,Nat.zero_add] at htk hvals
 obtain ⟨xs,e5,hK⟩:=Option.bind_eq_some_iff.mp hK
 have hxl:=(packN_some e5).1
 obtain ⟨hc1,hc2⟩:=rows_hc htk e5 (arr:=out) (fun j hj=>by rw [← Array.getElem?_toList]; exact hvals j (by omega))
 have hrep:=sl_rep (el:=el) (cap:=len) hrel (rowLay_out htk.own) (by omega) (by rw [hos,hb1]; exact Nat.le_refl _) hc1 hc2
 have hout:=topLay_out (o:=.cells out el) (v:=.slice (some ⟨w.heap.size,0,none⟩) xs.length len) hrel (rowLay_out (n:=len) (sz:=ei.ty.size) htk.own) (fun b hb=>by
  cases len with
  | zero=>simp [blkOf] at hb
  | succ=>simp only [blkOf,Option.some.injEq] at hb; exact hb.symm)
 obtain ⟨x',s',k1,k2⟩:=new_sound (v:=.slice (some ⟨w.heap.size,0,none⟩) xs.length len) hnt (hrel.push _) hK hrep hout (fun s' _ hΦ=>.own k [(0,0)] ei.ty _ (by rw [hΦ []]; rfl))
 refine ⟨x',s',_,_,k1,?_,k2⟩
 have hp:(parts.map fun p=>(p.1,a.eval p.2)).toList=parts.toList.map fun p=>(p.1,a.eval p.2):=by simp
 have hc1 : ¬ (len * ei.size > 2 ^ 24):=by omega
 by_cases hc2:len * ei.size=0
 ·simp only [Instr.buildSlice,Sem.run_bind,run_underlying hu,Result.andThen_ok,hoke.run_sizeOf,Sem.run_ite,if_neg hc1,if_pos hc2,Sem.run_pure,hp]
  rw [if_pos hc2] at f1
  rw [f1]
  simp [newRow,hxl]
 ·simp only [Instr.buildSlice,Sem.run_bind,run_underlying hu,Result.andThen_ok,hoke.run_sizeOf,Sem.run_ite,if_neg hc1,if_neg hc2,Sem.run_pure,hz1,hp]
  rw [if_neg hc2] at f1
  rw [f1]
  simp [newRow,hxl]
def zelM:List (Option Ty)→List (Option Ty)→List (Option Ty)
 | z :: zs,f :: fs=>(match f with | some _=>none | none=>z) :: zelM zs fs
 | zs,[]=>zs
 | [],_=>[]
def zTm:List Value→List (Option Ty)→List (Option Ty)→List T
 | v :: vs,z :: zs,f :: fs=>(match z with | some e=>(match f with | some e'=>.sl .ro e' [] | none=>.sl .own e []) | none=>.v v) :: zTm vs zs fs
 | vs,zs,[]=>zTs vs zs
 | _,_,_=>[]
theorem zTm_length:∀ {vs:List Value} {zs fs:List (Option Ty)} (_:vs.length=zs.length),(zTm vs zs fs).length=vs.length
 | [],[],[],_=>rfl
 | [],[],_ :: _,_=>rfl
 | v :: vs,z :: zs,[],h=>zTs_length h
 | v :: vs,z :: zs,f :: fs,h=>by simp [zTm,zTm_length (fs:=fs) (by simpa using h:vs.length=zs.length)]
theorem zTm_get:∀ {vs:List Value} {zs fs:List (Option Ty)} (_:vs.length=zs.length) (j:Nat) (v:Value) (z:Option Ty),vs[j]?=some v→zs[j]?=some z →
 (∃ e,z=some e∧(∃ e',(zTm vs zs fs)[j]?=some (.sl .ro e' []))∧(zelM zs fs)[j]?=some none)∨((zTm vs zs fs)[j]?=some (match z with | some e=>.sl .own e [] | none=>.v v)∧(zelM zs fs)[j]?=some z)
 | [],[],[],_,j,v,z,h1,_=>by simp at h1
 | [],[],_ :: _,_,j,v,z,h1,_=>by simp at h1
 | a :: vs,b :: zs,[],h,j,v,z,h1,h2=>.inr ⟨by
  rw [show zTm (a :: vs) (b :: zs) []=zTs (a :: vs) (b :: zs) from rfl,zTs_get h,h1,h2]; rfl,by
  rw [show zelM (b :: zs) []=b :: zs from rfl]; exact h2⟩
 | a :: vs,b :: zs,f :: fs,h,0,v,z,h1,h2=>by
  simp only [List.getElem?_cons_zero,Option.some.injEq] at h1 h2
  subst h1 h2
  cases b with
  | none=>cases f <;> exact .inr ⟨rfl,rfl⟩
  | some e=>cases f with
   | none=>exact .inr ⟨rfl,rfl⟩
   | some e'=>exact .inl ⟨e,rfl,⟨e',rfl⟩,rfl⟩
 | a :: vs,b :: zs,f :: fs,h,j+1,v,z,h1,h2=>by
  have:=zTm_get (fs:=fs) (by simpa using h:vs.length=zs.length) j v z (by simpa using h1) (by simpa using h2)
  simpa [zTm,zelM] using this
theorem zTakenM {B:Base} {s:Sit} {w:World} {vs:List Value} {zs:List (Option Ty)} (fs:List (Option Ty)) (hz:zeroOk vs zs=true):Taken B s w (zTm vs zs fs) (fun j=>(vs[j]?).getD .nilIface) (zLay (zelM zs fs)):=by
 obtain ⟨hlen,hall⟩:=zeroOk_spec hz
 have hb:∀ q y,zLay (zelM zs fs) q=some y→blkOf y=none:=by
  intro q y h
  match q with
  | []=>cases h
  | [(i,j)] =>
   simp only [zLay] at h
   split at h
   ·split at h
    ·cases h; rfl
    ·cases h
   ·cases h
  | _ :: _ :: _=>cases h
 have hlm:(zTm vs zs fs).length=vs.length:=zTm_length hlen
 refine ⟨fun j t e=>?_,rfl,fun i j hij=>?_,⟨fun q y q' y' b e1 e2 _ _=>absurd ((hb _ _ e1).symm.trans e2) nofun,fun q y b e1 e2=>absurd ((hb _ _ e1).symm.trans e2) nofun,fun q y b e1 e2 _ _ _ _=>absurd ((hb _ _ e1).symm.trans e2) nofun⟩⟩
 ·have hj:j<vs.length:=by
   have:=(List.getElem?_eq_some_iff.mp e).1
   omega
  have e1:vs[j]?=some vs[j]:=List.getElem?_eq_getElem hj
  have e2:zs[j]?=some (zs[j]'(by omega)):=List.getElem?_eq_getElem (by omega)
  generalize vs[j]=v at e1
  generalize zs[j]'(by omega)=z at e2
  obtain ⟨g1,z',g2,g3⟩:=hall j v e1
  rw [e2,Option.some.injEq] at g2
  subst g2
  simp only [e1,Option.getD_some]
  rcases zTm_get (fs:=fs) hlen j v z e1 e2 with ⟨e0,rfl,⟨e',f1⟩,f2⟩ | ⟨f1,f2⟩
  ·rw [f1,Option.some.injEq] at e
   subst e
   have:(zLay (zelM zs fs)).at 0 j=noLay:=by funext q; cases q <;> simp [Lay.at,zLay,f2,noLay]
   rw [this,g3 e0 rfl]
   exact .sh _ _ (.nil .ro e' none 0) rfl
  ·rw [f1,Option.some.injEq] at e
   subst e
   cases z with
   | none =>
    have:(zLay (zelM zs fs)).at 0 j=noLay:=by funext q; cases q <;> simp [Lay.at,zLay,f2,noLay]
    rw [this]
    exact .sh _ _ (.v v g1) rfl
   | some e0 =>
    rw [g3 e0 rfl]
    refine .nil e0 none _ ?_ (fun c0 p=>rfl)
    simp [Lay.at,zLay,f2]
 ·funext q
  cases q with
  | nil =>
   simp only [Lay.at,zLay,noLay]
   rcases hij with hij | hij
   ·rw [if_neg hij]
   ·have hj:vs.length≤j:=by
     rw [List.getElem?_eq_none_iff,hlm] at hij
     exact hij
    have hn:(zelM zs fs)[j]?=none:=by
     have hl:∀ (zs fs:List (Option Ty)),(zelM zs fs).length=zs.length:=by
      intro zs
      induction zs with
      | nil=>intro fs; cases fs <;> rfl
      | cons z zs ih=>intro fs; cases fs <;> simp [zelM,ih]
     rw [List.getElem?_eq_none_iff,hl]
     omega
    rw [hn]; simp
  | cons=>rfl
def makeSliceK (cx:Ctx) (nt:Fr) (x:X) (t:TypeId) (ld cd:D) (k:Nat) (K:X→Option α):Option α :=
 (look cx.Ty t).bind fun i=>match i.d with
  | .sl e=>(look cx.Ty e).bind fun ei=>(ld.val).bind fun lv=>(cd.val).bind fun cv=>match lv with
   | .int _ l=>match cv with
    | .int _ cp=>match and (Nat.beq ei.ty.size ei.size) (and (zeroOk ei.zero ei.zel) (Nat.beq ei.zero.length ei.size)) with
     | true=>(packAll .own ei.ty (zTm ei.zero ei.zel (frzOf .own ei.ty))).bind fun z0 =>
      cond (and (decide (0≤l)) (and (decide (l≤cp)) (and (decide ((ei.bytes:Int) * cp≤281474976710656)) (decide (cp≤9223372036854775807)))))
       (newK nt x k (.sl .own ei.ty (List.replicate l.toNat z0)) (.own k [(0,0)] ei.ty) K) none
     | false=>none
    | _=>none
   | _=>none
  | _=>none
def zrLay (n:Nat) (zs:List (Option Ty)):Lay:=fun q=>match q with
 | []=>none
 | (i,j) :: q=>if i<n then zLay zs ((0,j) :: q) else none
theorem makeSlice_sound {nt:Fr} (hnt:B.nt=nt) (h:RelW B s x a w) {t:TypeId} {ld cd:D} {lv cv:Value} (h1:RepD w s ld lv) (h2:RepD w s cd cv) {k:Nat} {K:X→Option α} {q:α}
 (he:makeSliceK c nt x t ld cd k K=some q) :
 ∃ x' s' u w',K x'=some q∧(Instr.makeSlice t lv cv).run c.P w = .ok u w'∧RelW B s' x' (a.gput B k u) w':=by
 unfold makeSliceK at he
 obtain ⟨i,e1,he⟩:=Option.bind_eq_some_iff.mp he
 have hok:=c.hTy t i e1
 split at he
 rotate_left
 ·cases he
 rename_i el hel
 have hu:=hok.slice hel
 obtain ⟨ei,e2,he⟩:=Option.bind_eq_some_iff.mp he
 have hoke:=c.hTy _ ei e2
 obtain ⟨lv',e3,he⟩:=Option.bind_eq_some_iff.mp he
 obtain ⟨cv',e4,he⟩:=Option.bind_eq_some_iff.mp he
 obtain ⟨e5,-⟩:=D.val_sound h1 e3
 obtain ⟨e6,-⟩:=D.val_sound h2 e4
 split at he
 rotate_left
 ·cases he
 rename_i kl l _
 split at he
 rotate_left
 ·cases he
 rename_i kc cp
 split at he
 rotate_left
 ·cases he
 rename_i hb
 simp only [Bool.and_eq_true] at hb
 obtain ⟨hb1,hb2,hb3⟩:=hb
 have hb1:=Nat.eq_of_beq_eq_true hb1
 have hb3:=Nat.eq_of_beq_eq_true hb3
 obtain ⟨z0,e7,he⟩:=Option.bind_eq_some_iff.mp he
 rcases cond_some he with ⟨hc,he⟩ | ⟨_,he⟩
 rotate_left
 ·cases he
 simp only [Bool.and_eq_true,decide_eq_true_eq] at hc
 obtain ⟨c1,c2,c3,c4⟩:=hc
 obtain ⟨j,z,g1,g2,g3,g4,g5⟩:=hoke.get
 have hrun:=run_make (P:=c.P) w t el j z hu g1 g4 kl kc l cp c1 c2 (by rw [g3]; exact c3) c4
 have hz0:=packAll_some e7
 obtain ⟨hlen,hall⟩:=zeroOk_spec hb2
 have htk:=zTakenM (B:=B) (s:=s) (w:=w) (frzOf .own ei.ty) hb2
 have hzs:z.cells.size=ei.size:=by rw [← hb3,← g5]; simp
 have harr:∀ m j',m<cp.toNat→j'<ei.size→(madeCells z.cells (cp.toNat * j.size))[m * ei.size+j']?=ei.zero[j']?:=by
  intro m j' hm hj'
  have hlt:m * ei.size+j'<cp.toNat * ei.size:=by
   have:(m+1) * ei.size≤cp.toNat * ei.size:=Nat.mul_le_mul_right _ hm
   rw [Nat.add_mul,Nat.one_mul] at this
   omega
  have hmod:(m * ei.size+j') % z.cells.size=j':=by rw [hzs,Nat.mul_comm,Nat.mul_add_mod,Nat.mod_eq_of_lt hj']
  have hzj:j'<z.cells.size:=by omega
  have hmk:(madeCells z.cells (cp.toNat * j.size))[m * ei.size+j']?=some (z.cells[(m * ei.size+j') % z.cells.size]!):=by
   have hlt':m * ei.size+j'<cp.toNat * j.size:=by rw [g2]; exact hlt
   simp [madeCells,hlt']
  rw [hmk,hmod,getElem!_pos z.cells j' hzj,← g5,Array.getElem?_toList,Array.getElem?_eq_getElem hzj]
 have hzlay:∀ q y,zrLay l.toNat (zelM ei.zel (frzOf .own ei.ty)) q=some y→blkOf y=none:=by
  intro q y hq
  cases q with
  | nil=>cases hq
  | cons c0 q =>
   simp only [zrLay] at hq
   split at hq
   ·match q with
    | [] =>
     simp only [zLay,if_true] at hq
     split at hq
     ·cases hq; rfl
     ·cases hq
    | _ :: _=>cases hq
   ·cases hq
 have hzout:OwnOut B s w (zrLay l.toNat (zelM ei.zel (frzOf .own ei.ty))) :=
  ⟨fun q y q' y' b e1 e2 _ _=>absurd ((hzlay _ _ e1).symm.trans e2) nofun,fun q y b e1 e2=>absurd ((hzlay _ _ e1).symm.trans e2) nofun,fun q y b e1 e2 _ _ _ _=>absurd ((hzlay _ _ e1).symm.trans e2) nofun⟩
 have hzat:∀ i j,i<l.toNat→(zrLay l.toNat (zelM ei.zel (frzOf .own ei.ty))).at i j=(zLay (zelM ei.zel (frzOf .own ei.ty))).at 0 j:=by
  intro i j hi
  funext q
  simp only [Lay.at,zrLay,if_pos hi]
 have hrep:=sl_rep (el:=el) (cap:=cp.toNat) (e:=ei.ty) (xs:=List.replicate l.toNat z0) (arr:=madeCells z.cells (cp.toNat * j.size)) h hzout (by simp; omega) (by rw [size_madeCells,g2,hb1]; exact Nat.le_refl _)
  (fun i j t e'=>by
   have hij:=rows_lt e'
   simp only [List.length_replicate] at hij
   rw [cellOf_rows,List.getElem?_replicate,if_pos hij.1,Option.bind_some,nth_eq,← hz0] at e'
   have hg:=htk.get j t e'
   have hj:j<ei.size:=by omega
   rw [hzat i j hij.1]
   refine ⟨_,?_,hg⟩
   rw [hb1,harr i j (by omega) hj,List.getElem?_eq_getElem (by omega)]; rfl)
  (fun i j e'=>by
   by_cases hi:i<l.toNat
   ·rw [hzat i j hi]
    rw [cellOf_rows,List.getElem?_replicate,if_pos hi,Option.bind_some,nth_eq,← hz0] at e'
    exact htk.out 0 j (.inr e')
   ·funext q; simp only [Lay.at,zrLay,if_neg hi]; rfl)
 simp only [List.length_replicate] at hrep
 have hout:=topLay_out (o:=.cells (madeCells z.cells (cp.toNat * j.size)) el) (v:=.slice (some ⟨w.heap.size,0,none⟩) l.toNat cp.toNat) h hzout (fun b hb=>by
  cases hcp:cp.toNat with
  | zero=>rw [hcp] at hb; simp [blkOf] at hb
  | succ=>rw [hcp] at hb; simp only [blkOf,Option.some.injEq] at hb; exact hb.symm)
 obtain ⟨x',s',k1,k2⟩:=new_sound (v:=.slice (some ⟨w.heap.size,0,none⟩) l.toNat cp.toNat) hnt (h.push _) he hrep hout (fun s' _ hΦ=>.own k [(0,0)] ei.ty _ (by rw [hΦ []]; rfl))
 refine ⟨x',s',_,_,k1,?_,k2⟩
 rw [e5,e6,hrun]
 rfl
end
end Go.V
namespace Go.V
open Go.RowKit
section
variable {w:World} {S:Fl→Nat→Prop} {e:Ty}
def takeLay (n:Nat) (φ:Lay):Lay:=fun q=>match q with
 | []=>none
 | (i,j) :: q=>if i<n then φ ((i,j) :: q) else none
def dropLay (n:Nat) (φ:Lay):Lay:=fun q=>match q with
 | []=>none
 | (i,j) :: q=>φ ((i+n,j) :: q)
theorem RowsAt.take {xs:List (den e)} {us:List Value} {χ:Lay} (h:RowsAt w S e xs us χ) (n:Nat):RowsAt w S e (xs.take n) (us.take (n * e.size)) (takeLay n χ):=by
 have hat:∀ i j,(takeLay n χ).at i j=if i<n then χ.at i j else noLay:=by
  intro i j; funext q; simp only [Lay.at,takeLay]; split <;> rfl
 have hcell:∀ i j,cellOf (rows .own e (xs.take n)) i j=if i<n then cellOf (rows .own e xs) i j else none:=by
  intro i j
  simp only [cellOf_rows,List.getElem?_take]
  split <;> rfl
 refine ⟨?_,fun i j t e'=>?_,fun i j e'=>?_⟩
 ·rw [List.length_take,List.length_take,h.len]
  by_cases hn:n≤xs.length
  ·rw [Nat.min_eq_left hn,Nat.min_eq_left (Nat.mul_le_mul_right _ hn)]
  ·have h1:xs.length * e.size≤n * e.size:=Nat.mul_le_mul_right _ (by omega)
   rw [Nat.min_eq_right h1,Nat.min_eq_right (by omega:xs.length≤n)]
 ·rw [hcell] at e'
  rw [hat]
  split at e'
  ·rename_i hi
   obtain ⟨u,g1,g2⟩:=h.get i j t e'
   rw [if_pos hi]
   have hj:=(rows_lt e').2
   refine ⟨u,?_,g2⟩
   rw [List.getElem?_take,if_pos (by
    have:(i+1) * e.size≤n * e.size:=Nat.mul_le_mul_right _ (by omega)
    rw [Nat.add_mul] at this
    omega)]
   exact g1
  ·cases e'
 ·rw [hcell] at e'
  rw [hat]
  split at e'
  ·rename_i hi; rw [if_pos hi]; exact h.out i j e'
  ·rename_i hi; rw [if_neg hi]
theorem RowsAt.drop {xs:List (den e)} {us:List Value} {χ:Lay} (h:RowsAt w S e xs us χ) (n:Nat):RowsAt w S e (xs.drop n) (us.drop (n * e.size)) (dropLay n χ):=by
 have hat:∀ i j,(dropLay n χ).at i j=χ.at (i+n) j:=fun i j=>rfl
 have hcell:∀ i j,cellOf (rows .own e (xs.drop n)) i j=cellOf (rows .own e xs) (i+n) j:=by
  intro i j
  simp only [cellOf_rows,List.getElem?_drop]
  rw [Nat.add_comm]
 refine ⟨by rw [List.length_drop,List.length_drop,h.len,Nat.sub_mul],fun i j t e'=>?_,fun i j e'=>?_⟩
 ·rw [hcell] at e'
  obtain ⟨u,g1,g2⟩:=h.get _ j t e'
  refine ⟨u,?_,g2⟩
  rw [List.getElem?_drop,← g1]
  congr 1
  rw [Nat.add_mul]
  omega
 ·rw [hcell] at e'
  exact h.out _ j e'
theorem OwnOut.remap {B:Base} {s:Sit} {w':World} {ω χ:Lay} (h:OwnOut B s w ω) (hw:w.heap.size≤w'.heap.size) (f:Path→Path) (hf:∀ q y,χ q=some y→ω (f q)=some y)
 (hinj:∀ q q' y y',χ q=some y→χ q'=some y'→f q=f q'→q=q'):OwnOut B s w' χ where
 inj:=fun q y q' y' b h1 h2 h3 h4=>hinj q q' y y' h1 h3 (h.inj _ _ _ _ _ (hf _ _ h1) h2 (hf _ _ h3) h4)
 own:=fun q y b h1 h2=>by
  have:=h.own _ _ _ (hf _ _ h1) h2
  exact ⟨this.1,by omega,this.2.2⟩
 out:=fun q y b h1 h2=>h.out _ _ _ (hf _ _ h1) h2
theorem OwnOut.top {B:Base} {s:Sit} {w':World} {χ:Lay} {b:Nat} {v:Value} (h:OwnOut B s w' χ) (_hn:χ []=Option.none) (hv:blkOf v=some b) (hb1:∀ f,¬ s.S f b) (hb2:b<w'.heap.size) (hb3:B.O0 b∨B.w0.heap.size≤b)
 (hb4:∀ r p z,s.Φ r p=some z→blkOf z≠some b) (hb5:∀ q y,χ q=some y→blkOf y≠some b):OwnOut B s w' (topLay v χ):=by
 have key:∀ q y,topLay v χ q=some y→(q=[]∧y=v)∨(q≠[]∧χ q=some y):=by
  intro q y h1
  cases q with
  | nil=>simp only [topLay,Option.some.injEq] at h1; exact .inl ⟨rfl,h1.symm⟩
  | cons c q=>exact .inr ⟨by simp,h1⟩
 refine ⟨?_,?_,?_⟩
 ·intro q y q' y' b' h1 e1 h2 e2
  rcases key _ _ h1 with ⟨rfl,rfl⟩ | ⟨n1,g1⟩ <;> rcases key _ _ h2 with ⟨rfl,rfl⟩ | ⟨n2,g2⟩
  ·rfl
  ·rw [hv,Option.some.injEq] at e1; subst e1; exact absurd e2 (hb5 _ _ g2)
  ·rw [hv,Option.some.injEq] at e2; subst e2; exact absurd e1 (hb5 _ _ g1)
  ·exact h.inj _ _ _ _ _ g1 e1 g2 e2
 ·intro q y b' h1 e1
  rcases key _ _ h1 with ⟨rfl,rfl⟩ | ⟨n1,g1⟩
  ·rw [hv,Option.some.injEq] at e1; subst e1; exact ⟨hb1,hb2,hb3⟩
  ·exact h.own _ _ _ g1 e1
 ·intro q y b' h1 e1
  rcases key _ _ h1 with ⟨rfl,rfl⟩ | ⟨n1,g1⟩
  ·rw [hv,Option.some.injEq] at e1; subst e1; exact hb4
  ·exact h.out _ _ _ g1 e1
end
end Go.V
namespace Go.V
open Go.RowKit
def splice (L:List Value) (o:Nat) (us:List Value):List Value:=L.take o++us++L.drop (o+us.length)
def seg (L:List Value) (o n:Nat):List Value:=(L.drop o).take n
theorem length_splice {L us:List Value} {o:Nat} (h:o+us.length≤L.length):(splice L o us).length=L.length:=by
 simp only [splice,List.length_append,List.length_take,List.length_drop]; omega
theorem get_splice {L us:List Value} {o:Nat} (h:o+us.length≤L.length) (k:Nat):(splice L o us)[k]?=if k<o then L[k]? else if k<o+us.length then us[k - o]? else L[k]?:=by
 have hl:(L.take o).length=o:=by rw [List.length_take]; omega
 unfold splice
 rw [List.append_assoc]
 by_cases h1:k<o
 ·rw [if_pos h1,List.getElem?_append_left (by omega),List.getElem?_take,if_pos h1]
 ·rw [if_neg h1,List.getElem?_append_right (by omega),hl]
  by_cases h2:k<o+us.length
  ·rw [if_pos h2,List.getElem?_append_left (by omega)]
  ·rw [if_neg h2,List.getElem?_append_right (by omega),List.getElem?_drop]
   congr 1; omega
theorem length_seg {L:List Value} {o n:Nat} (h:o+n≤L.length):(seg L o n).length=n:=by
 simp only [seg,List.length_take,List.length_drop]; omega
theorem get_seg {L:List Value} {o n k:Nat} (h:k<n):(seg L o n)[k]?=L[o+k]?:=by
 simp only [seg,List.getElem?_take,if_pos h,List.getElem?_drop]
theorem mem_seg {L:List Value} {o n:Nat} {u:Value} (h:u∈seg L o n):∃ k,o≤k∧k<o+n∧L[k]?=some u:=by
 obtain ⟨k,hk⟩:=List.getElem?_of_mem h
 have hlt:=(List.getElem?_eq_some_iff.mp hk).1
 simp only [seg,List.length_take,List.length_drop] at hlt
 rw [get_seg (by omega)] at hk
 exact ⟨o+k,by omega,by omega,hk⟩
def Blk (w:World) (b:Nat) (el:TypeId) (L:List Value):Prop:=w.heap[b]?=some (.cells L.toArray el (0,0))
theorem Blk.set {w:World} {b:Nat} {el:TypeId} {L L':List Value} (h:Blk w b el L):Blk (w.setRow b L'.toArray) b el L':=setRow_heap w b _ _ el (0,0) h
theorem setRow_setRow {w:World} {b:Nat} {el:TypeId} {L:List Value} (h:Blk w b el L) (A B:Array Value):(w.setRow b A).setRow b B=w.setRow b B:=by
 unfold World.setRow
 congr 1
 apply Array.ext_getElem?
 intro k
 simp only [Array.getElem?_modify]
 by_cases hk:b=k
 ·subst hk
  simp only [if_true]
  have h:w.heap[b]?=some (.cells L.toArray el (0,0)):=h
  rw [h]; rfl
 ·simp only [if_neg hk]
section
variable {P:Program} {w:World} {b o n:Nat} {el:TypeId} {L us:List Value}
theorem Blk.load (h:Blk w b el L) (hn:o+n≤L.length):(loadCells ⟨b,o,none⟩ n).run P w = .ok (seg L o n).toArray w:=by
 have:=run_loadCells_list (P:=P) w ⟨b,o,none⟩ (seg L o n) (fun j v hj=>by
  have hlt:j<n:=by have:=(List.getElem?_eq_some_iff.mp hj).1; rw [length_seg hn] at this; exact this
  rw [get_seg hlt] at hj
  rw [addr_add,cell?_of_cells h]
  simpa using hj)
 rw [length_seg hn] at this
 exact this
theorem Blk.store (h:Blk w b el L) (hn:o+us.length≤L.length) (h1:∀ u∈us,u.oneCell'=true):(storeCells ⟨b,o,none⟩ us).run P w = .ok () (w.setRow b (splice L o us).toArray):=by
 have:=run_storeCells_at P b o el us 0 L.toArray w h (by simpa using hn) h1
 simpa [splice] using this
end
def iv (n:Nat):Value:=.int .i64 n
theorem setRow_size (w:World) (b:Nat) (A:Array Value):(w.setRow b A).heap.size=w.heap.size:=by simp [World.setRow]
section
variable {P:Program} {w:World} {t e:TypeId} {i ei:TyInfo}
theorem run_bound {x y:Nat} {code:BoundsCode} (h:x≤y):(Instr.sliceBound (iv x) y code).run P w = .ok x w:=by
 have h1:((x:Int))≤(y:Int):=by omega
 simp [Instr.sliceBound,iv,asIntOf,h1]
theorem raw_slice (hi:TyOk1 P t i) (hd:i.d = .sl e) (hei:TyOk1 P e ei) {ad:Option Addr} {n cap l h:Nat} {lo hh:Option Value} (hlo:(lo=none∧l=0)∨lo=some (iv l)) (hhi:(hh=none∧h=n)∨hh=some (iv h))
 (h1:l≤h) (h2:h≤cap) (w:World):(Instr.sliceAt t (.slice ad n cap) lo hh none).run P w = .ok (.slice (if cap=l then ad else ad.map (·.add (l * ei.size))) (h - l) (cap - l)) w:=by
 have hu:=hi.slice hd
 have hb:(Instr.sliceBounds true n cap lo hh none).run P w = .ok (l,h,cap) w:=by
  rcases hlo with ⟨rfl,rfl⟩ | rfl <;> rcases hhi with ⟨rfl,rfl⟩ | rfl <;> simp [Instr.sliceBounds,run_bound h1,run_bound h2]
 simp only [Instr.sliceAt,Instr.slice,Sem.run_bind,run_underlying hu,Result.andThen_ok,hb,hei.run_sizeOf,Sem.run_pure]
theorem raw_slice3 (hi:TyOk1 P t i) (hd:i.d = .sl e) (hei:TyOk1 P e ei) {ad:Option Addr} {n cap l h m:Nat}
 (h1:l≤h) (h2:h≤m) (h3:m≤cap) (w:World):(Instr.sliceAt t (.slice ad n cap) (some (iv l)) (some (iv h)) (some (iv m))).run P w = .ok (.slice (if m=l then ad else ad.map (·.add (l * ei.size))) (h - l) (m - l)) w:=by
 have hu:=hi.slice hd
 have hb:(Instr.sliceBounds true n cap (some (iv l)) (some (iv h)) (some (iv m))).run P w = .ok (l,h,m) w:=by
  simp [Instr.sliceBounds,run_bound h1,run_bound h2,run_bound h3]
 simp only [Instr.sliceAt,Instr.slice,Sem.run_bind,run_underlying hu,Result.andThen_ok,hb,hei.run_sizeOf,Sem.run_pure]
theorem run_firstRow {b o n m cap sz:Nat} {el:TypeId} {L:List Value} (h:Blk w b el L) (hn:o+n * sz≤L.length):(Builtin.firstCells sz n (.slice (some ⟨b,o,none⟩) m cap)).run P w = .ok (seg L o (n * sz)).toArray w:=by
 simp only [Builtin.firstCells]
 exact h.load hn
theorem raw_append {ats:Array TypeId} {ty:TypeId} (h0:ats[0]?=some t) (h1:ats[1]?=some t) (hi:TyOk1 P t i) (hd:i.d = .sl e) (hei:TyOk1 P e ei) {b off n cap:Nat} {o2 m c2:Nat} {b2:Nat} {el el2:TypeId} {L L2:List Value}
 (hb:Blk w b el L) (hb2:Blk w b2 el2 L2) (hroom:n+m≤cap) (hfit:off+n * ei.size+m * ei.size≤L.length) (hfit2:o2+m * ei.size≤L2.length) (hone:∀ u∈seg L2 o2 (m * ei.size),u.oneCell'=true) :
 (Builtin.append_ ats ty #[.slice (some ⟨b,off,none⟩) n cap,.slice (some ⟨b2,o2,none⟩) m c2]).run P w = .ok (.slice (some ⟨b,off,none⟩) (n+m) cap) (w.setRow b (splice L (off+n * ei.size) (seg L2 o2 (m * ei.size))).toArray):=by
 have hu:=hi.slice hd
 have hl:(Builtin.lenOf (.slice (some ⟨b2,o2,none⟩) m c2)).run P w = .ok m w:=rfl
 have hf:=run_firstRow (P:=P) (m:=m) (cap:=c2) hb2 hfit2
 have hst:=hb.store (P:=P) (o:=off+n * ei.size) (us:=seg L2 o2 (m * ei.size)) (by rw [length_seg hfit2]; omega) hone
 simp [Builtin.append_,h0,h1,run_underlying hu,hei.run_sizeOf,hl,hroom,hf,addr_add,hst]
theorem zero_one (_hei:TyOk1 P e ei) {z:Value} (_hz:(zeroValue e).run P w = .ok z w) (hone:∀ u∈ei.zero,u.oneCell'=true) (hzz:z.cells.toList=ei.zero) (hsz:0<ei.zero.length) (n:Nat) :
 (Builtin.zeroCells z.cells n).size=n * ei.zero.length∧(∀ u∈(Builtin.zeroCells z.cells n).toList,u.oneCell'=true)∧∀ k,k<n * ei.zero.length→(Builtin.zeroCells z.cells n).toList[k]?=ei.zero[k % ei.zero.length]?:=by
 have hs:z.cells.size=ei.zero.length:=by rw [← hzz]; simp
 refine ⟨by simp [Builtin.zeroCells,hs],fun u hu=>?_,fun k hk=>?_⟩
 ·simp only [Builtin.zeroCells,Array.toList_map,List.mem_map] at hu
  obtain ⟨k,hk,rfl⟩:=hu
  have hlt:k % z.cells.size<z.cells.size:=Nat.mod_lt _ (by omega)
  apply hone
  rw [← hzz,getElem!_pos z.cells _ hlt]
  simp
 ·have hlt:k % z.cells.size<z.cells.size:=Nat.mod_lt _ (by omega)
  rw [← hs] at hk
  simp only [Builtin.zeroCells,Array.toList_map,List.getElem?_map,Array.toList_range]
  rw [List.getElem?_range hk,Option.map_some,getElem!_pos z.cells _ hlt,← hs,← hzz,Array.getElem?_toList,Array.getElem?_eq_getElem hlt]
theorem raw_clear {ats:Array TypeId} {ty:TypeId} (h0:ats[0]?=some t) (hi:TyOk1 P t i) (hd:i.d = .sl e) (hei:TyOk1 P e ei) (hone:∀ u∈ei.zero,u.oneCell'=true) (hsz:ei.zero.length=ei.size) (hs0:0<ei.size)
 {b o n cap:Nat} {el:TypeId} {L:List Value} (hb:Blk w b el L) (hn:0<n) (hfit:o+n * ei.size≤L.length) :
 ∃ us,us.length=n * ei.size∧(Builtin.clear_ ats ty #[.slice (some ⟨b,o,none⟩) n cap]).run P w = .ok (.tuple #[]) (w.setRow b (splice L o us).toArray)∧∀ k,k<n * ei.size→us[k]?=ei.zero[k % ei.size]?:=by
 have hu:=hi.slice hd
 obtain ⟨z,hz1,hz2⟩:=hei.run_zeroValue w
 obtain ⟨g1,g2,g3⟩:=zero_one hei hz1 hone hz2 (by omega) n
 refine ⟨(Builtin.zeroCells z.cells n).toList,by simpa [hsz] using g1,?_,by rw [← hsz]; exact g3⟩
 have hst:=hb.store (P:=P) (o:=o) (us:=(Builtin.zeroCells z.cells n).toList) (by simp [g1,hsz]; exact hfit) g2
 obtain ⟨m,rfl⟩:∃ m,n=m+1:=⟨n - 1,by omega⟩
 simp [Builtin.clear_,h0,run_underlying hu,hz1,hst]
end
end Go.V
namespace Go.V
open Go.RowKit
variable {α:Type}
section
variable {c:Ctx} {B:Base} {s:Sit} {x:X} {a:Act} {w:World}
theorem RelW.worldO (h:RelW B s x a w) {w':World} {O:Nat→Prop} (hO:∀ b,O b→(∀ f,¬ s.S f b)∧(∀ r p y,s.Φ r p=some y→blkOf y≠some b)∧(B.O0 b∨B.w0.heap.size≤b))
 (hb:∀ b,b<w.heap.size→¬ O b→w'.heap[b]?=w.heap[b]?) (hs:w.heap.size≤w'.heap.size) (h1:w'.os=w.os) (h2:w'.tape=w.tape) (h3:w'.output=w.output):RelW B s x a w' :=
 have hS:∀ f b,s.S f b→w'.heap[b]?=w.heap[b]?:=fun f b hR=>hb b (h.slt f b hR) (fun e=>(hO b e).1 f hR)
 { h with
  env:=fun k d hd=>by
   obtain ⟨v,e1,e2⟩:=h.env k d hd
   exact ⟨v,e1,e2.mono hS (fun _ _ h=>h) rfl (fun _ _=>rfl)⟩
  roots:=fun r t hr=>by
   obtain ⟨y,hy⟩:=h.roots r t hr
   exact ⟨y,hy.mono hS (fun _ _ h=>h) (fun p z b hz hbz=>hb b (h.own _ _ _ _ hz hbz).2.1 (fun e=>(hO b e).2.1 _ _ _ hz hbz))⟩
  own:=fun r p y b e1 e2=>by
   have:=h.own r p y b e1 e2
   exact ⟨this.1,by omega,this.2.2⟩
  slt:=fun f b hR=>by have:=h.slt f b hR; omega
  os:=h1.trans h.os
  tape:=h2.trans h.tape
  output:=h3.trans h.output
  grow:=by have:=h.grow; omega
  kept:=fun b e1 e2=>by
   rw [hb b (by have:=h.grow; omega) (fun e=>by
    rcases (hO b e).2.2 with g | g
    ·exact e2 g
    ·omega)]
   exact h.kept b e1 e2
  glob:=fun g t hg=>(h.glob g t hg).mono hS (fun _ _ h=>h) }
theorem slTop {S:Fl→Nat→Prop} {e:Ty} {xs:List (den e)} {v:Value} {φ:Lay} (h:RepO w S (.sl .own e xs) v φ):φ []=some v:=by
 cases h with
 | sh _ _ _ ht=>simp [T.isSh] at ht
 | nil _ _ _ h0=>exact h0
 | sl _ _ _ _ _ _ _ _ _ _ _ _ _ _ h0=>exact h0
 | box _ _ ht=>simp [T.box?] at ht
theorem RelW.refill (h:RelW B s x a w) {r:Nat} {p:Path} (hp:p≠[]) {e:Ty} {xs:List (den e)} {x1:X} (h1:x.at r p=some (.sl .own e xs)) (h2:x.setAt r p (.sl .own e xs) .dead=some x1) :
 ∃ y s1,RepO w s.S (.sl .own e xs) y ((s.Φ r).under p)∧s.Φ r p=some y∧s1.S=s.S∧OwnOut B s1 w ((s.Φ r).under p) ∧
  ∀ (w':World) (n old1:T) (ψ:Lay) (x2:X),(∀ b,b<w.heap.size→(∀ q z,(s.Φ r).under p q=some z→blkOf z≠some b)→w'.heap[b]?=w.heap[b]?)→w.heap.size≤w'.heap.size→w'.os=w.os→w'.tape=w.tape→w'.output=w.output →
   Same w' w'→RepO w' s.S n y ψ→OwnOut B s1 w' ψ→x1.at r p=some old1→x1.setAt r p old1 n=some x2→∃ s2,RelW B s2 x2 a w'∧s2.Φ r p=ψ []∧s2.S=s.S:=by
 obtain ⟨q0,i,j,rfl⟩:=last_split hp
 obtain ⟨rowR,k1,k2⟩:=Option.bind_eq_some_iff.mp h1
 obtain ⟨y0,hy0⟩:=h.roots r rowR k1
 obtain ⟨rw1,y,hrw,hch,hu,hblk,hcell⟩:=place_cell hy0 k2
 obtain ⟨-,-,ht1,ho1⟩:=h.take h1 h2
 refine ⟨y,setΦ s r ((s.Φ r).graft (q0++[(i,j)]) noLay),hu,?_,rfl,ho1,fun w' n old1 ψ x2 hb hs ho2 ht2 hout2 hsame hn ho' g1 g2=>?_⟩
 ·have:=slTop hu
  rwa [Lay.under_apply_nil] at this
 have hW:=ht1.worldO (w':=w') (O:=fun b=>∃ q z,(s.Φ r).under (q0++[(i,j)]) q=some z∧blkOf z=some b) (fun b ⟨q,z,e1,e2⟩=>⟨(ho1.own q z b e1 e2).1,ho1.out q z b e1 e2,(ho1.own q z b e1 e2).2.2⟩)
  (fun b hlt hn=>hb b hlt (fun q z e1 e2=>hn ⟨q,z,e1,e2⟩)) hs ho2 ht2 hout2
 have hrow1:∃ row1 row1',x.at r q0=some row1∧putChild row1 i j .dead=some row1'∧x1.at r q0=some row1':=by
  unfold X.setAt at h2
  split at h2
  ·cases h2
  ·obtain ⟨row,e1,h2⟩:=Option.bind_eq_some_iff.mp h2
   obtain ⟨row',e2,rfl⟩:=Option.map_eq_some_iff.mp h2
   obtain ⟨t',e3,e4⟩:=Option.bind_eq_some_iff.mp e2
   obtain ⟨row1,row1',f1,f2,f3⟩:=setT_snoc e3
   have e5:t' = .vr row':=by
    cases t' <;> first | (simp only [Option.some.injEq] at e4; rw [e4]) | cases e4
   subst e5
   refine ⟨row1,row1',by simp only [X.at,e1,Option.bind_some]; exact f1,f2,?_⟩
   have:look (x.turned r (q0++[(i,j)]) row' (and (T.sl Fl.own e xs).isSh T.dead.isSh)).roots r=some row':=by
    unfold X.turned
    split <;> simp [look_cons]
   simp only [X.at,this,Option.bind_some]
   exact f3
 obtain ⟨row1,row1',r1,r2,r3⟩:=hrow1
 have hq0:(setΦ s r ((s.Φ r).graft (q0++[(i,j)]) noLay)).Φ r q0=s.Φ r q0:=by
  rw [setΦ_same,graft_eq]
  have:strip (q0++[(i,j)]) q0=none:=by
   cases es:strip (q0++[(i,j)]) q0 with
   | none=>rfl
   | some p'=>have:=congrArg List.length (strip_some es); simp at this
  rw [this]
 have hfin:=hW.setAt (w':=w') (ψ:=ψ) (y:=y) (n:=n) g1 g2 hn ho' hsame (fun _ _=>rfl) (fun row' hr'=>by
  rw [r3,Option.some.injEq] at hr'
  subst hr'
  rw [hq0]
  have hrw':x.at r q0=some rw1:=by simp only [X.at,k1,Option.bind_some]; exact hrw
  rw [r1,Option.some.injEq] at hrw'
  subst hrw'
  have hid:=fun k l=>putChild_idx r2 (s.Φ r q0) k l
  cases hrv:row1' with
  | vr cs=>trivial
  | _ =>
   have hnv1:∀ cs,row1≠.vr cs:=by
    intro cs e1
    subst e1
    simp only [putChild] at r2
    split at r2
    ·cases r2; cases hrv
    ·cases r2
   have hb2:∃ b,(s.Φ r q0).bind blkOf=some b∧∀ arr el,w'.heap[b]?=some (.cells arr el (0,0))→w'.heap[b]?=some (.cells (arr.setIfInBounds (row1.idx (s.Φ r q0) i j) y) el (0,0)):=by
    revert hblk
    unfold RowBlk
    split
    ·exact absurd rfl (hnv1 _)
    ·rintro ⟨b,f1,f2⟩
     refine ⟨b,f1,fun arr el ha=>?_⟩
     obtain ⟨z,f3,f4⟩:=Option.bind_eq_some_iff.mp f1
     have hbb:w'.heap[b]?=w.heap[b]?:=hb b (h.own r q0 z b f3 f4).2.1 (fun q z' e1 e2=>ho1.out q z' b e1 e2 r q0 z (by rw [hq0]; exact f3) f4)
     rw [hbb] at ha ⊢
     exact f2 arr el ha
   rw [← (hid i j).1,hrv] at hb2
   exact hb2)
 refine ⟨_,hfin,?_,rfl⟩
 rw [setΦ_same,graft_eq]
 have:strip (q0++[(i,j)]) (q0++[(i,j)])=some []:=by
  have:=strip_append (q0++[(i,j)]) []
  rwa [List.append_nil] at this
 rw [this]
end
end Go.V
namespace Go.V
open Go.RowKit
variable {α:Type}
def colsEq:Path→Path→Bool
 | [],[]=>true
 | a :: p,b :: q=>and (Nat.beq a.2 b.2) (colsEq p q)
 | _,_=>false
def rowsK:Path→Path→Option α→Option α
 | a :: p,b :: q,K=>match Nat.beq a.1 b.1 with
  | true=>rowsK p q K
  | false=>none
 | _,_,K=>K
theorem rowsK_some:∀ {p q:Path} {K:Option α} {r:α},rowsK p q K=some r→K=some r∧(colsEq p q=true→p=q)
 | [],[],K,r,h=>⟨h,fun _=>rfl⟩
 | [],_ :: _,K,r,h=>⟨h,fun e=>by cases e⟩
 | _ :: _,[],K,r,h=>⟨h,fun e=>by cases e⟩
 | (a,b) :: p,(c,d) :: q,K,r,h=>by
  unfold rowsK at h
  split at h
  ·rename_i hb
   obtain ⟨h1,h2⟩:=rowsK_some h
   refine ⟨h1,fun e=>?_⟩
   simp only [colsEq,Bool.and_eq_true] at e
   have hb:=Nat.eq_of_beq_eq_true hb
   simp only at hb
   rw [hb,Nat.eq_of_beq_eq_true e.1,h2 e.2]
  ·cases h
def hereC (r:Nat) (p:Path):C→Option Path
 | .own r' p' _=>match and (Nat.beq r' r) (colsEq p' p) with
  | true=>some p'
  | false=>none
 | .sub r' p' _ _ _=>match and (Nat.beq r' r) (colsEq p' p) with
  | true=>some p'
  | false=>none
 | _=>none
def hereD (r:Nat) (p:Path) (d:Option D):Option (D×Path):=match d with
 | none=>none
 | some d=>match d with
  | .v v=>match v with
   | .c y=>(hereC r p y).map fun q=>(.v (.c y),q)
   | _=>none
  | _=>none
def uniqE:List Nat→List (Nat×D)→List (Nat×D)
 | _,[]=>[]
 | seen,e :: l=>match mem seen e.1 with
  | true=>uniqE seen l
  | false=>e :: uniqE (e.1 :: seen) l
def hereE (env:List (Nat×D)) (r:Nat) (p:Path):List (Nat×D)→List (Nat×D)
 | []=>[]
 | e :: l=>match hereD r p (look env e.1) with
  | some z=>(e.1,z.1) :: hereE env r p l
  | none=>hereE env r p l
def hereP (env:List (Nat×D)) (r:Nat) (p:Path) (K:Option α):List (Nat×D)→Option α
 | []=>K
 | e :: l=>match hereD r p (look env e.1) with
  | some z=>rowsK z.2 p (hereP env r p K l)
  | none=>hereP env r p K l
theorem hereD_some {r:Nat} {p:Path} {d:Option D} {z:D×Path} (h:hereD r p d=some z):d=some z.1∧∃ y,z.1 = .v (.c y)∧hereC r p y=some z.2:=by
 unfold hereD at h
 split at h
 ·cases h
 ·split at h
  ·split at h
   ·rename_i y
    obtain ⟨q,h1,rfl⟩:=Option.map_eq_some_iff.mp h
    exact ⟨rfl,y,rfl,h1⟩
   ·cases h
  ·cases h
theorem hereP_some {env:List (Nat×D)} {r:Nat} {p:Path} {K:Option α} {q:α}:∀ {l:List (Nat×D)},hereP env r p K l=some q→K=some q∧∀ k d,look (hereE env r p l) k=some d→look env k=some d∧∃ y p',d = .v (.c y)∧hereC r p y=some p'∧(colsEq p' p=true→p'=p)
 | [],h=>⟨h,fun k d e=>by cases e⟩
 | e :: l,h=>by
  unfold hereP at h
  split at h
  ·rename_i z hz
   obtain ⟨h1,h2⟩:=rowsK_some h
   obtain ⟨h3,h4⟩:=hereP_some h1
   refine ⟨h3,fun k d hd=>?_⟩
   unfold hereE at hd
   rw [hz] at hd
   simp only [look_cons] at hd
   split at hd
   ·rename_i hk
    simp only [Option.some.injEq] at hd
    subst hk hd
    obtain ⟨g1,y,g2,g3⟩:=hereD_some hz
    exact ⟨g1,y,_,g2,g3,h2⟩
   ·exact h4 k d hd
  ·rename_i hz
   obtain ⟨h3,h4⟩:=hereP_some h
   refine ⟨h3,fun k d hd=>?_⟩
   unfold hereE at hd
   rw [hz] at hd
   exact h4 k d hd
def subC:C→Option (Nat×(Path×(Nat×(Nat×Ty))))
 | .sub r p lo n e=>some (r,(p,(lo,(n,e))))
 | _=>none
def clearK (cx:Ctx) (x:X) (t:TypeId) (d:D) (K:X→Option α):Option α :=
 (look cx.Ty t).bind fun i=>match i.d with
  | .sl e=>(look cx.Ty e).bind fun ei=>(d.one).bind fun y=>(subC y).bind fun z=>match z.2.1 with
   | []=>none
   | _ :: _=>match and (Nat.beq z.2.2.2.2.size ei.size) (and (Nat.beq ei.ty.size ei.size) (and (Nat.ble 1 ei.size) (and (zeroOk ei.zero ei.zel) (and (Nat.beq ei.zero.length ei.size) (allB Value.oneCell' ei.zero))))) with
    | true=>(packAll .own ei.ty (zTm ei.zero ei.zel (frzOf .own ei.ty))).bind fun z0=>setAtK x z.1 z.2.1 .dead fun t x1=>match t with
     | .sl .own e1 xs=>(cast? (.sl e1) (.sl ei.ty) xs).bind fun xs =>
      setAtK x1 z.1 z.2.1 (.sl .own ei.ty (app (xs.take z.2.2.1) (app (List.replicate z.2.2.2.1 z0) (xs.drop (z.2.2.1+z.2.2.2.1))))) fun _ x2=>hereP x.env z.1 z.2.1 (K { x2 with env:=app (hereE x.env z.1 z.2.1 (uniqE [] x.env)) x2.env }) (uniqE [] x.env)
     | _=>none
    | false=>none
  | _=>none
section
variable {c:Ctx} {B:Base} {s:Sit} {x:X} {a:Act} {w:World}
theorem zrows {e:Ty} {zs:List Value} {ts:List T} {zel:List (Option Ty)} {z0:den e} {n:Nat} {us:List Value} (hp:cells .own e z0=ts) (hl:zs.length=e.size) (hul:us.length=n * e.size)
 (hu:∀ k,k<n * e.size→us[k]?=zs[k % e.size]?) (htk:Taken B s w ts (fun j=>(zs[j]?).getD .nilIface) (zLay zel)):RowsAt w s.S e (List.replicate n z0) us (zrLay n zel):=by
 have hzat:∀ i j,i<n→(zrLay n zel).at i j=(zLay zel).at 0 j:=by
  intro i j hi
  funext q
  simp only [Lay.at,zrLay,if_pos hi]
 refine ⟨by simpa using hul,fun i j t e'=>?_,fun i j e'=>?_⟩
 ·have hij:=rows_lt e'
  simp only [List.length_replicate] at hij
  rw [cellOf_rows,List.getElem?_replicate,if_pos hij.1,Option.bind_some,nth_eq,hp] at e'
  have hg:=htk.get j t e'
  rw [hzat i j hij.1]
  have hlt:i * e.size+j<n * e.size:=by
   have:(i+1) * e.size≤n * e.size:=Nat.mul_le_mul_right _ hij.1
   rw [Nat.add_mul] at this; omega
  refine ⟨_,?_,hg⟩
  rw [hu _ hlt,Nat.mul_comm i,Nat.mul_add_mod,Nat.mod_eq_of_lt hij.2,List.getElem?_eq_getElem (by omega)]; rfl
 ·by_cases hi:i<n
  ·rw [hzat i j hi]
   rw [cellOf_rows,List.getElem?_replicate,if_pos hi,Option.bind_some,nth_eq,hp] at e'
   exact htk.out 0 j (.inr e')
  ·funext q; simp only [Lay.at,zrLay,if_neg hi]; rfl
theorem look_appC {β:Type} (l m:List (Nat×β)) (k:Nat):look (app l m) k=match look l k with | some x=>some x | none=>look m k:=by
 induction l with
 | nil=>rfl
 | cons e l ih =>
  obtain ⟨j,b⟩:=e
  simp only [app,look_cons]
  by_cases h:k=j
  ·simp [h]
  ·simp [h,ih]
theorem subC_some {y:C} {z:Nat×(Path×(Nat×(Nat×Ty)))} (h:subC y=some z):y = .sub z.1 z.2.1 z.2.2.1 z.2.2.2.1 z.2.2.2.2:=by
 cases y <;> simp only [subC,Option.some.injEq,reduceCtorEq] at h
 subst h; rfl
theorem RelW.here {s2:Sit} {x2:X} {w':World} (h:RelW B s x a w) (h2:RelW B s2 x2 a w') {r:Nat} {p:Path} {v:Value} (h3:s.Φ r p=some v) (h4:s2.Φ r p=some v) {l:List (Nat×D)}
 (hl:∀ k d,look (hereE x.env r p l) k=some d→look x.env k=some d∧∃ y p',d = .v (.c y)∧hereC r p y=some p'∧(colsEq p' p=true→p'=p)) :
 RelW B s2 { x2 with env:=app (hereE x.env r p l) x2.env } a w' :=
 { h2 with
  env:=fun k d hd=>by
   have hd:look (app (hereE x.env r p l) x2.env) k=some d:=hd
   rw [look_appC] at hd
   cases hk:look (hereE x.env r p l) k with
   | none=>rw [hk] at hd; exact h2.env k d hd
   | some d' =>
    rw [hk] at hd
    simp only [Option.some.injEq] at hd
    subst hd
    obtain ⟨f1,y,p1,rfl,f2,f5⟩:=hl _ _ hk
    obtain ⟨u,f3,f4⟩:=h.env k _ f1
    refine ⟨u,f3,?_⟩
    cases f4 with
    | v _ _ f4=>cases f4 with
     | c _ _ f4 =>
      refine .v _ _ (.c _ _ ?_)
      cases f4 with
      | own r' p' e _ hΦ =>
       simp only [hereC] at f2
       split at f2
       ·rename_i hb
        simp only [Bool.and_eq_true] at hb
        simp only [Option.some.injEq] at f2
        subst f2
        rw [Nat.eq_of_beq_eq_true hb.1,f5 hb.2] at hΦ ⊢
        rw [h3] at hΦ
        exact .own r p e _ (by rw [h4]; exact hΦ)
       ·cases f2
      | sub r' p' lo n e a0 a1 n0 cap cap' hΦ hle hcap hcn hcc h0 hn =>
       simp only [hereC] at f2
       split at f2
       ·rename_i hb
        simp only [Bool.and_eq_true] at hb
        simp only [Option.some.injEq] at f2
        subst f2
        rw [Nat.eq_of_beq_eq_true hb.1,f5 hb.2] at hΦ ⊢
        rw [h3] at hΦ
        exact .sub r p lo n e a0 a1 n0 cap cap' (by rw [h4]; exact hΦ) hle hcap hcn hcc h0 hn
       ·cases f2
      | _=>simp [hereC] at f2 }
theorem clear_sound (h:RelW B s x a w) {t ty:TypeId} {d:D} {v:Value} (hv:RepD w s d v) {K:X→Option α} {q:α} (he:clearK c x t d K=some q) :
 ∃ x' s' w',K x'=some q∧(Builtin.clear_ #[t] ty #[v]).run c.P w = .ok (.tuple #[]) w'∧RelW B s' x' a w':=by
 unfold clearK at he
 obtain ⟨i,e1,he⟩:=Option.bind_eq_some_iff.mp he
 have hi:=c.hTy t i e1
 split at he
 rotate_left
 ·cases he
 rename_i e hel
 have hu:=hi.slice hel
 obtain ⟨ei,e2,he⟩:=Option.bind_eq_some_iff.mp he
 have hei:=c.hTy e ei e2
 obtain ⟨y,hy,he1⟩:=Option.bind_eq_some_iff.mp he
 obtain ⟨z,hz,he2⟩:=Option.bind_eq_some_iff.mp he1
 clear he he1
 have hy':d = .v (.c y):=by unfold D.one at hy; split at hy <;> cases hy; rfl
 subst hy'
 have hrc:RepC w s y v:=by cases hv with | v _ _ hv=>cases hv with | c _ _ hv=>exact hv
 obtain ⟨r,p,lo,n,e0⟩:=z
 have hz:=subC_some hz
 simp only at hz he2
 subst hz
 obtain ⟨c0,p0,rfl⟩:∃ c0 p0,p=c0 :: p0:=by
  cases p with
  | nil=>cases he2
  | cons c0 p0=>exact ⟨c0,p0,rfl⟩
 simp only at he2
 split at he2
 rotate_left
 ·cases he2
 rename_i hb
 simp only [Bool.and_eq_true] at hb
 obtain ⟨hb0,hb1,hb2,hb3,hb4,hb5⟩:=hb
 have hb0:=Nat.eq_of_beq_eq_true hb0
 have hb1:=Nat.eq_of_beq_eq_true hb1
 have hb2:=Nat.le_of_ble_eq_true hb2
 have hb4:=Nat.eq_of_beq_eq_true hb4
 have hone:=(allB_iff _ _).1 hb5
 obtain ⟨z0,e7,he3⟩:=Option.bind_eq_some_iff.mp he2
 clear he2
 have hz0:=packAll_some e7
 obtain ⟨old,x1,h1,h2,he⟩:=setAtK_some he3
 clear he3
 split at he
 rotate_left
 ·cases he
 rename_i et xs0
 obtain ⟨xs,h3,he4⟩:=Option.bind_eq_some_iff.mp he
 clear he
 obtain ⟨e4,rfl⟩:=cast?_some h3
 cases e4
 obtain ⟨old1,x2,g1,g2,heK⟩:=setAtK_some he4
 obtain ⟨heK,hereX⟩:=hereP_some heK
 clear he4
 simp only [app_eq] at g2
 obtain ⟨y,s1,hrep,hΦ,hs1,ho1,hfin⟩:=h.refill (by simp) h1 h2
 generalize hp:c0 :: p0=p at *
 cases hrc with
 | sub _ _ _ _ _ ad a' n0 cap cap' hΦ' hle hcap hcn hcc h0 hn =>
 rw [hΦ,Option.some.injEq] at hΦ'
 subst hΦ'
 have htop:((s.Φ r).under p) []=some (.slice ad n0 cap):=by rw [Lay.under_apply_nil]; exact hΦ
 by_cases hn0:n=0
 ·subst hn0
  have hxs:xs0.take lo++([]++xs0.drop (lo+0))=xs0:=by simp
  rw [List.replicate_zero,hxs] at g2
  obtain ⟨s2,k1,k2,-⟩:=hfin w _ old1 _ x2 (fun _ _ _=>rfl) (Nat.le_refl _) rfl rfl rfl (Same.refl w) hrep ho1 g1 g2
  refine ⟨_,s2,w,heK,?_,h.here k1 hΦ (by rw [k2,htop]) hereX⟩
  cases a' <;> simp [Builtin.clear_,run_underlying hu]
 ·have hrep0:=hrep
  generalize hω:(s.Φ r).under p=ω at *
  cases hrep with
  | sh _ _ _ ht=>simp [T.isSh] at ht
  | nil _ _ φ k0 kn=>simp at hle; omega
  | sl _ _ b off cap arr el vs φ hbk hcapk hsz hcc' hr k0 kn =>
   obtain ⟨b',off',f1,f2⟩:=hn (by omega)
   simp only [Option.some.injEq,Addr.mk.injEq,and_true] at f1
   obtain ⟨rfl,rfl⟩:=f1
   subst f2
   rw [hb0]
   generalize hsz':ei.size=sz at *
   have hblk:Blk w b el arr.toList:=by unfold Blk; rw [hbk]
   rw [hb1] at hsz
   have m1:(cap+1) * sz ≥ xs0.length * sz:=Nat.mul_le_mul_right _ hcapk
   have m2:lo * sz+n * sz≤xs0.length * sz:=by rw [← Nat.add_mul]; exact Nat.mul_le_mul_right _ hle
   have hfitc:off+lo * sz+n * ei.size≤arr.toList.length:=by rw [hsz']; simp; omega
   obtain ⟨us,q1,q2,q3⟩:=raw_clear (P:=c.P) (ats:=#[t]) (ty:=ty) (o:=off+lo * sz) (n:=n) (cap:=cap') rfl hi hel hei hone (by rw [hb4,hsz']) (by omega) hblk (by omega) hfitc
   rw [hsz'] at q1 q3
   have hfit:off+xs0.length * sz≤arr.toList.length:=by simp; omega
   have hrows:RowsAt w s.S ei.ty xs0 (seg arr.toList off (xs0.length * sz)) (fun q=>match q with | []=>none | q=>ω q):=by
    refine ⟨by rw [hb1]; exact length_seg hfit,fun k l t e'=>⟨vs k l,?_,hr k l t e'⟩,fun k l e'=>kn k l e'⟩
    have hkl:=rows_lt e'
    have hk2:k * ei.ty.size+l<xs0.length * ei.ty.size:=by
     have:(k+1) * ei.ty.size≤xs0.length * ei.ty.size:=Nat.mul_le_mul_right _ hkl.1
     rw [Nat.add_mul] at this; omega
    rw [hb1] at hk2 ⊢
    rw [get_seg hk2,Array.getElem?_toList]
    have:=hcc' k l t e'
    rwa [hb1] at this
   have htk:=zTakenM (B:=B) (s:=s) (w:=w) (frzOf .own ei.ty) hb3
   have hzr:=zrows (n:=n) (us:=us) hz0.symm (by rw [hb4,hb1]) (by rw [hb1]; exact q1) (by rw [hb1]; exact q3) htk
   have hall:=(hrows.take lo).append (hzr.append (hrows.drop (lo+n)))
   have hlen1:(xs0.take lo).length=lo:=by rw [List.length_take]; omega
   rw [hlen1,List.length_replicate] at hall
   have hzl:∀ q y,zrLay n (zelM ei.zel (frzOf .own ei.ty)) q=some y→blkOf y=none:=by
    intro q y hq
    cases q with
    | nil=>cases hq
    | cons c0 q =>
     simp only [zrLay] at hq
     split at hq
     ·match q with
      | [] =>
       simp only [zLay,if_true] at hq
       split at hq
       ·cases hq; rfl
       ·cases hq
      | _ :: _=>cases hq
     ·cases hq
   have hχ:∀ q y b1,(catLay lo (takeLay lo fun q=>match q with | []=>none | q=>ω q) (catLay n (zrLay n (zelM ei.zel (frzOf .own ei.ty))) (dropLay (lo+n) fun q=>match q with | []=>none | q=>ω q))) q=some y→blkOf y=some b1→q≠[]∧ω q=some y:=by
    intro q y b1 hq hb1
    cases q with
    | nil=>cases hq
    | cons c0 q =>
     obtain ⟨k,l⟩:=c0
     refine ⟨by simp,?_⟩
     simp only [catLay] at hq
     split at hq
     ·rename_i hk
      simp only [takeLay,if_pos hk] at hq; exact hq
     ·rename_i hk
      split at hq
      ·exact absurd ((hzl _ _ hq).symm.trans hb1) nofun
      ·rename_i hk2
       simp only [dropLay] at hq
       have:k - lo - n+(lo+n)=k:=by omega
       rw [this] at hq; exact hq
   have hbS:∀ f,¬ s.S f b:=by
    intro f hS
    exact (ho1.own [] _ b k0 rfl).1 f (by rw [hs1]; exact hS)
   have hother:∀ k,k≠b→(w.setRow b (splice arr.toList (off+lo * sz) us).toArray).heap[k]?=w.heap[k]?:=fun k hk=>setRow_other w b k _ hk
   have hall':=hall.mono (w':=w.setRow b (splice arr.toList (off+lo * sz) us).toArray) (fun f b' hS=>hother b' (fun e=>hbS f (e▸hS))) (fun c1 p1 y1 b1 d1 d2=>hother b1 (fun e=>by
    subst e
    obtain ⟨_,d3⟩:=hχ _ _ _ d1 d2
    have:=ho1.inj _ _ _ _ b1 d3 d2 k0 rfl
    cases this))
   have hfu:off+lo * sz+us.length≤arr.toList.length:=by rw [q1]; simp; omega
   have hsl:(splice arr.toList (off+lo * sz) us).length=arr.toList.length:=length_splice hfu
   have hxl:(xs0.take lo++(List.replicate n z0++xs0.drop (lo+n))).length=xs0.length:=by simp only [List.length_append,hlen1,List.length_replicate,List.length_drop]; omega
   have hto:=hall'.toSl (b:=b) (off:=off) (cap:=cap) (arr:=(splice arr.toList (off+lo * sz) us).toArray) (el:=el) (setRow_heap w b _ _ el (0,0) hbk) (by rw [hxl]; exact hcapk) (by rw [hb1,List.size_toArray,hsl]; simpa using hsz) (fun k u hk=>?_)
   rotate_left
   ·rw [List.getElem?_toArray,get_splice hfu,q1]
    rw [hb1] at hk
    have l1:((seg arr.toList off (xs0.length * sz)).take (lo * sz)).length=lo * sz:=by rw [List.length_take,length_seg hfit]; omega
    rw [List.getElem?_append,l1] at hk
    split at hk
    ·rename_i hk1
     have:off+k<off+lo * sz:=by omega
     rw [if_pos this]
     rw [List.getElem?_take,if_pos hk1] at hk
     have hk3:k<xs0.length * sz:=by omega
     rwa [get_seg hk3] at hk
    ·rename_i hk1
     have : ¬ off+k<off+lo * sz:=by omega
     rw [if_neg this]
     rw [List.getElem?_append,q1] at hk
     split at hk
     ·rename_i hk2
      have h6:off+k<off+lo * sz+n * sz:=by omega
      rw [if_pos h6,← hk]
      congr 1; omega
     ·rename_i hk2
      have h6 : ¬ off+k<off+lo * sz+n * sz:=by omega
      rw [if_neg h6]
      rw [List.getElem?_drop] at hk
      have m3:(lo+n) * sz=lo * sz+n * sz:=Nat.add_mul _ _ _
      have e9:(lo+n) * sz+(k - lo * sz - n * sz)=k:=by omega
      rw [e9] at hk
      have hk3:k<xs0.length * sz:=by
       have:=(List.getElem?_eq_some_iff.mp hk).1
       rwa [length_seg hfit] at this
      rwa [get_seg hk3] at hk
   rw [hxl] at hto
   have hout:OwnOut B s1 (w.setRow b (splice arr.toList (off+lo * sz) us).toArray) (topLay (.slice (some ⟨b,off,none⟩) xs0.length (cap+1)) (catLay lo (takeLay lo fun q=>match q with | []=>none | q=>ω q) (catLay n (zrLay n (zelM ei.zel (frzOf .own ei.ty))) (dropLay (lo+n) fun q=>match q with | []=>none | q=>ω q)))):=by
    have key:∀ q y b1,topLay (.slice (some ⟨b,off,none⟩) xs0.length (cap+1)) (catLay lo (takeLay lo fun q=>match q with | []=>none | q=>ω q) (catLay n (zrLay n (zelM ei.zel (frzOf .own ei.ty))) (dropLay (lo+n) fun q=>match q with | []=>none | q=>ω q))) q=some y→blkOf y=some b1→ω q=some y:=by
     intro q y b1 d1 d2
     cases q with
     | nil=>simp only [topLay,Option.some.injEq] at d1; subst d1; exact k0
     | cons c1 q1=>exact (hχ (c1 :: q1) y b1 d1 d2).2
    exact ⟨fun q y q' y' b1 d1 d2 d3 d4=>ho1.inj _ _ _ _ b1 (key _ _ _ d1 d2) d2 (key _ _ _ d3 d4) d4,fun q y b1 d1 d2=>by
     have:=ho1.own _ _ _ (key _ _ _ d1 d2) d2
     exact ⟨this.1,by rw [setRow_size]; exact this.2.1,this.2.2⟩,fun q y b1 d1 d2=>ho1.out _ _ _ (key _ _ _ d1 d2) d2⟩
   obtain ⟨s2,k1,k2,-⟩:=hfin _ _ old1 _ x2 (fun b1 _ hb1=>hother b1 (fun e=>hb1 [] _ k0 (by rw [e]; rfl))) (by rw [setRow_size]; exact Nat.le_refl _) rfl rfl rfl (Same.refl _) hto hout g1 g2
   exact ⟨_,s2,_,heK,q2,h.here k1 hΦ (by rw [k2]; rfl) hereX⟩
end
end Go.V
