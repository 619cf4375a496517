import Derived.Test.YtlfcemfcgmidlaaDoorLibE
import Derived.Test.YtlfcemfcgmidlaaDoorLibD
import Derived.Control
namespace Go.V
open Go.RowKit
variable {α:Type}
def zerosT (cx:Ctx) (ats:List TypeId):Bool:=match nth ats 1 with
 | some xt=>match look cx.Ty xt with
  | some xi=>match xi.d with
   | .int _=>true
   | _=>false
  | none=>false
 | none=>false
def zerosK (cx:Ctx) (nt:Fr) (x:X) (ats:Array TypeId) (d1 d2:D) (k:Nat) (K:X→Option α):Option α :=
 (nth ats.toList 0).bind fun st=>(nth ats.toList 1).bind fun xt=>(look cx.Ty st).bind fun i=>(look cx.Ty xt).bind fun xi=>match i.d with
  | .sl e=>(look cx.Ty e).bind fun ei=>(d1.one).bind fun y=>(d2.val).bind fun nv=>match nv with
   | .int kk n=>match and (kindEq kk .i64) (and (isNilC y) (and (Nat.beq ei.ty.size ei.size) (and (Nat.ble 1 ei.size) (and (Nat.ble 1 ei.bytes) (and (zeroOk ei.zero ei.zel) (and (Nat.beq ei.zero.length ei.size) (match xi.d with | .int _=>true | _=>false))))))) with
    | true=>(packAll .own ei.ty (zTs ei.zero ei.zel)).bind fun z0 =>
     cond (and (decide (1≤n)) (roomOk false 0 n.toNat ei.bytes)) (newK nt x k (.sl .own ei.ty (List.replicate n.toNat z0)) (.own k [(0,0)] ei.ty) K) none
    | false=>none
   | _=>none
  | _=>none
section
variable {P:Program} {w:World} {t e:TypeId} {i ei:TyInfo}
theorem run_zeros {ats:Array TypeId} {xt ty:TypeId} {kk:IntKind} (h0:ats[0]?=some t) (h1:ats[1]?=some xt) (hi:TyOk1 P t i) (hd:i.d = .sl e) (hxu:P.underlying xt=some (.int kk)) (hei:TyOk1 P e ei)
 {base:Option Addr} {n:Nat} (hn:0<n) (hs:0<ei.size) (hb:0<ei.bytes) (hcap:Builtin.nextslicecap n 0 * ei.bytes≤2 ^ 48) (hnb:n * ei.bytes≤2 ^ 48) :
 ∃ (newCap:Nat) (z:Value),z.cells.toList=ei.zero∧n≤newCap∧(Builtin.append_ ats ty #[.slice base 0 0,.int .i64 n]).run P w =
  .ok (.slice (some ⟨w.heap.size,0,none⟩) n newCap) { w with drawn:=w.drawn+1,heap:=w.heap.push (.cells (Builtin.zeroCells z.cells n++Builtin.zeroCells z.cells (newCap - n)) e) }:=by
 have hu:=hi.slice hd
 obtain ⟨j,hj,hj1,hj2⟩:=hei.run_typeInfo w
 obtain ⟨z,hz1,hz2⟩:=hei.run_zeroValue { w with drawn:=w.drawn+1 }
 have hm1:n≤n * ei.bytes:=Nat.le_mul_of_pos_right _ hb
 have hw:IntKind.i64.wrap (n:Int)=n:=by
  unfold IntKind.wrap
  simp [IntKind.signed,IntKind.bits]
  omega
 have hno : ¬ (j.bytes=0):=by rw [hj2]; omega
 have hno2 : ¬ (Builtin.nextslicecap n 0 * j.bytes > 2 ^ 48):=by rw [hj2]; omega
 have hno3 : ¬ (281474976710656<(n:Int) * (j.bytes:Int)):=by
  rw [hj2]
  have h5:=Int.ofNat_le.2 hnb
  rw [Int.natCast_mul] at h5
  omega
 have hno4 : ¬ ((n:Int)<0):=by omega
 have hno5 : ¬ (9223372036854775807<(n:Int)):=by omega
 have hgt : ¬ n=0:=by omega
 have has:(asIntOf (Value.int .i64 (n:Int))).run P w = .ok (.i64,(n:Int)) w:=rfl
 have hno6 : ¬ (n * ei.size=0):=by
  have:=Nat.mul_pos hn hs
  omega
 have hj':∀ d,(typeInfo e).run P { w with drawn:=d } = .ok j { w with drawn:=d }:=by
  intro d
  obtain ⟨j',hj',_⟩:=hei.run_typeInfo { w with drawn:=d }
  have:j'=j:=by
   simp only [typeInfo,Sem.run_bind,run_program,Result.andThen_ok] at hj hj'
   cases e3:P.info? e with
   | none=>simp [e3] at hj
   | some q=>simp [e3] at hj hj'; rw [← hj,← hj']
  rw [hj',this]
 refine ⟨(Question.appendCap n 0 e).cut (w.tape w.drawn (.appendCap n 0 e)),z,hz2,?_,?_⟩
 ·simp only [Question.cut]; omega
 ·have hq:Question.forced (.appendCap n 0 e)=false:=rfl
  have g1:(typeInfo e).run P w.drew = .ok j w.drew:=hj' _
  have g4:(zeroValue e).run P w.drew = .ok z w.drew:=hz1
  have g2:∀ w:World,(Builtin.firstCells ei.size 0 (.slice base 0 0)).run P w = .ok #[] w:=fun w=>by cases base <;> simp [Builtin.firstCells,loadCells,loadCellsFrom]
  simp [Builtin.append_,h0,h1,run_underlying hu,run_underlying hxu,hei.run_sizeOf,asInt,has,hw,hgt,hj,hno2,hno3,hno4,hno5,hno6,hq,g1,g2,g4,newRow]
  rfl
end
section
variable {c:Ctx} {B:Base} {s:Sit} {x:X} {a:Act} {w:World}
theorem zeros_sound {nt:Fr} (hnt:B.nt=nt) (h:RelW B s x a w) {ats:Array TypeId} {ty:TypeId} {d1 d2:D} {v1 v2:Value} (hv1:RepD w s d1 v1) (hv2:RepD w s d2 v2) {k:Nat} {K:X→Option α} {q:α}
 (he:zerosK c nt x ats d1 d2 k K=some q) :
 ∃ x' s' u w',K x'=some q∧(Builtin.append_ ats ty #[v1,v2]).run c.P w = .ok u w'∧RelW B s' x' (a.gput B k u) w':=by
 unfold zerosK at he
 obtain ⟨st,h00,he⟩:=Option.bind_eq_some_iff.mp he
 obtain ⟨xt,h11,he⟩:=Option.bind_eq_some_iff.mp he
 have h0:ats[0]?=some st:=by rw [nth_eq,Array.getElem?_toList] at h00; exact h00
 have h1:ats[1]?=some xt:=by rw [nth_eq,Array.getElem?_toList] at h11; exact h11
 obtain ⟨i,e1,he⟩:=Option.bind_eq_some_iff.mp he
 obtain ⟨xi,e2,he⟩:=Option.bind_eq_some_iff.mp he
 have hi:=c.hTy st i e1
 have hxi:=c.hTy xt xi e2
 split at he
 rotate_left
 ·cases he
 rename_i e hel
 obtain ⟨ei,e3,he⟩:=Option.bind_eq_some_iff.mp he
 have hei:=c.hTy e ei e3
 obtain ⟨y,hy,he⟩:=Option.bind_eq_some_iff.mp he
 obtain ⟨nv,hnv,he⟩:=Option.bind_eq_some_iff.mp he
 have hy':d1 = .v (.c y):=by unfold D.one at hy; split at hy <;> cases hy; rfl
 rw [hy'] at hv1
 have hrc1:RepC w s y v1:=by cases hv1 with | v _ _ hv1=>cases hv1 with | c _ _ hv1=>exact hv1
 obtain ⟨e5,-⟩:=D.val_sound hv2 hnv
 split at he
 rotate_left
 ·cases he
 rename_i kk n
 split at he
 rotate_left
 ·cases he
 rename_i hb
 simp only [Bool.and_eq_true] at hb
 obtain ⟨hk,hb0,hb1,hb2,hb3,hb4,hb5,hb6⟩:=hb
 have hk:=kindEq_eq hk
 subst hk
 have hb1:=Nat.eq_of_beq_eq_true hb1
 have hb2:=Nat.le_of_ble_eq_true hb2
 have hb3:=Nat.le_of_ble_eq_true hb3
 have hb5:=Nat.eq_of_beq_eq_true hb5
 obtain ⟨z0,e7,he⟩:=Option.bind_eq_some_iff.mp he
 rcases cond_some he with ⟨hc,he⟩ | ⟨_,he⟩
 rotate_left
 ·cases he
 simp only [Bool.and_eq_true,decide_eq_true_eq] at hc
 obtain ⟨c1,c2⟩:=hc
 have hroom:(2 * n.toNat+192) * ei.bytes≤281474976710656:=by
  unfold roomOk at c2
  have:=Nat.le_of_ble_eq_true c2
  rwa [Nat.zero_add] at this
 obtain ⟨base,rfl⟩:∃ b,v1 = .slice b 0 0:=by
  cases hrc1 <;> simp [isNilC] at hb0
  exact ⟨_,rfl⟩
 obtain ⟨ki,hxu⟩:∃ ki,c.P.underlying xt=some (.int ki):=by
  split at hb6
  ·rename_i ki h9; exact ⟨ki,hxi.int h9⟩
  ·cases hb6
 have hcap0:=nextslicecap_le n.toNat 0 (by omega)
 have hcap1:Builtin.nextslicecap n.toNat 0 * ei.bytes≤2 ^ 48:=by
  have:=Nat.mul_le_mul_right ei.bytes hcap0
  omega
 have hcap2:n.toNat * ei.bytes≤2 ^ 48:=by
  have:=Nat.mul_le_mul_right ei.bytes (show n.toNat≤2 * n.toNat+192 by omega)
  omega
 obtain ⟨newCap,z,g5,hnc,hrun⟩:=run_zeros (P:=c.P) (w:=w) (ty:=ty) (base:=base) (n:=n.toNat) h0 h1 hi hel hxu hei (by omega) (by omega) hb3 hcap1 hcap2
 have hz0:=packAll_some e7
 obtain ⟨hlen,hall⟩:=zeroOk_spec hb4
 have htk:=zTaken (B:=B) (s:=s) (w:=w.drew) hb4
 have hzs:z.cells.size=ei.size:=by rw [← hb5,← g5]; simp
 have hsz:(Builtin.zeroCells z.cells n.toNat++Builtin.zeroCells z.cells (newCap - n.toNat)).size=newCap * ei.size:=by
  simp only [Array.size_append,Builtin.zeroCells,Array.size_map,Array.size_range,hzs]
  rw [← Nat.add_mul]; congr 1; omega
 have harr:∀ m j',m<n.toNat→j'<ei.size→(Builtin.zeroCells z.cells n.toNat++Builtin.zeroCells z.cells (newCap - n.toNat))[m * ei.size+j']?=ei.zero[j']?:=by
  intro m j' hm hj'
  have hlt:m * ei.size+j'<n.toNat * ei.size:=by
   have:(m+1) * ei.size≤n.toNat * ei.size:=Nat.mul_le_mul_right _ hm
   rw [Nat.add_mul,Nat.one_mul] at this
   omega
  have hmod:(m * ei.size+j') % z.cells.size=j':=by rw [hzs,Nat.mul_comm,Nat.mul_add_mod,Nat.mod_eq_of_lt hj']
  have hzj:j'<z.cells.size:=by omega
  rw [Array.getElem?_append_left (by simp only [Builtin.zeroCells,Array.size_map,Array.size_range,hzs]; exact hlt)]
  have hmk:(Builtin.zeroCells z.cells n.toNat)[m * ei.size+j']?=some (z.cells[(m * ei.size+j') % z.cells.size]!):=by
   have hlt':m * ei.size+j'<n.toNat * z.cells.size:=by rw [hzs]; exact hlt
   simp [Builtin.zeroCells,hlt']
  rw [hmk,hmod,getElem!_pos z.cells j' hzj,← g5,Array.getElem?_toList,Array.getElem?_eq_getElem hzj]
 have hzlay:∀ q y,zrLay n.toNat ei.zel q=some y→blkOf y=none:=by
  intro q y hq
  cases q with
  | nil=>cases hq
  | cons c0 q =>
   simp only [zrLay] at hq
   split at hq
   ·match q with
    | [] =>
     simp only [zLay,if_true] at hq
     split at hq
     ·cases hq; rfl
     ·cases hq
    | _ :: _=>cases hq
   ·cases hq
 have hzout:OwnOut B s w.drew (zrLay n.toNat ei.zel) :=
  ⟨fun q y q' y' b e1 e2 _ _=>absurd ((hzlay _ _ e1).symm.trans e2) nofun,fun q y b e1 e2=>absurd ((hzlay _ _ e1).symm.trans e2) nofun,fun q y b e1 e2 _ _ _ _=>absurd ((hzlay _ _ e1).symm.trans e2) nofun⟩
 have hzat:∀ i j,i<n.toNat→(zrLay n.toNat ei.zel).at i j=(zLay ei.zel).at 0 j:=by
  intro i j hi
  funext q
  simp only [Lay.at,zrLay,if_pos hi]
 have hrd:RelW B s x a w.drew:=h.world (w':=w.drew) (fun b _=>rfl) (Nat.le_refl _) rfl rfl rfl
 have hrep:=sl_rep (w:=w.drew) (el:=e) (cap:=newCap) (e:=ei.ty) (xs:=List.replicate n.toNat z0) (arr:=Builtin.zeroCells z.cells n.toNat++Builtin.zeroCells z.cells (newCap - n.toNat)) hrd hzout (by simp; omega) (by rw [hsz,hb1]; exact Nat.le_refl _)
  (fun i j t e'=>by
   have hij:=rows_lt e'
   simp only [List.length_replicate] at hij
   rw [cellOf_rows,List.getElem?_replicate,if_pos hij.1,Option.bind_some,nth_eq,← hz0] at e'
   have hg:=htk.get j t e'
   have hj:j<ei.size:=by omega
   rw [hzat i j hij.1]
   refine ⟨_,?_,hg⟩
   rw [hb1,harr i j (by omega) hj,List.getElem?_eq_getElem (by omega)]; rfl)
  (fun i j e'=>by
   by_cases hi:i<n.toNat
   ·rw [hzat i j hi]
    rw [cellOf_rows,List.getElem?_replicate,if_pos hi,Option.bind_some,nth_eq,← hz0] at e'
    exact htk.out 0 j (.inr e')
   ·funext q; simp only [Lay.at,zrLay,if_neg hi]; rfl)
 simp only [List.length_replicate] at hrep
 have hout:=topLay_out (w:=w.drew) (o:=.cells (Builtin.zeroCells z.cells n.toNat++Builtin.zeroCells z.cells (newCap - n.toNat)) e) (v:=.slice (some ⟨w.heap.size,0,none⟩) n.toNat newCap) hrd hzout (fun b hb=>by
  cases hcp:newCap with
  | zero=>rw [hcp] at hb; simp [blkOf] at hb
  | succ=>rw [hcp] at hb; simp only [blkOf,Option.some.injEq] at hb; exact hb.symm)
 obtain ⟨x',s',k1,k2⟩:=new_sound (v:=.slice (some ⟨w.heap.size,0,none⟩) n.toNat newCap) hnt (hrd.push _) he hrep hout (fun s' _ hΦ=>.own k [(0,0)] ei.ty _ (by rw [hΦ []]; rfl))
 refine ⟨x',s',_,_,k1,?_,k2⟩
 rw [e5,show (n:Int)=((n.toNat:Nat):Int) by omega]
 simp only [Int.toNat_natCast]
 exact hrun
end
end Go.V
namespace Go.V
open Go.RowKit
variable {α:Type}
def pickV (b:Bool) (p q:D):Option D:=match p.val with
 | some (.bool y)=>match q.val with
  | some (.bool z)=>some (scal (.bool (cond b y z)))
  | _=>none
 | some (.int k y)=>match q.val with
  | some (.int k' z)=>match kindEq k k' with
   | true=>some (scal (.int k (cond b y z)))
   | false=>none
  | _=>none
 | _=>none
def pickK (b:Bool) (p q:Option D) (K:D→Option α):Option α:=match p with
 | none=>cond b none (q.bind K)
 | some p=>match q with
  | none=>cond b (K p) none
  | some q=>match pickV b p q with
   | some d=>K d
   | none=>cond b (K p) (K q)
theorem pickK_sound {b:Bool} {p q:Option D} {K:D→Option α} {r:α} (h:pickK b p q K=some r):∃ d,K d=some r∧((b=true∧p=some d)∨(b=false∧q=some d)):=by
 unfold pickK at h
 split at h
 ·rcases cond_some h with ⟨_,h⟩ | ⟨hb,h⟩
  ·cases h
  ·obtain ⟨d,h1,h2⟩:=Option.bind_eq_some_iff.mp h
   exact ⟨d,h2,.inr ⟨hb,h1⟩⟩
 ·rename_i p
  split at h
  ·rcases cond_some h with ⟨hb,h⟩ | ⟨_,h⟩
   ·exact ⟨p,h,.inl ⟨hb,rfl⟩⟩
   ·cases h
  ·rename_i q
   have hval:∀ {d:D} {v:Value},d.val=some v→d=scal v:=by
    intro d v hd
    unfold D.val at hd
    split at hd
    ·simp only [Option.some.injEq] at hd; subst hd; rfl
    ·cases hd
   split at h
   ·rename_i d hd
    refine ⟨d,h,?_⟩
    unfold pickV at hd
    split at hd
    ·rename_i y hy
     split at hd
     ·rename_i z hz
      simp only [Option.some.injEq] at hd
      subst hd
      cases b with
      | true=>exact .inl ⟨rfl,by rw [hval hy]; rfl⟩
      | false=>exact .inr ⟨rfl,by rw [hval hz]; rfl⟩
     ·cases hd
    ·rename_i k y hy
     split at hd
     ·rename_i k' z hz
      split at hd
      ·rename_i hk
       have hk:=kindEq_eq hk
       subst hk
       simp only [Option.some.injEq] at hd
       subst hd
       cases b with
       | true=>exact .inl ⟨rfl,by rw [hval hy]; rfl⟩
       | false=>exact .inr ⟨rfl,by rw [hval hz]; rfl⟩
      ·cases hd
     ·cases hd
    ·cases hd
   ·rcases cond_some h with ⟨hb,h⟩ | ⟨hb,h⟩
    ·exact ⟨p,h,.inl ⟨hb,rfl⟩⟩
    ·exact ⟨q,h,.inr ⟨hb,rfl⟩⟩
theorem Lawful.pick (b:Bool) (p q:Option D):Lawful fun _ K=>pickK b p q K:=by
 unfold pickK
 split
 ·exact .cond _ .none (.bind _ fun d=>.pure _)
 ·split
  ·exact .cond _ (.pure _) .none
  ·split
   ·exact .pure _
   ·exact .cond _ (.pure _) (.pure _)
def two (args:Array Operand):Option (Operand×Operand):=match args.toList with
 | [p,q]=>some (p,q)
 | _=>none
def lenB (cx:Ctx) (x:X) (args:List Operand) (ats:List TypeId) (K:D→Option α):Option α:=match args with
 | [p]=>match ats with
  | [t]=>(evalD cx x p).bind fun d=>lenK cx x t d K
  | _=>none
 | _=>none
def capB (cx:Ctx) (x:X) (args:List Operand) (ats:List TypeId) (K:D→Option α):Option α:=match args with
 | [p]=>match ats with
  | [t]=>(look cx.Ty t).bind fun i=>match i.d with
   | .sl _=>(evalD cx x p).bind fun d=>match d with
    | .v (.c .nil)=>K (scal (.int .i64 0))
    | _=>none
   | _=>none
  | _=>none
 | _=>none
def capsK (cx:Ctx) (x:X):List Operand→(List (Nat×Path)→Option α)→Option α
 | [],K=>K []
 | o :: l,K=>(evalD cx x o).bind fun d=>match d with
  | .v (.c (.pt r p i j _))=>match and (Nat.beq i 0) (Nat.beq j 0) with
   | true=>atK x r p fun t=>match t with
    | .pp .own _=>capsK cx x l fun cs=>K ((r,p) :: cs)
    | .pt .own _ _=>capsK cx x l fun cs=>K ((r,p) :: cs)
    | _=>none
   | false=>none
  | _=>none
def fnId (fn:Go.Fn):Option FuncId:=match fn with
 | .func f=>some f
 | _=>none
def readK (cx:Ctx) (x:X) (op:Op) (K:D→Option α):Option α:=match op with
 | .move e=>(evalD cx x e).bind K
 | .assign e=>(evalD cx x e).bind K
 | .pick p q r=>((evalD cx x p).bind D.val).bind fun v=>match v with
  | .bool b=>pickK b (evalD cx x q) (evalD cx x r) K
  | _=>none
 | .build t ps=>(buildD cx x t ps).bind K
 | .load t e=>(evalD cx x e).bind fun d=>loadK cx x t d K
 | .nilCheck e=>((evalD cx x e).bind nilD).bind K
 | .binOp op t p q _=>(evalD cx x p).bind fun d=>(evalD cx x q).bind fun d'=>binK cx op t d d' K
 | .unOp op _ p=>((evalD cx x p).bind D.val).bind fun v=>scalU op v fun u=>K (scal u)
 | .convert s t p=>(evalD cx x p).bind fun d=>convK cx s t d K
 | .fieldAddr t p f=>(evalD cx x p).bind fun d=>(fieldAddrD cx t f d).bind K
 | .field t p f=>(evalD cx x p).bind fun d=>(fieldD cx t f d).bind K
 | .indexAddr t p i=>(evalD cx x p).bind fun d=>(evalD cx x i).bind fun d'=>indexAddrK cx x t d d' K
 | .index t p i=>(look cx.Ty t).bind fun ti=>match ti.d with
  | .str=>(evalD cx x p).bind fun d=>(evalD cx x i).bind fun d'=>byteK d d' K
  | _=>none
 | .extract p j=>(evalD cx x p).bind fun d=>(extractD d j).bind K
 | .slice t p lo hi mx=>(evalD cx x p).bind fun d=>sliceK cx x t d lo hi mx K
 | .makeFunc fn first caps=>match first.toList with
  | []=>(fnId fn).bind fun f=>capsK cx x caps.toList fun cs=>K (.v (.c (.fnp f cs)))
  | _ :: _=>none
 | .call cl=>match cl.callee with
  | .builtin .len=>lenB cx x cl.args.toList cl.argTypes.toList K
  | .builtin .min=>(two cl.args).bind fun pq=>(evalD cx x pq.1).bind fun d=>(evalD cx x pq.2).bind fun d'=>(minMax false d d').bind K
  | .builtin .max=>(two cl.args).bind fun pq=>(evalD cx x pq.1).bind fun d=>(evalD cx x pq.2).bind fun d'=>(minMax true d d').bind K
  | .builtin .cap=>capB cx x cl.args.toList cl.argTypes.toList K
  | _=>none
 | _=>none
def growK (cx:Ctx) (nt:Fr) (x:X) (op:Op) (k:Nat) (K:X→Option α):Option α:=match op with
 | .alloc t=>allocK cx nt x t k K
 | .box t v=>(evalD cx x v).bind fun d=>boxBK cx nt x t d k K
 | .buildSlice t n ps=>buildSliceK cx nt x t n ps k K
 | .makeSlice t l c=>(evalD cx x l).bind fun d=>(evalD cx x c).bind fun d'=>makeSliceK cx nt x t d d' k K
 | .call cl=>match cl.callee with
  | .builtin .append=>(two cl.args).bind fun pq=>(evalD cx x pq.1).bind fun d=>(evalD cx x pq.2).bind fun d'=>match zerosT cx cl.argTypes.toList with
   | true=>zerosK cx nt x cl.argTypes d d' k K
   | false=>appendK cx nt x cl.argTypes d d' k K
  | _=>none
 | _=>none
def isGrow (op:Op):Bool:=match op with
 | .alloc _ | .box _ _ | .buildSlice _ _ _ | .makeSlice _ _ _=>true
 | .call cl=>match cl.callee with
  | .builtin .append=>true
  | _=>false
 | _=>false
def clearO (cx:Ctx) (x:X) (op:Op) (K:X→Option α):Option α:=match op with
 | .call cl=>match cl.callee with
  | .builtin .clear=>match cl.args.toList with
   | []=>none
   | p :: l=>match l with
    | []=>match cl.argTypes.toList with
     | []=>none
     | t :: l=>match l with
      | []=>(evalD cx x p).bind fun d=>clearK cx x t d K
      | _ :: _=>none
    | _ :: _=>none
  | _=>none
 | _=>none
def oneK (cx:Ctx) (nt:Fr) (x:X) (o:Oper) (K:X→Option α):Option α:=match o.op with
 | .store t p v=>match o.dst with
  | none=>(evalD cx x p).bind fun d=>(evalD cx x v).bind fun d'=>storeBK cx x t d d' K
  | some _=>none
 | op=>match o.dst with
  | none=>clearO cx x op K
  | some k=>match isGrow op with
   | true=>growK cx nt x op (nt.off+k) K
   | false=>readK cx x op fun d=>putK nt x (nt.off+k) d K
section
variable {c:Ctx} {B:Base} {s:Sit} {x:X} {a:Act} {w:World} {nt:Fr}
theorem two_some {args:Array Operand} {pq:Operand×Operand} (h:two args=some pq):args = #[pq.1,pq.2]:=by
 unfold two at h
 split at h
 ·rename_i p q e
  simp only [Option.some.injEq] at h
  subst h
  exact Array.ext' e
 ·cases h
theorem caps_sound (hG:Fit B c) (h:RelW B s x a w):∀ (l:List Operand) {K:List (Nat×Path)→Option α} {q:α},capsK c x l K=some q→∃ cs,K cs=some q∧∀ f,RepC w s (.fnp f cs) (.func (.func f) #[] (l.map a.eval).toArray)
 | [],K,q,he=>⟨[],he,fun f=>.fnp f [] _ (by simp) (fun m r p e=>by simp at e)⟩
 | o :: l,K,q,he=>by
  obtain ⟨d,h1,he1⟩:=Option.bind_eq_some_iff.mp he
  have hr:=evalD_sound hG h h1
  split at he1
  rotate_left
  ·cases he1
  rename_i r p i j sz
  split at he1
  rotate_left
  ·cases he1
  rename_i hz
  simp only [Bool.and_eq_true] at hz
  have hi:=Nat.eq_of_beq_eq_true hz.1
  have hj:=Nat.eq_of_beq_eq_true hz.2
  subst hi hj
  obtain ⟨t,h2,he2⟩:=atK_some he1
  have hbox:(∃ cs,t.box?=some cs)∧capsK c x l (fun cs=>K ((r,p) :: cs))=some q:=by
   split at he2
   ·exact ⟨⟨_,rfl⟩,he2⟩
   ·exact ⟨⟨_,rfl⟩,he2⟩
   ·cases he2
  obtain ⟨⟨cs0,hb⟩,he3⟩:=hbox
  obtain ⟨cs,k1,k2⟩:=caps_sound hG h l he3
  refine ⟨_,k1,fun f=>?_⟩
  -- the box
  obtain ⟨row,g1,g2⟩:=Option.bind_eq_some_iff.mp h2
  obtain ⟨y0,hy0⟩:=h.roots r row g1
  obtain ⟨y,hy⟩:=getT_own p hy0 g2
  have hlay:∃ b,s.Φ r p=some (.pointer (some ⟨b,0,none⟩)):=by
   rw [← Lay.under_apply_nil (s.Φ r) p]
   generalize (s.Φ r).under p=ψ at hy
   cases hy with
   | sh _ _ _ ht=>cases t with
    | pp f0 cs'=>cases f0 <;> simp [T.box?,T.isSh] at hb ht
    | pt f0 e d=>cases f0 <;> simp [T.box?,T.isSh] at hb ht
    | po=>simp [T.isSh] at ht
    | _=>simp [T.box?] at hb
   | box _ cs1 ht b arr el vs φ hbb hsz hc hrr h0 hn=>exact ⟨b,h0⟩
   | nil=>simp [T.box?] at hb
   | sl=>simp [T.box?] at hb
   | slo=>simp [T.box?] at hb
   | vr=>simp [T.box?] at hb
   | bld=>simp [T.box?] at hb
  obtain ⟨b,hb2⟩:=hlay
  have hval:a.eval o = .pointer (some ⟨b,0,none⟩):=by
   generalize a.eval o=u at hr
   cases hr with
   | v _ _ hr=>cases hr with
    | c _ _ hr=>cases hr with
     | pt _ _ _ _ _ z b' hΦ hbb =>
      rw [hb2,Option.some.injEq] at hΦ
      subst hΦ
      simp only [blkOf,Option.some.injEq] at hbb
      subst hbb
      simp [offOf]
  cases k2 f with
  | fnp _ _ cap hs hc =>
   refine .fnp f _ _ (by simpa using hs) (fun m r' p' e=>?_)
   cases m with
   | zero =>
    simp only [List.getElem?_cons_zero,Option.some.injEq,Prod.mk.injEq] at e
    obtain ⟨rfl,rfl⟩:=e
    exact ⟨b,hb2,by simp [hval]⟩
   | succ m =>
    obtain ⟨b',e1,e2⟩:=hc m r' p' (by simpa using e)
    exact ⟨b',e1,by simpa using e2⟩
theorem read_sound (hG:Fit B c) (h:RelW B s x a w) {o:Oper} {K:D→Option α} {r:α} (he:readK c x o.op K=some r) :
 ∃ e v,K e=some r∧(execOp a.eval o).run c.P w = .ok (.value v) w∧RepD w s e v:=by
 obtain ⟨dst,op,type,pos,after,guard⟩:=o
 simp only at he
 unfold readK at he
 split at he
 ·obtain ⟨d,hd,he⟩:=Option.bind_eq_some_iff.mp he
  exact ⟨d,_,he,rfl,evalD_sound hG h hd⟩
 ·obtain ⟨d,hd,he⟩:=Option.bind_eq_some_iff.mp he
  exact ⟨d,_,he,rfl,evalD_sound hG h hd⟩
 ·obtain ⟨v,hv,he⟩:=Option.bind_eq_some_iff.mp he
  obtain ⟨d0,h0,h1⟩:=Option.bind_eq_some_iff.mp hv
  obtain ⟨e0,-⟩:=D.val_sound (evalD_sound hG h h0) h1
  split at he
  ·rename_i b
   obtain ⟨d,hK,hcase⟩:=pickK_sound he
   rcases hcase with ⟨rfl,hp⟩ | ⟨rfl,hp⟩
   ·exact ⟨d,_,hK,by simp [execOp,e0,asBool],evalD_sound hG h hp⟩
   ·exact ⟨d,_,hK,by simp [execOp,e0,asBool],evalD_sound hG h hp⟩
  ·cases he
 ·obtain ⟨d,hd,he⟩:=Option.bind_eq_some_iff.mp he
  obtain ⟨u,h1,h2⟩:=buildD_sound hG h hd
  exact ⟨d,u,he,by simp only [execOp,Sem.run_bind]; rw [h1]; rfl,h2⟩
 ·obtain ⟨d,hd,he⟩:=Option.bind_eq_some_iff.mp he
  obtain ⟨e,u,hK,h1,h2⟩:=load_sound h (evalD_sound hG h hd) he
  exact ⟨e,u,hK,by simp only [execOp,Sem.run_bind]; rw [h1]; rfl,h2⟩
 ·obtain ⟨d,hd,he⟩:=Option.bind_eq_some_iff.mp he
  obtain ⟨d0,h0,h1⟩:=Option.bind_eq_some_iff.mp hd
  have hr:=evalD_sound hG h h0
  obtain ⟨rfl,ad,h2⟩:=nilD_sound hr h1
  rename_i e1 _
  have h2:a.eval e1 = .pointer (some ad):=h2
  refine ⟨d,_,he,?_,hr⟩
  simp only [execOp,h2]
  rfl
 ·obtain ⟨d,hd,he⟩:=Option.bind_eq_some_iff.mp he
  obtain ⟨d',hd',he⟩:=Option.bind_eq_some_iff.mp he
  rename_i bop bt p q yt _ _
  obtain ⟨e,z,hK,h1,h2⟩:=bin_sound (p:=p) (q:=q) (evalD_sound hG h hd) (evalD_sound hG h hd') he
  exact ⟨e,z,hK,by simp only [execOp]; rw [Sem.run_bind,h1 w]; rfl,h2⟩
 ·obtain ⟨v,hv,he⟩:=Option.bind_eq_some_iff.mp he
  obtain ⟨d0,h0,h1⟩:=Option.bind_eq_some_iff.mp hv
  obtain ⟨e0,-⟩:=D.val_sound (evalD_sound hG h h0) h1
  obtain ⟨u,hK,h2,h3⟩:=scalU_sound he
  exact ⟨_,u,hK,by simp only [execOp]; rw [Sem.run_bind,e0,h3]; rfl,scal_rep u h2⟩
 ·obtain ⟨d,hd,he⟩:=Option.bind_eq_some_iff.mp he
  obtain ⟨e,z,hK,h1,h2⟩:=conv_sound (evalD_sound hG h hd) he
  exact ⟨e,z,hK,by simp only [execOp]; rw [Sem.run_bind,h1 w]; rfl,h2⟩
 ·obtain ⟨d,hd,he⟩:=Option.bind_eq_some_iff.mp he
  obtain ⟨e,h4,he⟩:=Option.bind_eq_some_iff.mp he
  obtain ⟨z,h1,h2⟩:=fieldAddr_sound (evalD_sound hG h hd) h4
  exact ⟨e,z,he,by simp only [execOp]; rw [Sem.run_bind,h1 w]; rfl,h2⟩
 ·obtain ⟨d,hd,he⟩:=Option.bind_eq_some_iff.mp he
  obtain ⟨e,h4,he⟩:=Option.bind_eq_some_iff.mp he
  obtain ⟨z,h1,h2⟩:=field_sound (evalD_sound hG h hd) h4
  exact ⟨e,z,he,by simp only [execOp]; rw [Sem.run_bind,h1 w]; rfl,h2⟩
 ·obtain ⟨d,hd,he⟩:=Option.bind_eq_some_iff.mp he
  obtain ⟨d',hd',he⟩:=Option.bind_eq_some_iff.mp he
  obtain ⟨e,z,hK,h1,h2⟩:=indexAddr_sound h (evalD_sound hG h hd) (evalD_sound hG h hd') he
  exact ⟨e,z,hK,by simp only [execOp]; rw [Sem.run_bind,h1 w]; rfl,h2⟩
 ·obtain ⟨ti,hti,he⟩:=Option.bind_eq_some_iff.mp he
  split at he
  ·rename_i hstr
   obtain ⟨d,hd,he⟩:=Option.bind_eq_some_iff.mp he
   obtain ⟨d',hd',he⟩:=Option.bind_eq_some_iff.mp he
   obtain ⟨e,z,hK,h1,h2⟩:=byte_sound (evalD_sound hG h hd) (evalD_sound hG h hd') ⟨ti,hti,hstr⟩ he
   exact ⟨e,z,hK,by simp only [execOp]; rw [Sem.run_bind,h1 w]; rfl,h2⟩
  ·cases he
 ·obtain ⟨d,hd,he⟩:=Option.bind_eq_some_iff.mp he
  obtain ⟨e,h4,he⟩:=Option.bind_eq_some_iff.mp he
  obtain ⟨z,h1,h2⟩:=extract_sound (c:=c) (evalD_sound hG h hd) h4
  exact ⟨e,z,he,by simp only [execOp]; rw [Sem.run_bind,h1 w]; rfl,h2⟩
 ·obtain ⟨d,hd,he⟩:=Option.bind_eq_some_iff.mp he
  obtain ⟨e,z,hK,h1,h2⟩:=slice_sound hG h (evalD_sound hG h hd) he
  exact ⟨e,z,hK,by simp only [execOp]; rw [Sem.run_bind,h1 w]; rfl,h2⟩
 ·rename_i fn first caps
  split at he
  ·rename_i hfirst
   obtain ⟨f,hf,he⟩:=Option.bind_eq_some_iff.mp he
   obtain ⟨cs,k1,k2⟩:=caps_sound hG h caps.toList he
   have hfn:fn = .func f:=by
    unfold fnId at hf
    split at hf
    ·simp only [Option.some.injEq] at hf; subst hf; rfl
    ·cases hf
   subst hfn
   have hfe:first = #[]:=Array.ext' hfirst
   subst hfe
   refine ⟨_,.func (.func f) #[] (caps.map a.eval),k1,by simp [execOp,Instr.makeFunc],.v _ _ (.c _ _ ?_)⟩
   have e:(List.map a.eval caps.toList).toArray=caps.map a.eval:=by apply Array.ext'; simp
   have:=k2 f
   rwa [e] at this
  ·cases he
 ·rename_i cl
  obtain ⟨callee,args,ats⟩:=cl
  simp only at he
  split at he
  ·skip
   unfold lenB at he
   split at he
   ·rename_i p e1
    split at he
    ·rename_i t e2
     obtain rfl:args = #[p]:=Array.ext' e1
     obtain rfl:ats = #[t]:=Array.ext' e2
     obtain ⟨d,hd,he⟩:=Option.bind_eq_some_iff.mp he
     obtain ⟨e,z,hK,h1,h2⟩:=len_sound (ty:=type) h (evalD_sound hG h hd) he
     exact ⟨e,z,hK,by simp [execOp,resolve,invoke,builtin,h1 w],h2⟩
    ·cases he
   ·cases he
  ·skip
   obtain ⟨pq,e1,he1⟩:=Option.bind_eq_some_iff.mp he
   have e2:=two_some e1
   subst e2
   obtain ⟨d,hd,he2⟩:=Option.bind_eq_some_iff.mp he1
   obtain ⟨d',hd',he3⟩:=Option.bind_eq_some_iff.mp he2
   obtain ⟨e,h4,he4⟩:=Option.bind_eq_some_iff.mp he3
   obtain ⟨z,h1,h2⟩:=minMax_sound (c:=c) (b:=false) (ats:=ats) (ty:=type) (evalD_sound hG h hd) (evalD_sound hG h hd') h4
   have h1:=h1 w
   exact ⟨e,z,he4,by simp only [Bool.false_eq_true,if_false] at h1; simp [execOp,resolve,invoke,builtin,h1],h2⟩
  ·skip
   obtain ⟨pq,e1,he1⟩:=Option.bind_eq_some_iff.mp he
   have e2:=two_some e1
   subst e2
   obtain ⟨d,hd,he2⟩:=Option.bind_eq_some_iff.mp he1
   obtain ⟨d',hd',he3⟩:=Option.bind_eq_some_iff.mp he2
   obtain ⟨e,h4,he4⟩:=Option.bind_eq_some_iff.mp he3
   obtain ⟨z,h1,h2⟩:=minMax_sound (c:=c) (b:=true) (ats:=ats) (ty:=type) (evalD_sound hG h hd) (evalD_sound hG h hd') h4
   have h1:=h1 w
   exact ⟨e,z,he4,by simp only [if_true] at h1; simp [execOp,resolve,invoke,builtin,h1],h2⟩
  ·skip
   unfold capB at he
   split at he
   ·rename_i p e1
    split at he
    ·rename_i t e2
     obtain rfl:args = #[p]:=Array.ext' e1
     obtain rfl:ats = #[t]:=Array.ext' e2
     obtain ⟨i,hi,he⟩:=Option.bind_eq_some_iff.mp he
     have hok:=c.hTy t i hi
     split at he
     ·rename_i el hel
      have hu:=hok.slice hel
      obtain ⟨d,hd,he⟩:=Option.bind_eq_some_iff.mp he
      split at he
      ·have hv:=evalD_sound hG h hd
       generalize hav:a.eval p=v at hv
       cases hv with
       | v _ _ hv=>cases hv with
        | c _ _ hv=>cases hv with
         | nil ad=>exact ⟨_,.int .i64 0,he,by simp [execOp,resolve,invoke,builtin,hav,Builtin.cap_,run_underlying hu,goInt],scal_rep _ rfl⟩
      ·cases he
     ·cases he
    ·cases he
   ·cases he
  ·cases he
 ·cases he
theorem grow_sound (hG:Fit B c) (hnt:B.nt=nt) (h:RelW B s x a w) {o:Oper} {k:Nat} {K:X→Option α} {q:α} (he:growK c nt x o.op k K=some q) :
 ∃ x' s' v w',K x'=some q∧(execOp a.eval o).run c.P w = .ok (.value v) w'∧RelW B s' x' (a.gput B k v) w':=by
 obtain ⟨dst,op,type,pos,after,guard⟩:=o
 simp only at he
 unfold growK at he
 split at he
 ·obtain ⟨x',s',u,w',k1,k2,k3⟩:=alloc_sound hnt h he
  exact ⟨x',s',u,w',k1,by simp [execOp,k2],k3⟩
 ·obtain ⟨d,hd,he⟩:=Option.bind_eq_some_iff.mp he
  obtain ⟨x',s',u,w',k1,k2,k3⟩:=boxB_sound hnt h (evalD_sound hG h hd) he
  exact ⟨x',s',u,w',k1,by simp [execOp,k2],k3⟩
 ·obtain ⟨x',s',u,w',k1,k2,k3⟩:=buildSlice_sound hG hnt h he
  exact ⟨x',s',u,w',k1,by simp only [execOp,Sem.run_bind]; rw [k2]; rfl,k3⟩
 ·obtain ⟨d,hd,he⟩:=Option.bind_eq_some_iff.mp he
  obtain ⟨d',hd',he⟩:=Option.bind_eq_some_iff.mp he
  obtain ⟨x',s',u,w',k1,k2,k3⟩:=makeSlice_sound hnt h (evalD_sound hG h hd) (evalD_sound hG h hd') he
  exact ⟨x',s',u,w',k1,by simp only [execOp,Sem.run_bind]; rw [k2]; rfl,k3⟩
 ·rename_i cl
  obtain ⟨callee,args,ats⟩:=cl
  simp only at he
  split at he
  ·skip
   obtain ⟨pq,e1,he1⟩:=Option.bind_eq_some_iff.mp he
   have e2:=two_some e1
   subst e2
   obtain ⟨d,hd,he2⟩:=Option.bind_eq_some_iff.mp he1
   obtain ⟨d',hd',he3⟩:=Option.bind_eq_some_iff.mp he2
   split at he3
   ·obtain ⟨x',s',u,w',k1,k2,k3⟩:=zeros_sound (ty:=type) hnt h (evalD_sound hG h hd) (evalD_sound hG h hd') he3
    exact ⟨x',s',u,w',k1,by simp [execOp,resolve,invoke,builtin,k2],k3⟩
   ·obtain ⟨x',s',u,w',k1,k2,k3⟩:=append_sound (ty:=type) hnt h (evalD_sound hG h hd) (evalD_sound hG h hd') he3
    exact ⟨x',s',u,w',k1,by simp [execOp,resolve,invoke,builtin,k2],k3⟩
  ·cases he
 ·cases he
def Good (c:Ctx) (B:Base) (s':Sit) (x':X) (o:Oper) (a:Act) (w:World):Prop :=
 ∃ n w',(execOp a.eval o).run c.P w = .ok n w'∧((∃ v,n = .value v∧RelW B s' x' (a.put o.dst v) w')∨(n = .skip∧RelW B s' x' (a.put o.dst undef) w'))
theorem one_sound (hG:Fit B c) (hnt:B.nt=nt) (h:RelW B s x a w) {o:Oper} {K:X→Option α} {q:α} (he:oneK c nt x o K=some q) :
 ∃ x' s',K x'=some q∧Good c B s' x' o a w:=by
 unfold oneK at he
 split at he
 ·rename_i t p v hop
  split at he
  ·rename_i hdst
   obtain ⟨d,hd,he⟩:=Option.bind_eq_some_iff.mp he
   obtain ⟨d',hd',he⟩:=Option.bind_eq_some_iff.mp he
   obtain ⟨x',s',w',k1,k2,k3⟩:=storeB_sound h (evalD_sound hG h hd) (evalD_sound hG h hd') he
   refine ⟨x',s',k1,.skip,w',by simp only [execOp,hop,Sem.run_bind]; rw [k2]; rfl,.inr ⟨rfl,?_⟩⟩
   rw [hdst]
   exact k3
  ·cases he
 ·split at he
  ·rename_i hdst
   obtain ⟨dst,op,type,pos,after,guard⟩:=o
   simp only at he hdst
   subst hdst
   unfold clearO at he
   split at he
   ·rename_i cl _
    obtain ⟨callee,args,ats⟩:=cl
    simp only at he
    split at he
    ·skip
     split at he
     ·cases he
     rename_i p l e1
     split at he
     rotate_left
     ·cases he
     split at he
     ·cases he
     rename_i t l2 e2
     split at he
     rotate_left
     ·cases he
     obtain rfl:args = #[p]:=Array.ext' e1
     obtain rfl:ats = #[t]:=Array.ext' e2
     obtain ⟨d,hd,he⟩:=Option.bind_eq_some_iff.mp he
     obtain ⟨x',s',w',k1,k2,k3⟩:=clear_sound (ty:=type) h (evalD_sound hG h hd) he
     exact ⟨x',s',k1,.value (.tuple #[]),w',by simp [execOp,resolve,invoke,builtin,k2],.inl ⟨_,rfl,k3⟩⟩
    ·cases he
   ·cases he
  ·rename_i k hk
   split at he
   ·obtain ⟨x',s',v,w',k1,k2,k3⟩:=grow_sound hG hnt h he
    rw [← hnt,gput_local] at k3
    exact ⟨x',s',k1,_,w',k2,.inl ⟨v,rfl,by rw [hk]; exact k3⟩⟩
   ·obtain ⟨e,v,k1,k2,k3⟩:=read_sound hG h he
    obtain ⟨x',k4,k5⟩:=put_sound hnt h k1 k3
    rw [← hnt,gput_local] at k5
    exact ⟨x',s,k4,_,w,k2,.inl ⟨v,rfl,by rw [hk]; exact k5⟩⟩
end
end Go.V
namespace Go.V
open Go.RowKit
variable {α:Type}
theorem look_app {β:Type} (l m:List (Nat×β)) (k:Nat):look (app l m) k=match look l k with | some x=>some x | none=>look m k:=by
 induction l with
 | nil=>rfl
 | cons e l ih =>
  simp only [app,look]
  cases Nat.beq e.1 k with
  | true=>rfl
  | false=>exact ih
structure LeX (x x':X):Prop where
 env:∀ k d,look x.env k=some d→look x'.env k=some d
 roots:∀ r row,look x.roots r=some row→look x'.roots r=some row
theorem LeX.refl (x:X):LeX x x:=⟨fun _ _ h=>h,fun _ _ h=>h⟩
theorem LeX.trans {x y z:X} (h1:LeX x y) (h2:LeX y z):LeX x z:=⟨fun k d h=>h2.env k d (h1.env k d h),fun r row h=>h2.roots r row (h1.roots r row h)⟩
end Go.V
namespace Go.V
open Go.RowKit
variable {α:Type}
section
variable {c:Ctx} {x:X}
theorem Lawful.scalU (op:UnOp) (v:Value):Lawful fun _ K=>scalU op v K:=by
 unfold V.scalU
 split
 ·split
  ·exact .pure _
  ·exact .none
 ·split
  ·exact .pure _
  ·exact .none
 ·exact .none
theorem Lawful.lenB (cx:Ctx) (x:X) (args:List Operand) (ats:List TypeId):Lawful fun _ K=>lenB cx x args ats K:=by
 unfold V.lenB
 split
 ·split
  ·exact .bind _ fun d=>.len _ _ _ _
  ·exact .none
 ·exact .none
theorem Lawful.capB (cx:Ctx) (x:X) (args:List Operand) (ats:List TypeId):Lawful fun _ K=>capB cx x args ats K:=by
 unfold V.capB
 split
 ·split
  ·refine .bind _ fun i=>?_
   split
   ·refine .bind _ fun d=>?_
    split
    ·exact .pure _
    ·exact .none
   ·exact .none
  ·exact .none
 ·exact .none
theorem Lawful.caps (cx:Ctx) (x:X):∀ l:List Operand,Lawful fun _ K=>capsK cx x l K
 | []=>.pure _
 | o :: l=>by
  unfold capsK
  refine .bind _ fun d=>?_
  split
  ·split
   ·refine .comp (.at _ _ _) fun t=>?_
    split
    ·exact .comp (.caps cx x l) fun cs=>.pure _
    ·exact .comp (.caps cx x l) fun cs=>.pure _
    ·exact .none
   ·exact .none
  ·exact .none
theorem Lawful.read (cx:Ctx) (x:X) (op:Op):Lawful fun _ K=>readK cx x op K:=by
 unfold readK
 split
 ·exact .bind _ fun d=>.pure _
 ·exact .bind _ fun d=>.pure _
 ·refine .bind _ fun v=>?_
  split
  ·exact .pick _ _ _
  ·exact .none
 ·exact .bind _ fun d=>.pure _
 ·exact .bind _ fun d=>.load _ _ _ _
 ·exact .bind _ fun d=>.pure _
 ·exact .bind _ fun d=>.bind _ fun d'=>.bin _ _ _ _ _
 ·exact .bind _ fun v=>.comp (.scalU _ _) fun u=>.pure _
 ·exact .bind _ fun d=>.conv _ _ _ _
 ·exact .bind _ fun d=>.bind _ fun e=>.pure _
 ·exact .bind _ fun d=>.bind _ fun e=>.pure _
 ·exact .bind _ fun d=>.bind _ fun d'=>.indexAddr _ _ _ _ _
 ·refine .bind _ fun ti=>?_
  split
  ·exact .bind _ fun d=>.bind _ fun d'=>.byte _ _
  ·exact .none
 ·exact .bind _ fun d=>.bind _ fun e=>.pure _
 ·exact .bind _ fun d=>.slice _ _ _ _ _ _ _
 ·split
  ·exact .bind _ fun f=>.comp (.caps _ _ _) fun cs=>.pure _
  ·exact .none
 ·split
  ·exact .lenB _ _ _ _
  ·exact .bind _ fun pq=>.bind _ fun d=>.bind _ fun d'=>.bind _ fun e=>.pure _
  ·exact .bind _ fun pq=>.bind _ fun d=>.bind _ fun d'=>.bind _ fun e=>.pure _
  ·exact .capB _ _ _ _
  ·exact .none
 ·exact .none
end
end Go.V
namespace Go.V
open Go.RowKit
def depE:List Edge→List Nat
 | []=>[]
 | e :: l=>match Region.binds .any e with
  | true=>e.on :: depE l
  | false=>depE l
theorem depE_mem {l:List Edge} {k:Nat}:k∈depE l↔∃ e∈l,Region.binds .any e=true∧e.on=k:=by
 induction l with
 | nil=>simp [depE]
 | cons e l ih =>
  unfold depE
  cases h:Region.binds .any e with
  | true =>
   simp only [List.mem_cons,ih]
   constructor
   ·rintro (rfl | ⟨e',h1,h2⟩)
    ·exact ⟨e,.inl rfl,h,rfl⟩
    ·exact ⟨e',.inr h1,h2⟩
   ·rintro ⟨e',h1 | h1,h2,h3⟩
    ·subst h1; exact .inl h3.symm
    ·exact .inr ⟨e',h1,h2,h3⟩
  | false =>
   simp only [List.mem_cons,ih]
   constructor
   ·rintro ⟨e',h1,h2⟩; exact ⟨e',.inr h1,h2⟩
   ·rintro ⟨e',h1 | h1,h2,h3⟩
    ·subst h1; rw [h] at h2; cases h2
    ·exact ⟨e',h1,h2,h3⟩
def deps (ops:Array Oper) (j:Nat):List Nat:=match nth ops.toList j with
 | some o=>depE o.after.toList
 | none=>[]
theorem deps_mem {ops:Array Oper} {j k:Nat}:k∈deps ops j↔∃ o,ops[j]?=some o∧∃ e∈o.after,Region.binds .any e=true∧e.on=k:=by
 unfold deps
 rw [nth_eq,Array.getElem?_toList]
 cases ops[j]? with
 | none=>simp
 | some o=>simp [depE_mem]
def before (ops:Array Oper):Nat→Nat→Nat→Bool
 | 0,_,_=>false
 | n+1,j,i=>match mem (deps ops j) i with
  | true=>true
  | false=>anyL (fun k=>before ops n k i) (deps ops j)
def Closed (ops:Array Oper) (listed:Array Bool):Prop:=∀ (j:Nat),listed.getD j false=true→∀ k∈deps ops j,listed.getD k false=true
section
variable {P:Program} {ops:Array Oper} {Q:Exit→Act→World→Prop} {m:Nat}
theorem before_listed:∀ (n:Nat) {listed:Array Bool} {j i:Nat},Closed ops listed→(∀ k∈deps ops j,listed.getD k false=true)→before ops n j i=true→listed.getD i false=true:=by
 intro n
 induction n with
 | zero=>intro listed j i _ _ h; simp [before] at h
 | succ n ih =>
  intro listed j i hc hj h
  unfold before at h
  split at h
  ·rename_i hm; exact hj i ((mem_iff _ _).1 hm)
  ·obtain ⟨k,hk,h⟩:=(anyL_iff _ _).1 h
   exact ih hc (hc k (hj k hk)) h
theorem ready_deps {j:Nat} {listed:Array Bool} (h:j∈Region.ready .any ops listed):∀ k∈deps ops j,listed.getD k false=true:=by
 obtain ⟨-,o,ho,hall⟩:=mem_ready.1 h
 intro k hk
 obtain ⟨o',ho',e,he,hb,rfl⟩:=deps_mem.1 hk
 rw [ho,Option.some.injEq] at ho'
 subst ho'
 exact hall e he hb
theorem Closed.set {listed:Array Bool} (hc:Closed ops listed) {j:Nat} (h:j∈Region.ready .any ops listed):Closed ops (listed.setIfInBounds j true):=by
 intro i hi k hk
 by_cases e:i=j
 ·subst e; exact getD_set_true (ready_deps h k hk)
 ·rw [getD_set_ne false (fun e'=>e e'.symm)] at hi
  exact getD_set_true (hc i hi k hk)
theorem getD_tf {listed:Array Bool} {j:Nat} (h:j<listed.size) (d:Bool):listed.getD j d=listed.getD j false:=by
 simp [h]
theorem ready_of {j:Nat} {listed:Array Bool} (hs:listed.size=ops.size) (hj:j<ops.size) (hu:listed.getD j false=false) (hd:∀ k∈deps ops j,listed.getD k false=true):j∈Region.ready .any ops listed:=by
 refine mem_ready.2 ⟨by rw [getD_tf (by omega)]; exact hu,ops[j],Array.getElem?_eq_getElem hj,fun e he hb=>hd _ (deps_mem.2 ⟨_,Array.getElem?_eq_getElem hj,e,he,hb,rfl⟩)⟩
theorem ready_un {j:Nat} {listed:Array Bool} (hs:listed.size=ops.size) (h:j∈Region.ready .any ops listed):j<ops.size∧listed.getD j false=false:=by
 obtain ⟨h1,o,ho,-⟩:=mem_ready.1 h
 have hlt:=(Array.getElem?_eq_some_iff.1 ho).1
 exact ⟨hlt,by rw [← getD_tf (by omega) true]; exact h1⟩
def unl:Nat→Array Bool→Nat
 | 0,_=>0
 | k+1,l=>unl k l+(if l.getD k false=true then 0 else 1)
theorem unl_set {l:Array Bool} {i:Nat} (hi:i<l.size) (hu:l.getD i false=false):∀ k,unl k (l.setIfInBounds i true)+(if i<k then 1 else 0)=unl k l
 | 0=>by simp [unl]
 | k+1=>by
  have ih:=unl_set hi hu k
  simp only [unl]
  by_cases e:k=i
  ·subst e
   have h1:(l.setIfInBounds k true).getD k false=true:=by simp [hi]
   rw [h1,hu]
   simp at ih ⊢
   omega
  ·rw [getD_set_ne false (fun e'=>e e'.symm)]
   have hne:k≠i:=e
   by_cases hlt:i<k
   ·have hlt':i<k+1:=Nat.lt_succ_of_lt hlt
    simp only [if_pos hlt] at ih; simp only [if_pos hlt']; omega
   ·have hlt' : ¬ i<k+1:=fun h=>hlt (Nat.lt_of_le_of_ne (Nat.le_of_lt_succ h) (Ne.symm hne))
    simp only [if_neg hlt] at ih; simp only [if_neg hlt']; omega
theorem unl_split {l:Array Bool} (h1:∀ j,j<m→l.getD j false=true) (h2:∀ j,m≤j→l.getD j false=false):∀ k,unl k l=k - m
 | 0=>by simp [unl]
 | k+1=>by
  simp only [unl,unl_split h1 h2 k]
  by_cases e:k<m
  ·rw [h1 k e]; simp; omega
  ·rw [h2 k (by omega)]; simp; omega
theorem unl_zero {l:Array Bool}:∀ {k:Nat},unl k l=0→∀ j,j<k→l.getD j false=true
 | 0,_,j,hj=>by omega
 | k+1,h,j,hj=>by
  simp only [unl] at h
  by_cases e:j=k
  ·subst e
   cases hh:l.getD j false with
   | true=>rfl
   | false=>rw [hh] at h; simp at h
  ·exact unl_zero (k:=k) (by omega) j (by omega)
theorem any_tail {J:Nat→Act→World→Prop} (hdep:∀ j k,k∈deps ops j→k<j) (hseq:∀ j,m≤j→j<ops.size→∀ k,k<j→∃ n,before ops n j k=true)
 (hJ:∀ t a w,m≤t→t<ops.size→J t a w→wpOp P ops Q t (fun a' w'=>J (t+1) a' w') a w) (hQ:∀ a w,J ops.size a w→Q .normal a w) :
 ∀ (n t:Nat) (listed:Array Bool) (a:Act) (w:World),m≤t→t≤ops.size→Closed ops listed→(∀ j,j<t→listed.getD j false=true)→(∀ j,t≤j→listed.getD j false=false)→listed.size=ops.size →
  ops.size≤n+t→J t a w→wpAny P .any ops Q n listed a w:=by
 intro n
 induction n with
 | zero =>
  intro t listed a w hm ht hc h1 h2 hs hn hj
  have:t=ops.size:=by omega
  subst this
  refine ⟨?_,hQ a w hj⟩
  cases hr:Region.ready .any ops listed with
  | nil=>rfl
  | cons i l =>
   obtain ⟨g1,g2⟩:=ready_un hs (by rw [hr]; exact List.mem_cons_self:i∈Region.ready .any ops listed)
   rw [h1 i g1] at g2; cases g2
 | succ n ih =>
  intro t listed a w hm ht hc h1 h2 hs hn hj
  refine ⟨fun hr=>?_,fun i hi=>?_⟩
  ·by_cases e:t=ops.size
   ·subst e; exact hQ a w hj
   ·have:=ready_of (j:=t) hs (by omega) (h2 t (Nat.le_refl _)) (fun k hk=>h1 k (hdep t k hk))
    rw [hr] at this; cases this
  ·obtain ⟨g1,g2⟩:=ready_un hs hi
   have hit:i=t:=by
    rcases Nat.lt_trichotomy i t with h | h | h
    ·rw [h1 i h] at g2; cases g2
    ·exact h
    ·obtain ⟨k,hk⟩:=hseq i (by omega) g1 t h
     have:=before_listed k hc (ready_deps hi) hk
     rw [h2 t (Nat.le_refl _)] at this; cases this
   subst hit
   refine wpOp_mono (fun a' w' hj'=>ih (i+1) _ a' w' (by omega) (by omega) (hc.set hi) (fun j hj2=>?_) (fun j hj2=>?_) (by simpa using hs) (by omega) hj') (hJ i a w hm g1 hj)
   ·by_cases e:j=i
    ·subst e; simp [show j<listed.size by omega]
    ·exact getD_set_true (h1 j (by omega))
   ·rw [getD_set_ne false (by omega)]; exact h2 j (by omega)
theorem any_two {I:Array Bool→Act→World→Prop} {J:Nat→Act→World→Prop} (hmo:m≤ops.size) (hdep:∀ j k,k∈deps ops j→k<j) (hseq:∀ j,m≤j→j<ops.size→∀ k,k<j→∃ n,before ops n j k=true)
 (hI:∀ listed a w i,I listed a w→Closed ops listed→i∈Region.ready .any ops listed→i<m→wpOp P ops Q i (fun a' w'=>I (listed.setIfInBounds i true) a' w') a w)
 (hIJ:∀ listed a w,I listed a w→(∀ j,j<m→listed.getD j false=true)→J m a w)
 (hJ:∀ t a w,m≤t→t<ops.size→J t a w→wpOp P ops Q t (fun a' w'=>J (t+1) a' w') a w) (hQ:∀ a w,J ops.size a w→Q .normal a w) :
 ∀ (n:Nat) (listed:Array Bool) (a:Act) (w:World),Closed ops listed→(∀ j,m≤j→listed.getD j false=false)→listed.size=ops.size→unl ops.size listed≤n→I listed a w→wpAny P .any ops Q n listed a w:=by
 intro n
 induction n with
 | zero =>
  intro listed a w hc h2 hs hn hi
  have hall:=unl_zero (l:=listed) (k:=ops.size) (by omega)
  exact any_tail hdep hseq hJ hQ 0 m listed a w (Nat.le_refl _) hmo hc (fun j hj=>hall j (by omega)) h2 hs (by
   have:=unl_split (fun j hj=>hall j (by omega)) h2 ops.size; omega) (hIJ listed a w hi (fun j hj=>hall j (by omega)))
 | succ n ih =>
  intro listed a w hc h2 hs hn hi
  by_cases hall:∀ j,j<m→listed.getD j false=true
  ·exact any_tail hdep hseq hJ hQ (n+1) m listed a w (Nat.le_refl _) hmo hc hall h2 hs (by
    have:=unl_split hall h2 ops.size; omega) (hIJ listed a w hi hall)
  ·have hex:∃ j,j<m∧listed.getD j false=false∧∀ k,k<j→listed.getD k false=true:=by
    have key:∀ b,(∀ k,k<b→listed.getD k false=true)∨∃ j,j<b∧listed.getD j false=false∧∀ k,k<j→listed.getD k false=true:=by
     intro b
     induction b with
     | zero=>exact .inl (fun k hk=>by omega)
     | succ b ihb =>
      rcases ihb with h | ⟨j,hj,h⟩
      ·cases hb:listed.getD b false with
       | true=>exact .inl (fun k hk=>by
        by_cases e:k=b
        ·subst e; exact hb
        ·exact h k (by omega))
       | false=>exact .inr ⟨b,by omega,hb,h⟩
      ·exact .inr ⟨j,by omega,h⟩
    rcases key m with h | h
    ·exact absurd h hall
    ·exact h
   obtain ⟨j0,hj0,hu0,hlt0⟩:=hex
   have hr0:=ready_of (j:=j0) hs (by omega) hu0 (fun k hk=>hlt0 k (hdep j0 k hk))
   refine ⟨fun hr=>(by rw [hr] at hr0; cases hr0),fun i hii=>?_⟩
   obtain ⟨g1,g2⟩:=ready_un hs hii
   have him:i<m:=by
    refine Nat.lt_of_not_le fun hge=>?_
    obtain ⟨k,hk⟩:=hseq i hge g1 j0 (by omega)
    have:=before_listed k hc (ready_deps hii) hk
    rw [hu0] at this; cases this
   refine wpOp_mono (fun a' w' hi'=>ih _ a' w' (hc.set hii) (fun j hj=>?_) (by simpa using hs) ?_ hi') (hI listed a w i hi hc hii him)
   ·rw [getD_set_ne false (by omega)]; exact h2 j hj
   ·have:=unl_set (l:=listed) (i:=i) (by omega) g2 ops.size
    rw [if_pos g1] at this
    omega
end
end Go.V
namespace Go.V
open Go.RowKit
variable {α:Type}
def atsIn (l:List Nat) (d:D):Bool:=allB (fun rp=>mem l rp.1) d.ats
theorem atsIn_spec {l:List Nat} {d:D} (h:atsIn l d=true):∀ rp∈d.ats,rp.1∈l:=fun rp hrp=>(mem_iff _ _).1 ((allB_iff _ _).1 h rp hrp)
def weakB (l:List Nat):List CB→List CB
 | []=>[]
 | y :: m=>(match y with
  | .sh u=>.sh u
  | .ow r p e=>match mem l r with
   | true=>.ow r p e
   | false=>.sh .dead) :: weakB l m
theorem weakB_get {l:List Nat}:∀ {m:List CB} {j:Nat} {b:CB},(weakB l m)[j]?=some b→m[j]?=some b∨(b = .sh .dead∧∃ y,m[j]?=some y)
 | [],j,b,h=>by simp [weakB] at h
 | y :: m,0,b,h=>by
  simp only [weakB,List.getElem?_cons_zero,Option.some.injEq] at h
  subst h
  cases y with
  | sh u=>exact .inl rfl
  | ow r p e =>
   simp only [List.getElem?_cons_zero]
   cases mem l r with
   | true=>exact .inl rfl
   | false=>exact .inr ⟨rfl,_,rfl⟩
 | y :: m,j+1,b,h=>by
  simp only [weakB,List.getElem?_cons_succ] at h ⊢
  exact weakB_get h
def weakD (l:List Nat) (d:D):D:=match d with
 | .v v=>match v with
  | .c y=>match y with
   | .cb cs j=>.v (.c (.cb (weakB l cs) j))
   | z=>.v (.c z)
  | .ag cs=>.v (.ag cs)
 | .tup xs=>.tup xs
theorem RepD.weak {w:World} {s:Sit} {l:List Nat} {d:D} {v:Value} (h:RepD w s d v):RepD w s (weakD l d) v:=by
 unfold weakD
 split
 ·split
  ·split
   ·cases h with
    | v _ _ h=>cases h with
     | c _ _ h=>cases h with
      | cb _ _ b vs hR hc ht ho =>
       refine .v _ _ (.c _ _ (.cb _ _ b vs hR (fun j y e=>?_) (fun j t e=>?_) (fun j r p e he=>?_)))
       ·rcases weakB_get e with e | ⟨-,y',e⟩
        ·exact hc j y e
        ·exact hc j y' e
       ·rcases weakB_get e with e | ⟨e,-⟩
        ·exact ht j t e
        ·simp only [CB.sh.injEq] at e
         subst e
         exact .dead _
       ·rcases weakB_get he with he | ⟨he,-⟩
        ·exact ho j r p e he
        ·cases he
   ·exact h
  ·exact h
 ·exact h
def keepE (kr:List Nat) (env:List (Nat×D)):List Nat→List (Nat×D)
 | []=>[]
 | k :: kt=>match look env k with
  | some d=>match atsIn kr (weakD kr d) with
   | true=>(k,weakD kr d) :: keepE kr env kt
   | false=>keepE kr env kt
  | none=>keepE kr env kt
theorem keepE_some {kr:List Nat} {env:List (Nat×D)}:∀ {kt:List Nat} {k:Nat} {d:D},look (keepE kr env kt) k=some d→k∈kt∧(∃ d0,look env k=some d0∧d=weakD kr d0)∧atsIn kr d=true
 | [],k,d,h=>by cases h
 | k0 :: kt,k,d,h=>by
  unfold keepE at h
  split at h
  ·rename_i d0 hd0
   split at h
   ·rename_i ha
    rw [look_cons] at h
    by_cases e:k=k0
    ·rw [if_pos e,Option.some.injEq] at h
     subst e h
     exact ⟨List.mem_cons_self,⟨_,hd0,rfl⟩,ha⟩
    ·rw [if_neg e] at h
     have:=keepE_some h
     exact ⟨List.mem_cons_of_mem _ this.1,this.2⟩
   ·have:=keepE_some h
    exact ⟨List.mem_cons_of_mem _ this.1,this.2⟩
  ·have:=keepE_some h
   exact ⟨List.mem_cons_of_mem _ this.1,this.2⟩
def keepR (roots:List (Nat×List T)):List Nat→List (Nat×List T)
 | []=>[]
 | k :: kr=>match look roots k with
  | some r=>(k,r) :: keepR roots kr
  | none=>keepR roots kr
theorem keepR_some {roots:List (Nat×List T)}:∀ {kr:List Nat} {k:Nat} {r:List T},look (keepR roots kr) k=some r→k∈kr∧look roots k=some r
 | [],k,r,h=>by cases h
 | k0 :: kr,k,r,h=>by
  unfold keepR at h
  split at h
  ·rename_i r0 hr0
   rw [look_cons] at h
   by_cases e:k=k0
   ·rw [if_pos e,Option.some.injEq] at h
    subst e h
    exact ⟨List.mem_cons_self,hr0⟩
   ·rw [if_neg e] at h
    have:=keepR_some h
    exact ⟨List.mem_cons_of_mem _ this.1,this.2⟩
  ·have:=keepR_some h
   exact ⟨List.mem_cons_of_mem _ this.1,this.2⟩
def lockAll:List Nat→List (Nat×List Nat)→List (Nat×List Nat)
 | [],l=>l
 | r :: rs,l=>(r,[]) :: lockAll rs l
theorem lockAll_mem {rs:List Nat} {l:List (Nat×List Nat)} {e:Nat×List Nat}:e∈lockAll rs l↔(e.2=[]∧e.1∈rs)∨e∈l:=by
 induction rs with
 | nil=>simp [lockAll]
 | cons r rs ih =>
  simp only [lockAll,List.mem_cons,ih]
  constructor
  ·rintro (rfl | h | h)
   ·exact .inl ⟨rfl,.inl rfl⟩
   ·exact .inl ⟨h.1,.inr h.2⟩
   ·exact .inr h
  ·rintro (⟨h1,rfl | h2⟩ | h)
   ·obtain ⟨e1,e2⟩:=e; simp only at h1; subst h1; exact .inl rfl
   ·exact .inr (.inl ⟨h1,h2⟩)
   ·exact .inr (.inr h)
def X.enter (x:X) (kt kr:List Nat):X:={ x with lock:=lockAll kr x.lock,pin:=app kt x.pin }
def dirtAll (kr:List Nat):List Nat→List (Nat×List Nat)→List (Nat×List Nat)
 | [],l=>l
 | r :: mu,l=>match mem kr r with
  | true=>dirtAll kr mu l
  | false=>(r,[]) :: dirtAll kr mu l
theorem dirtAll_mem {kr:List Nat} {l:List (Nat×List Nat)}:∀ {mu:List Nat},(∀ r∈mu,r∉kr→(r,[])∈dirtAll kr mu l)∧∀ e∈l,e∈dirtAll kr mu l
 | []=>⟨fun r h=>by simp at h,fun e h=>h⟩
 | r0 :: mu=>by
  obtain ⟨h1,h2⟩:=dirtAll_mem (kr:=kr) (l:=l) (mu:=mu)
  unfold dirtAll
  split
  ·rename_i hm
   refine ⟨fun r hr hn=>?_,h2⟩
   rcases List.mem_cons.1 hr with rfl | hr
   ·exact absurd ((mem_iff _ _).1 hm) hn
   ·exact h1 r hr hn
  ·refine ⟨fun r hr hn=>?_,fun e he=>List.mem_cons_of_mem _ (h2 e he)⟩
   rcases List.mem_cons.1 hr with rfl | hr
   ·exact List.mem_cons_self
   ·exact List.mem_cons_of_mem _ (h1 r hr hn)
def X.leave (x:X) (mu kt kr:List Nat) (E:List (Nat×D)) (R:List (Nat×List T)):X :=
 { env:=app E (keepE kr x.env kt),roots:=app R (keepR x.roots kr),lock:=x.lock,pin:=x.pin,dirt:=dirtAll kr mu x.dirt }
section
variable {c:Ctx} {B:Base} {s:Sit} {x:X} {a:Act} {w:World}
def Base.inner (B:Base) (s:Sit) (x:X) (a:Act) (w:World):Base where
 nt:=B.nt
 out:=B.out
 w0:=w
 O0:=fun b=>∃ r p y,s.Φ r p=some y∧blkOf y=some b
 R0:=s.S .ro
 B0:=s.S .bo
 G:=B.G
 F:=B.F
 muts:=[]
 Φ0:=s.Φ
 LC:=fun r d=>x.at r (zp d)
 LΦ:=fun r d=>(s.Φ r).under (zp d)
 PV:=fun k=>(B.tv a k).getD .nilIface
theorem RelW.enter (h:RelW B s x a w) {kt kr:List Nat} (hk:allB (fun k=>isSomeB (look x.env k)) kt=true):RelW (B.inner s x a w) s (x.enter kt kr) a w where
 defers:=h.defers
 size:=h.size
 env:=h.env
 roots:=h.roots
 rootn:=h.rootn
 inj:=h.inj
 own:=fun r p y b e1 e2=>by
  have:=h.own r p y b e1 e2
  exact ⟨this.1,this.2.1,.inl ⟨r,p,y,e1,e2⟩⟩
 slt:=h.slt
 sown:=h.sown
 sro:=fun b hb=>hb
 srn:=fun b hb=>.inl hb
 sbo:=fun b hb=>hb
 srb:=h.srb
 sbn:=fun b hb=>.inl hb
 F:=h.F
 os:=rfl
 tape:=rfl
 output:=rfl
 grow:=Nat.le_refl _
 kept:=fun _ _ _=>rfl
 glob:=h.glob
 pins:=fun k hk'=>by
  simp only [X.enter,app_eq,List.mem_append] at hk'
  have:∃ v,B.tv a k=some v:=by
   rcases hk' with hk' | hk'
   ·have:=(allB_iff _ _).1 hk k hk'
    unfold isSomeB at this
    split at this
    ·rename_i d hd
     obtain ⟨v,h1,_⟩:=h.env k d hd
     exact ⟨v,h1⟩
    ·cases this
   ·exact ⟨_,h.pins k hk'⟩
  obtain ⟨v,hv⟩:=this
  show B.tv a k=some ((B.tv a k).getD .nilIface)
  rw [hv]; rfl
 locks:=fun r d _=>⟨rfl,rfl⟩
 dirt:=fun r hr=>by simp [Base.inner] at hr
theorem RelW.leave (h:RelW B s x a w) {mu kt kr:List Nat} (hmu:B.muts=mu) {s2:Sit} {x2:X} {a2:Act} {w2:World} (h2:RelW (B.inner s x a w) s2 x2 a2 w2)
 (hlk:∀ r∈kr,(r,[])∈x2.lock) (hpn:∀ k∈kt,k∈x2.pin) (hlo:∀ e∈x.lock,e∈x2.lock) (hpo:∀ k∈x.pin,k∈x2.pin)
 {E:List (Nat×D)} {R:List (Nat×List T)} (hE:∀ k d,look E k=some d→look x2.env k=some d∧∀ rp∈d.ats,(look R rp.1).isSome=true∨rp.1∈kr)
 (hR:∀ k r,look R k=some r→look x2.roots k=some r∧k∉kr) (hx:∀ e∈x.lock,(look R e.1).isSome=true∨e.1∈kr) :
 ∃ s',RelW B s' (x.leave mu kt kr E R) a2 w2∧RelW (B.inner s x a w) s' ((x.leave mu kt kr E R).enter kt kr) a2 w2:=by
 have hSS:∀ f b,s.S f b→s2.S f b:=by
  intro f b hS
  cases f with
  | own=>exact absurd hS (h.sown b)
  | ro=>exact h2.sro b hS
  | bo=>exact h2.sbo b hS
 have hwS:∀ f b,s.S f b→w2.heap[b]?=w.heap[b]?:=by
  intro f b hS
  refine h2.kept b (h.slt f b hS) (fun hO=>?_)
  obtain ⟨r,p,y,e1,e2⟩:=hO
  exact (h.own r p y b e1 e2).1 f hS
 have hKR:∀ r∈kr,x2.at r []=x.at r []∧s2.Φ r=s.Φ r:=by
  intro r hr
  obtain ⟨e1,e2⟩:=h2.locks r [] (hlk r hr)
  exact ⟨e1,by funext p; have:=congrFun e2 p; simpa [Lay.under,zp,Base.inner] using this⟩
 have hrow:∀ r∈kr,∀ row,look x.roots r=some row→look x2.roots r=some row:=by
  intro r hr row hrow
  have:=(hKR r hr).1
  simp only [X.at,hrow,Option.bind_some,getT] at this
  cases h3:look x2.roots r with
  | none=>rw [h3] at this; cases this
  | some row2 =>
   rw [h3,Option.bind_some,Option.some.injEq,T.vr.injEq] at this
   rw [this]
 let nm:Nat→Prop:=fun r=>(look (x.leave mu kt kr E R).roots r).isSome=true
 let s':Sit:={ s2 with Φ:=fun r=>if (look (x.leave mu kt kr E R).roots r).isSome=true then s2.Φ r else noLay }
 have hΦsub:∀ r p z,s'.Φ r p=some z→s2.Φ r p=some z:=by
  intro r p z hz
  simp only [s'] at hz
  split at hz
  ·exact hz
  ·cases hz
 have hΦin:∀ r,nm r→s'.Φ r=s2.Φ r:=fun r hr=>by simp only [s']; rw [if_pos hr]
 have hroots:∀ r row,look (x.leave mu kt kr E R).roots r=some row→look x2.roots r=some row:=by
  intro r row hr
  simp only [X.leave,look_app] at hr
  split at hr
  ·rename_i row' hr'
   simp only [Option.some.injEq] at hr
   subst hr
   exact (hR r _ hr').1
  ·obtain ⟨e1,e2⟩:=keepR_some hr
   exact hrow r e1 row e2
 have hnmR:∀ r,(look R r).isSome=true→nm r:=by
  intro r hr
  simp only [nm,X.leave,look_app]
  cases h3:look R r with
  | none=>rw [h3] at hr; cases hr
  | some=>rfl
 have keepR_in:∀ {kr':List Nat} {r:Nat} {row:List T},r∈kr'→look x.roots r=some row→(look (keepR x.roots kr') r).isSome=true:=by
  intro kr'
  induction kr' with
  | nil=>intro r row hr; simp at hr
  | cons k0 kr' ih =>
   intro r row hr hrow
   unfold keepR
   rcases List.mem_cons.1 hr with rfl | hr
   ·rw [hrow]; simp [look_cons]
   ·split
    ·rw [look_cons]
     split
     ·rfl
     ·exact ih hr hrow
    ·exact ih hr hrow
 have hnmK:∀ r∈kr,nm r∨s2.Φ r=noLay:=by
  intro r hr
  cases h3:look x.roots r with
  | none=>exact .inr (by rw [(hKR r hr).2]; exact h.rootn r h3)
  | some row =>
   refine .inl ?_
   simp only [nm,X.leave,look_app]
   cases h4:look R r with
   | some=>rfl
   | none=>exact keepR_in hr h3
 have hΦK:∀ r∈kr,s'.Φ r=s.Φ r:=by
  intro r hr
  rcases hnmK r hr with h3 | h3
  ·rw [hΦin r h3]; exact (hKR r hr).2
  ·have e:s.Φ r=noLay:=by rw [← (hKR r hr).2]; exact h3
   rw [e]
   simp only [s']
   split
   ·exact h3
   ·rfl
 have hlook:∀ r,((look R r).isSome=true∨r∈kr)→look (x.leave mu kt kr E R).roots r=look x2.roots r∧s'.Φ r=s2.Φ r:=by
  intro r hcase
  rcases hcase with hc | hc
  ·refine ⟨?_,hΦin r (hnmR r hc)⟩
   cases h5:look R r with
   | none=>rw [h5] at hc; cases hc
   | some row =>
    rw [(hR r row h5).1]
    simp only [X.leave,look_app,h5]
  ·refine ⟨?_,by rw [hΦK r hc,(hKR r hc).2]⟩
   cases h5:look x.roots r with
   | none =>
    have h6:look x2.roots r=none:=by
     have:=(hKR r hc).1
     simp only [X.at,h5,Option.bind_none] at this
     cases h7:look x2.roots r with
     | none=>rfl
     | some row=>rw [h7,Option.bind_some,getT] at this; cases this
    rw [h6]
    cases h7:look (x.leave mu kt kr E R).roots r with
    | none=>rfl
    | some row=>have:=hroots r row h7; rw [h6] at this; cases this
   | some row =>
    have h6:=hrow r hc row h5
    rw [h6]
    cases h7:look (x.leave mu kt kr E R).roots r with
    | none =>
     simp only [X.leave,look_app] at h7
     cases h9:look R r with
     | some row'=>rw [h9] at h7; cases h7
     | none =>
      rw [h9] at h7
      change look (keepR x.roots kr) r=none at h7
      have:=keepR_in hc h5
      rw [h7] at this; cases this
    | some row'=>have:=hroots r row' h7; rw [h6] at this; exact this.symm
 have hA:RelW B s' (x.leave mu kt kr E R) a2 w2:={
  defers:=h2.defers
  size:=h2.size
  env:=fun k d hd=>by
   simp only [X.leave,look_app] at hd
   split at hd
   ·rename_i d' hd'
    simp only [Option.some.injEq] at hd
    subst hd
    obtain ⟨e1,e2⟩:=hE k _ hd'
    obtain ⟨v,g1,g2⟩:=h2.env k _ e1
    refine ⟨v,g1,g2.mono (fun _ _ _=>rfl) (fun _ _ h=>h) rfl (fun rp hrp=>?_)⟩
    rcases e2 rp hrp with e3 | e3
    ·rw [hΦin _ (hnmR _ e3)]
    ·rw [hΦK _ e3,← (hKR _ e3).2]
   ·obtain ⟨e1,⟨d0,e2,rfl⟩,e3⟩:=keepE_some hd
    obtain ⟨v,g1,g2⟩:=h.env k d0 e2
    have hp:B.tv a2 k=some ((B.tv a k).getD .nilIface):=h2.pins k (hpn k e1)
    rw [g1,Option.getD_some] at hp
    exact ⟨v,hp,g2.weak.mono hwS hSS (h2.F.trans h.F.symm) (fun rp hrp=>by rw [hΦK _ (atsIn_spec e3 rp hrp)])⟩
  roots:=fun r row hr=>by
   obtain ⟨y,hy⟩:=h2.roots r row (hroots r row hr)
   have:s'.Φ r=s2.Φ r:=hΦin r (by simp only [nm,hr]; rfl)
   exact ⟨y,by rw [this]; exact hy⟩
  rootn:=fun r hr=>by simp only [s',hr]; rfl
  inj:=fun r p y r' p' y' b e1 e2 e3 e4=>h2.inj _ _ _ _ _ _ _ (hΦsub _ _ _ e1) e2 (hΦsub _ _ _ e3) e4
  own:=fun r p y b e1 e2=>by
   have:=h2.own r p y b (hΦsub _ _ _ e1) e2
   refine ⟨this.1,this.2.1,?_⟩
   rcases this.2.2 with ⟨r',p',y',e3,e4⟩ | hge
   ·exact (h.own _ _ _ _ e3 e4).2.2
   ·exact .inr (Nat.le_trans h.grow hge)
  slt:=h2.slt
  sown:=h2.sown
  sro:=fun b hb=>hSS .ro b (h.sro b hb)
  srn:=fun b hb=>by
   rcases h2.srn b hb with hb | ⟨r',p',y',e3,e4⟩ | hge
   ·exact h.srn b hb
   ·exact .inr (h.own _ _ _ _ e3 e4).2.2
   ·exact .inr (.inr (Nat.le_trans h.grow hge))
  sbo:=fun b hb=>hSS .bo b (h.sbo b hb)
  srb:=h2.srb
  sbn:=fun b hb=>by
   rcases h2.sbn b hb with hb | hb
   ·exact (h.sbn b hb).imp id (hSS .ro b)
   ·exact .inr hb
  F:=h2.F
  os:=h2.os.trans h.os
  tape:=h2.tape.trans h.tape
  output:=h2.output.trans h.output
  grow:=Nat.le_trans h.grow h2.grow
  kept:=fun b e1 e2=>by
   rw [h2.kept b (Nat.lt_of_lt_of_le e1 h.grow) (fun hO=>by
    obtain ⟨r,p,y,e3,e4⟩:=hO
    rcases (h.own _ _ _ _ e3 e4).2.2 with e5 | e5
    ·exact e2 e5
    ·omega)]
   exact h.kept b e1 e2
  glob:=h2.glob
  pins:=fun k hk=>by
   have hp:B.tv a2 k=some ((B.tv a k).getD .nilIface):=h2.pins k (hpo k hk)
   rw [h.pins k hk,Option.getD_some] at hp
   exact hp
  locks:=fun r d hd=>by
   obtain ⟨e1,e2⟩:=h2.locks r d (hlo _ hd)
   obtain ⟨e3,e4⟩:=h.locks r d hd
   have hl:=hlook r (hx _ hd)
   refine ⟨?_,?_⟩
   ·rw [← e3]
    have:x2.at r (zp d)=x.at r (zp d):=e1
    rw [← this]
    simp only [X.at,hl.1]
   ·rw [← e4,hl.2]; exact e2
  dirt:=fun r hr p hp=>by
   rw [hmu] at hr
   have hm:=dirtAll_mem (kr:=kr) (l:=x.dirt) (mu:=mu)
   by_cases hk:r∈kr
   ·rw [hΦK r hk]
    exact h.dirt r (by rw [hmu]; exact hr) p (fun d hd=>hp d (hm.2 _ hd))
   ·have:=hp [] (hm.1 r hr hk)
    simp [pre] at this }
 exact ⟨s',hA,{
  defers:=hA.defers
  size:=hA.size
  env:=hA.env
  roots:=hA.roots
  rootn:=hA.rootn
  inj:=hA.inj
  own:=fun r p y b e1 e2=>h2.own r p y b (hΦsub _ _ _ e1) e2
  slt:=hA.slt
  sown:=hA.sown
  sro:=h2.sro
  srn:=h2.srn
  sbo:=h2.sbo
  srb:=hA.srb
  sbn:=h2.sbn
  F:=h2.F
  os:=h2.os
  tape:=h2.tape
  output:=h2.output
  grow:=h2.grow
  kept:=h2.kept
  glob:=hA.glob
  pins:=fun k hk=>by
   simp only [X.enter,app_eq,List.mem_append] at hk
   rcases hk with hk | hk
   ·exact h2.pins k (hpn k hk)
   ·exact h2.pins k (hpo k hk)
  locks:=fun r d hd=>by
   have hd':(r,d)∈x2.lock∧((look R r).isSome=true∨r∈kr):=by
    rcases lockAll_mem.1 hd with ⟨e1,e2⟩ | e1
    ·simp only at e1 e2
     subst e1
     exact ⟨hlk r e2,.inr e2⟩
    ·exact ⟨hlo _ e1,hx _ e1⟩
   obtain ⟨e1,e2⟩:=h2.locks r d hd'.1
   have hl:=hlook r hd'.2
   refine ⟨?_,by rw [hl.2]; exact e2⟩
   rw [← e1]
   simp only [X.at,X.enter,hl.1]
  dirt:=fun r hr=>by simp [Base.inner] at hr }⟩
end
end Go.V
namespace Go.V
open Go.RowKit
variable {α:Type}
inductive CS where
 | int (k:IntKind)
 | bool
 | str
 | sh (f:Fl) (e:Ty)
 | shp (f:Fl) (e:Ty)
 | rq (f:Fl) (e:Ty) (j:Nat)
 | own (r:Nat) (p:Path) (e:Ty)
 | pt (r:Nat) (p:Path) (i j sz:Nat)
 | nil
 | dead
 | fn (a r:Ty)
 | sub (r:Nat) (p:Path) (e:Ty)
 | ptx (r:Nat) (js:List (Option Nat×Nat)) (j sz:Nat)
 | ownx (r:Nat) (js:List (Option Nat×Nat)) (e:Ty)
 | subx (r:Nat) (js:List (Option Nat×Nat)) (e:Ty)
 | fnp (f:FuncId) (caps:List (Nat×Path))
 | ifc
def idxTy:Option Nat→Ty
 | none=>.nat
 | some _=>.unit
def idxOf:(o:Option Nat)→den (idxTy o)→Nat
 | none,d=>d
 | some i,_=>i
def idxIn:(o:Option Nat)→Nat→Option (den (idxTy o))
 | none,i=>some i
 | some k,i=>match Nat.beq i k with
  | true=>some ()
  | false=>none
theorem idxIn_of {o:Option Nat} {i:Nat} {d:den (idxTy o)} (h:idxIn o i=some d):idxOf o d=i:=by
 cases o with
 | none=>exact (Option.some.inj h).symm
 | some k =>
  unfold idxIn at h
  simp only at h
  split at h
  ·rename_i hb; exact (Nat.eq_of_beq_eq_true hb).symm
  ·cases h
def natsTy:List (Option Nat×Nat)→Ty
 | []=>.unit
 | e :: l=>.pair (idxTy e.1) (natsTy l)
def zipN:(js:List (Option Nat×Nat))→den (natsTy js)→Path
 | [],_=>[]
 | e :: l,d=>(idxOf e.1 d.1,e.2) :: zipN l d.2
def rowsN:(js:List (Option Nat×Nat))→Path→Option (den (natsTy js))
 | [],p=>match p with
  | []=>some ()
  | _ :: _=>none
 | j :: l,p=>match p with
  | e :: p=>match Nat.beq e.2 j.2 with
   | true=>(idxIn j.1 e.1).bind fun i=>(rowsN l p).map fun d=>(i,d)
   | false=>none
  | []=>none
theorem rowsN_zip:∀ {js:List (Option Nat×Nat)} {p:Path} {d:den (natsTy js)},rowsN js p=some d→zipN js d=p
 | [],p,d,h=>by
  unfold rowsN at h
  split at h
  ·rfl
  ·cases h
 | j :: l,p,d,h=>by
  unfold rowsN at h
  split at h
  ·split at h
   ·rename_i e p' _ hb
    obtain ⟨i,h0,h⟩:=Option.bind_eq_some_iff.mp h
    obtain ⟨d',h1,h2⟩:=Option.map_eq_some_iff.mp h
    subst h2
    show (idxOf j.1 i,j.2) :: zipN l d'=e :: p'
    rw [rowsN_zip h1,idxIn_of h0,← Nat.eq_of_beq_eq_true hb]
   ·cases h
  ·cases h
def CS.ty:CS→Ty
 | .int k=>.int k
 | .bool=>.bool
 | .str=>.str
 | .sh _ e=>.sl e
 | .shp _ e=>e
 | .rq _ e _=>e
 | .fn a r=>.fn a r
 | .sub _ _ _=>.pair .nat .nat
 | .ptx _ js _ _=>.pair (natsTy js) .nat
 | .ownx _ js _=>natsTy js
 | .subx _ js _=>.pair (natsTy js) (.pair .nat .nat)
 | .ifc=>.bool
 | _=>.unit
def capsEq:List (Nat×Path)→List (Nat×Path)→Bool
 | [],[]=>true
 | a :: l,b :: m=>and (Nat.beq a.1 b.1) (and (pathEqq a.2 b.2) (capsEq l m))
 | _,_=>false
where pathEqq:Path→Path→Bool
 | [],[]=>true
 | a :: p,b :: q=>and (Nat.beq a.1 b.1) (and (Nat.beq a.2 b.2) (pathEqq p q))
 | _,_=>false
theorem pathEqq_eq:∀ {p q:Path},capsEq.pathEqq p q=true→p=q
 | [],[],_=>rfl
 | (a1,a2) :: p,(b1,b2) :: q,h=>by
  simp only [capsEq.pathEqq,Bool.and_eq_true] at h
  rw [pathEqq_eq h.2.2,Nat.eq_of_beq_eq_true h.1,Nat.eq_of_beq_eq_true h.2.1]
 | [],_ :: _,h=>by cases h
 | _ :: _,[],h=>by cases h
theorem capsEq_eq:∀ {l m:List (Nat×Path)},capsEq l m=true→l=m
 | [],[],_=>rfl
 | (a1,a2) :: l,(b1,b2) :: m,h=>by
  simp only [capsEq,Bool.and_eq_true] at h
  rw [Nat.eq_of_beq_eq_true h.1,pathEqq_eq h.2.1,capsEq_eq h.2.2]
 | [],_ :: _,h=>by cases h
 | _ :: _,[],h=>by cases h
def pathEq:Path→Path→Bool
 | [],[]=>true
 | a :: p,b :: q=>and (Nat.beq a.1 b.1) (and (Nat.beq a.2 b.2) (pathEq p q))
 | _,_=>false
theorem pathEq_eq:∀ {p q:Path},pathEq p q=true→p=q
 | [],[],_=>rfl
 | a :: p,b :: q,h=>by
  simp only [pathEq,Bool.and_eq_true] at h
  rw [pathEq_eq h.2.2]
  have h1:=Nat.eq_of_beq_eq_true h.1
  have h2:=Nat.eq_of_beq_eq_true h.2.1
  obtain ⟨a1,a2⟩:=a
  obtain ⟨b1,b2⟩:=b
  simp only at h1 h2
  rw [h1,h2]
 | [],_ :: _,h=>by simp [pathEq] at h
 | _ :: _,[],h=>by simp [pathEq] at h
def fillC:(s:CS)→den s.ty→C
 | .int k=>fun n=>.k (.v (.int k n))
 | .bool=>fun b=>.k (.v (.bool b))
 | .str=>fun l=>.k (.v (.string ⟨⟨l⟩⟩))
 | .sh f e=>fun xs=>.k (.sl f e xs)
 | .shp f e=>fun d=>.k (.pt f e d)
 | .rq f e j=>fun d=>.rq f (cells f e d) j
 | .own r p e=>fun _=>.own r p e
 | .pt r p i j sz=>fun _=>.pt r p i j sz
 | .nil=>fun _=>.nil
 | .dead=>fun _=>.k .dead
 | .fn a r=>fun g=>.fn a r g
 | .sub r p e=>fun d=>.sub r p d.1 d.2 e
 | .ptx r js j sz=>fun d=>.pt r (zipN js d.1) d.2 j sz
 | .ownx r js e=>fun d=>.own r (zipN js d) e
 | .subx r js e=>fun d=>.sub r (zipN js d.1) d.2.1 d.2.2 e
 | .fnp f caps=>fun _=>.fnp f caps
 | .ifc=>fun b=>.k (.ifc b)
def matchC:(s:CS)→C→Option (den s.ty)
 | .int k=>fun y=>match y with
  | .k (.v (.int k' n))=>if kindEq k' k=true then some n else none
  | _=>none
 | .bool=>fun y=>match y with
  | .k (.v (.bool b))=>some b
  | _=>none
 | .str=>fun y=>match y with
  | .k (.v (.string s))=>some s.data.toList
  | _=>none
 | .sh f e=>fun y=>match y with
  | .k (.sl f' e' xs)=>if flEq f' f=true then cast? (.sl e') (.sl e) xs else none
  | _=>none
 | .shp f e=>fun y=>match y with
  | .k (.pt f' e' d)=>if flEq f' f=true then cast? e' e d else none
  | _=>none
 | .rq f e j=>fun y=>match y with
  | .rq f' cs j'=>if and (flEq f' f) (Nat.beq j' j)=true then packAll f e cs else none
  | _=>none
 | .own r p e=>fun y=>match y with
  | .own r' p' e'=>if and (Nat.beq r' r) (and (pathEq p' p) (e'.beq e))=true then some () else none
  | _=>none
 | .pt r p i j sz=>fun y=>match y with
  | .pt r' p' i' j' sz'=>if and (Nat.beq r' r) (and (pathEq p' p) (and (Nat.beq i' i) (and (Nat.beq j' j) (Nat.beq sz' sz))))=true then some () else none
  | _=>none
 | .ifc=>fun y=>match y with
  | .k (.ifc b)=>some b
  | _=>none
 | .nil=>fun y=>match y with
  | .nil=>some ()
  | _=>none
 | .dead=>fun y=>match y with
  | .k .dead=>some ()
  | _=>none
 | .fn a r=>fun y=>match y with
  | .fn a' r' g=>cast? (.fn a' r') (.fn a r) g
  | _=>none
 | .sub r p e=>fun y=>match y with
  | .sub r' p' lo n e'=>if and (Nat.beq r' r) (and (pathEq p' p) (e'.beq e))=true then some (lo,n) else none
  | _=>none
 | .ptx r js j sz=>fun y=>match y with
  | .pt r' p' i' j' sz'=>if and (Nat.beq r' r) (and (Nat.beq j' j) (Nat.beq sz' sz))=true then (rowsN js p').map fun d=>(d,i') else none
  | _=>none
 | .ownx r js e=>fun y=>match y with
  | .own r' p' e'=>if and (Nat.beq r' r) (e'.beq e)=true then rowsN js p' else none
  | _=>none
 | .subx r js e=>fun y=>match y with
  | .sub r' p' lo n e'=>if and (Nat.beq r' r) (e'.beq e)=true then (rowsN js p').map fun d=>(d,(lo,n)) else none
  | _=>none
 | .fnp f caps=>fun y=>match y with
  | .fnp f' caps'=>if and (Nat.beq f' f) (capsEq caps' caps)=true then some () else none
  | _=>none
theorem ite_some {β:Type} {p:Prop} [Decidable p] {o:Option β} {d:β} (h:(if p then o else none)=some d):p∧o=some d:=by
 by_cases hp:p
 ·rw [if_pos hp] at h; exact ⟨hp,h⟩
 ·rw [if_neg hp] at h; cases h
theorem matchC_fill:∀ (s:CS) {y:C} {d:den s.ty},matchC s y=some d→fillC s d=y:=by
 intro s y d h
 cases s with
 | int k =>
  simp only [matchC] at h
  split at h
  ·split at h
   ·rename_i hk; cases h; rw [kindEq_eq hk]; rfl
   ·cases h
  ·cases h
 | bool =>
  simp only [matchC] at h
  split at h
  ·cases h; rfl
  ·cases h
 | str =>
  simp only [matchC] at h
  split at h
  ·cases h; rfl
  ·cases h
 | sh f e =>
  simp only [matchC] at h
  split at h
  ·obtain ⟨hf,h2⟩:=ite_some h
   obtain ⟨he,h3⟩:=cast?_some h2
   cases he
   subst h3
   rw [flEq_eq hf]; rfl
  ·cases h
 | shp f e =>
  simp only [matchC] at h
  split at h
  ·obtain ⟨hf,h2⟩:=ite_some h
   obtain ⟨he,h3⟩:=cast?_some h2
   subst he
   subst h3
   rw [flEq_eq hf]; rfl
  ·cases h
 | rq f e j =>
  simp only [matchC] at h
  split at h
  ·obtain ⟨hf,h2⟩:=ite_some h
   simp only [Bool.and_eq_true] at hf
   have h1:=packAll_some h2
   rw [h1,flEq_eq hf.1,Nat.eq_of_beq_eq_true hf.2]; rfl
  ·cases h
 | own r p e =>
  simp only [matchC] at h
  split at h
  ·split at h
   ·rename_i hf
    simp only [Bool.and_eq_true] at hf
    rw [Nat.eq_of_beq_eq_true hf.1,pathEq_eq hf.2.1,Ty.beq_eq hf.2.2]; rfl
   ·cases h
  ·cases h
 | pt r p i j sz =>
  simp only [matchC] at h
  split at h
  ·split at h
   ·rename_i hf
    simp only [Bool.and_eq_true] at hf
    rw [Nat.eq_of_beq_eq_true hf.1,pathEq_eq hf.2.1,Nat.eq_of_beq_eq_true hf.2.2.1,Nat.eq_of_beq_eq_true hf.2.2.2.1,Nat.eq_of_beq_eq_true hf.2.2.2.2]; rfl
   ·cases h
  ·cases h
 | ifc =>
  simp only [matchC] at h
  split at h
  ·cases h; rfl
  ·cases h
 | nil =>
  simp only [matchC] at h
  split at h
  ·rfl
  ·cases h
 | dead =>
  simp only [matchC] at h
  split at h
  ·rfl
  ·cases h
 | fn a r =>
  cases y with
  | fn a' r' g =>
   have h:cast? (.fn a' r') (.fn a r) g=some d:=h
   obtain ⟨he,h3⟩:=cast?_some h
   cases he
   subst h3; rfl
  | _=>cases h
 | sub r p e =>
  simp only [matchC] at h
  split at h
  ·split at h
   ·rename_i hf
    simp only [Bool.and_eq_true] at hf
    have h:=Option.some.inj h
    subst h
    rw [Nat.eq_of_beq_eq_true hf.1,pathEq_eq hf.2.1,Ty.beq_eq hf.2.2]; rfl
   ·cases h
  ·cases h
 | ptx r js j sz =>
  simp only [matchC] at h
  split at h
  ·obtain ⟨hf,h2⟩:=ite_some h
   simp only [Bool.and_eq_true] at hf
   obtain ⟨d',h3,h4⟩:=Option.map_eq_some_iff.mp h2
   subst h4
   rw [Nat.eq_of_beq_eq_true hf.1,Nat.eq_of_beq_eq_true hf.2.1,Nat.eq_of_beq_eq_true hf.2.2]
   simp only [fillC,rowsN_zip h3]
  ·cases h
 | ownx r js e =>
  simp only [matchC] at h
  split at h
  ·obtain ⟨hf,h2⟩:=ite_some h
   simp only [Bool.and_eq_true] at hf
   rw [Nat.eq_of_beq_eq_true hf.1,Ty.beq_eq hf.2]
   simp only [fillC,rowsN_zip h2]
  ·cases h
 | subx r js e =>
  simp only [matchC] at h
  split at h
  ·obtain ⟨hf,h2⟩:=ite_some h
   simp only [Bool.and_eq_true] at hf
   obtain ⟨d',h3,h4⟩:=Option.map_eq_some_iff.mp h2
   subst h4
   rw [Nat.eq_of_beq_eq_true hf.1,Ty.beq_eq hf.2]
   simp only [fillC,rowsN_zip h3]
  ·cases h
 | fnp f caps =>
  simp only [matchC] at h
  split at h
  ·split at h
   ·rename_i hf
    simp only [Bool.and_eq_true] at hf
    rw [Nat.eq_of_beq_eq_true hf.1,capsEq_eq hf.2]; rfl
   ·cases h
  ·cases h
def one? {β:Type}:List β→Option β
 | [y]=>some y
 | _=>none
theorem one?_some {β:Type} {l:List β} {y:β} (h:one? l=some y):l=[y]:=by
 unfold one? at h
 split at h
 ·cases h; rfl
 ·cases h
def csTy:List CS→Ty
 | []=>.unit
 | [s]=>s.ty
 | s :: l=>.pair s.ty (csTy l)
def fillCs:(l:List CS)→den (csTy l)→List C
 | [],_=>[]
 | [s],d=>[fillC s d]
 | s :: t :: l,d=>fillC s d.1 :: fillCs (t :: l) d.2
def matchCs:(l:List CS)→List C→Option (den (csTy l))
 | [],ys=>match ys with
  | []=>some ()
  | _ :: _=>none
 | [s],ys=>(one? ys).bind fun y=>matchC s y
 | s :: t :: l,ys=>match ys with
  | y :: ys=>(matchC s y).bind fun d=>(matchCs (t :: l) ys).map fun e=>(d,e)
  | []=>none
theorem matchCs_fill:∀ (l:List CS) {ys:List C} {d:den (csTy l)},matchCs l ys=some d→fillCs l d=ys
 | [],ys,d,h=>by
  unfold matchCs at h
  split at h
  ·rfl
  ·cases h
 | [s],ys,d,h=>by
  obtain ⟨y,h1,h2⟩:=Option.bind_eq_some_iff.mp h
  rw [one?_some h1]
  show [fillC s d]=_
  rw [matchC_fill s h2]
 | s :: t :: l,ys,d,h=>by
  unfold matchCs at h
  split at h
  ·obtain ⟨d1,h1,h2⟩:=Option.bind_eq_some_iff.mp h
   obtain ⟨d2,h3,h4⟩:=Option.map_eq_some_iff.mp h2
   cases h4
   show fillC s d1 :: fillCs (t :: l) d2=_
   rw [matchC_fill s h1,matchCs_fill (t :: l) h3]
  ·cases h
inductive TB where
 | int (k:IntKind)
 | bool
 | str
 | sl (f:Fl) (e:Ty)
 | pt (f:Fl) (e:Ty)
 | bld (t:Nat×Nat)
 | dead
def TB.ty:TB→Ty
 | .int k=>.int k
 | .bool=>.bool
 | .str=>.str
 | .sl _ e=>.sl e
 | .pt _ e=>e
 | .bld t=>.bld t
 | .dead=>.unit
def fillB:(s:TB)→den s.ty→T
 | .int k=>fun n=>.v (.int k n)
 | .bool=>fun b=>.v (.bool b)
 | .str=>fun l=>.v (.string ⟨⟨l⟩⟩)
 | .sl f e=>fun xs=>.sl f e xs
 | .pt f e=>fun d=>.pt f e d
 | .bld t=>fun bs=>.bld t bs
 | .dead=>fun _=>.dead
def matchB:(s:TB)→T→Option (den s.ty)
 | .int k=>fun y=>match y with
  | .v (.int k' n)=>if kindEq k' k=true then some n else none
  | _=>none
 | .bool=>fun y=>match y with
  | .v (.bool b)=>some b
  | _=>none
 | .str=>fun y=>match y with
  | .v (.string s)=>some s.data.toList
  | _=>none
 | .sl f e=>fun y=>match y with
  | .sl f' e' xs=>if flEq f' f=true then cast? (.sl e') (.sl e) xs else none
  | _=>none
 | .pt f e=>fun y=>match y with
  | .pt f' e' d=>if flEq f' f=true then cast? e' e d else none
  | _=>none
 | .bld t=>fun y=>match y with
  | .bld t' bs=>if and (Nat.beq t'.1 t.1) (Nat.beq t'.2 t.2)=true then some bs else none
  | _=>none
 | .dead=>fun y=>match y with
  | .dead=>some ()
  | _=>none
theorem matchB_fill:∀ (s:TB) {y:T} {d:den s.ty},matchB s y=some d→fillB s d=y:=by
 intro s y d h
 cases s with
 | int k =>
  simp only [matchB] at h
  split at h
  ·split at h
   ·rename_i hk; cases h; rw [kindEq_eq hk]; rfl
   ·cases h
  ·cases h
 | bool =>
  simp only [matchB] at h
  split at h
  ·cases h; rfl
  ·cases h
 | str =>
  simp only [matchB] at h
  split at h
  ·cases h; rfl
  ·cases h
 | sl f e =>
  simp only [matchB] at h
  split at h
  ·obtain ⟨hf,h2⟩:=ite_some h
   obtain ⟨he,h3⟩:=cast?_some h2
   cases he
   subst h3
   rw [flEq_eq hf]; rfl
  ·cases h
 | pt f e =>
  simp only [matchB] at h
  split at h
  ·obtain ⟨hf,h2⟩:=ite_some h
   obtain ⟨he,h3⟩:=cast?_some h2
   subst he
   subst h3
   rw [flEq_eq hf]; rfl
  ·cases h
 | bld t =>
  simp only [matchB] at h
  split at h
  ·obtain ⟨hf,h2⟩:=ite_some h
   cases h2
   simp only [Bool.and_eq_true] at hf
   have hf:=Prod.ext (Nat.eq_of_beq_eq_true hf.1) (Nat.eq_of_beq_eq_true hf.2)
   subst hf; rfl
  ·cases h
 | dead =>
  simp only [matchB] at h
  split at h
  ·rfl
  ·cases h
def tbTy:List TB→Ty
 | []=>.unit
 | [s]=>s.ty
 | s :: l=>.pair s.ty (tbTy l)
def fillBs:(l:List TB)→den (tbTy l)→List T
 | [],_=>[]
 | [s],d=>[fillB s d]
 | s :: t :: l,d=>fillB s d.1 :: fillBs (t :: l) d.2
def matchBs:(l:List TB)→List T→Option (den (tbTy l))
 | [],ys=>match ys with
  | []=>some ()
  | _ :: _=>none
 | [s],ys=>(one? ys).bind fun y=>matchB s y
 | s :: t :: l,ys=>match ys with
  | y :: ys=>(matchB s y).bind fun d=>(matchBs (t :: l) ys).map fun e=>(d,e)
  | []=>none
theorem matchBs_fill:∀ (l:List TB) {ys:List T} {d:den (tbTy l)},matchBs l ys=some d→fillBs l d=ys
 | [],ys,d,h=>by
  unfold matchBs at h
  split at h
  ·rfl
  ·cases h
 | [s],ys,d,h=>by
  obtain ⟨y,h1,h2⟩:=Option.bind_eq_some_iff.mp h
  rw [one?_some h1]
  show [fillB s d]=_
  rw [matchB_fill s h2]
 | s :: t :: l,ys,d,h=>by
  unfold matchBs at h
  split at h
  ·obtain ⟨d1,h1,h2⟩:=Option.bind_eq_some_iff.mp h
   obtain ⟨d2,h3,h4⟩:=Option.map_eq_some_iff.mp h2
   cases h4
   show fillB s d1 :: fillBs (t :: l) d2=_
   rw [matchB_fill s h1,matchBs_fill (t :: l) h3]
  ·cases h
inductive Slot where
 | tmp (k:Nat) (s:CS)
 | agg (k:Nat) (l:List CS)
 | box (k:Nat) (l:List TB)
 | row (k:Nat) (l:List TB)
 | nest (k:Nat) (o:Option Ty) (l:List TB)
def Slot.ty:Slot→Ty
 | .tmp _ s=>s.ty
 | .agg _ l=>csTy l
 | .box _ l=>tbTy l
 | .row _ l=>tbTy l
 | .nest _ _ l=>tbTy l
def fillE1:(s:Slot)→den s.ty→List (Nat×D)
 | .tmp k s,d=>[(k,.v (.c (fillC s d)))]
 | .agg k l,d=>[(k,.v (.ag (fillCs l d)))]
 | .box _ _,_=>[]
 | .row _ _,_=>[]
 | .nest _ _ _,_=>[]
def nestT (o:Option Ty) (ts:List T):T:=match o with
 | none=>.pp .own ts
 | some e=>.po e ts
def fillR1:(s:Slot)→den s.ty→List (Nat×List T)
 | .tmp _ _,_=>[]
 | .agg _ _,_=>[]
 | .box k l,d=>[(k,[.pp .own (fillBs l d)])]
 | .row k l,d=>[(k,fillBs l d)]
 | .nest k o l,d=>[(k,[.pp .own [nestT o (fillBs l d)]])]
def D.agg?:D→Option (List C)
 | .v (.ag ys)=>some ys
 | _=>none
theorem D.agg?_some {d:D} {ys:List C} (h:d.agg?=some ys):d = .v (.ag ys):=by
 unfold D.agg? at h
 split at h
 ·cases h; rfl
 ·cases h
theorem D.one_some {d:D} {y:C} (h:d.one=some y):d = .v (.c y):=by
 unfold D.one at h
 split at h
 ·cases h; rfl
 ·cases h
def boxRow?:List T→Option (List T)
 | [.pp .own ts]=>some ts
 | _=>none
theorem boxRow?_some {r ts:List T} (h:boxRow? r=some ts):r=[.pp .own ts]:=by
 unfold boxRow? at h
 split at h
 ·cases h; rfl
 ·cases h
def nestRow? (o:Option Ty):List T→Option (List T)
 | [.pp .own ts]=>match o with
  | none=>some ts
  | some _=>none
 | [.po e ts]=>match o with
  | none=>none
  | some e'=>match e.beq e' with
   | true=>some ts
   | false=>none
 | _=>none
theorem nestRow?_some {o:Option Ty} {r ts:List T} (h:nestRow? o r=some ts):r=[nestT o ts]:=by
 unfold nestRow? at h
 split at h
 ·split at h
  ·cases h; rfl
  ·cases h
 ·split at h
  ·cases h
  ·split at h
   ·rename_i hb
    cases h
    rw [Ty.beq_eq hb]; rfl
   ·cases h
 ·cases h
def match1:(s:Slot)→X→Option (den s.ty)
 | .tmp k s,x=>((look x.env k).bind D.one).bind fun y=>matchC s y
 | .agg k l,x=>((look x.env k).bind D.agg?).bind fun ys=>matchCs l ys
 | .box k l,x=>((look x.roots k).bind boxRow?).bind fun ts=>matchBs l ts
 | .row k l,x=>(look x.roots k).bind fun r=>matchBs l r
 | .nest k o l,x=>(((look x.roots k).bind boxRow?).bind (nestRow? o)).bind fun ts=>matchBs l ts
theorem match1_fill (s:Slot) {x:X} {d:den s.ty} (h:match1 s x=some d) :
 (∀ k e,look (fillE1 s d) k=some e→look x.env k=some e)∧(∀ k r,look (fillR1 s d) k=some r→look x.roots k=some r):=by
 cases s with
 | tmp k s =>
  obtain ⟨y,h0,h2⟩:=Option.bind_eq_some_iff.mp h
  obtain ⟨e,h1,h3⟩:=Option.bind_eq_some_iff.mp h0
  have h3:=D.one_some h3
  subst h3
  refine ⟨fun k' e' he=>?_,fun k' r hr=>by cases hr⟩
  simp only [fillE1,look_cons] at he
  split at he
  ·rename_i hk; subst hk; simp only [Option.some.injEq] at he; subst he; rw [h1,matchC_fill s h2]
  ·cases he
 | agg k l =>
  obtain ⟨y,h0,h2⟩:=Option.bind_eq_some_iff.mp h
  obtain ⟨e,h1,h3⟩:=Option.bind_eq_some_iff.mp h0
  have h3:=D.agg?_some h3
  subst h3
  refine ⟨fun k' e' he=>?_,fun k' r hr=>by cases hr⟩
  simp only [fillE1,look_cons] at he
  split at he
  ·rename_i hk; subst hk; simp only [Option.some.injEq] at he; subst he; rw [h1,matchCs_fill l h2]
  ·cases he
 | box k l =>
  obtain ⟨y,h0,h2⟩:=Option.bind_eq_some_iff.mp h
  obtain ⟨e,h1,h3⟩:=Option.bind_eq_some_iff.mp h0
  have h3:=boxRow?_some h3
  subst h3
  refine ⟨fun k' e' he=>by (cases he),fun k' r hr=>?_⟩
  simp only [fillR1,look_cons] at hr
  split at hr
  ·rename_i hk; subst hk; simp only [Option.some.injEq] at hr; subst hr; rw [h1,matchBs_fill l h2]
  ·cases hr
 | row k l =>
  obtain ⟨e,h1,h2⟩:=Option.bind_eq_some_iff.mp h
  refine ⟨fun k' e' he=>by (cases he),fun k' r hr=>?_⟩
  simp only [fillR1,look_cons] at hr
  split at hr
  ·rename_i hk; subst hk; simp only [Option.some.injEq] at hr; subst hr; rw [h1,matchBs_fill l h2]
  ·cases hr
 | nest k o l =>
  obtain ⟨y,h0,h2⟩:=Option.bind_eq_some_iff.mp h
  obtain ⟨z,h00,h3⟩:=Option.bind_eq_some_iff.mp h0
  obtain ⟨e,h1,h4⟩:=Option.bind_eq_some_iff.mp h00
  have h3:=nestRow?_some h3
  subst h3
  have h4:=boxRow?_some h4
  subst h4
  refine ⟨fun k' e' he=>by (cases he),fun k' r hr=>?_⟩
  simp only [fillR1,look_cons] at hr
  split at hr
  ·rename_i hk; subst hk; simp only [Option.some.injEq] at hr; subst hr; rw [h1,matchBs_fill l h2]
  ·cases hr
def shTy:List Slot→Ty
 | []=>.unit
 | [s]=>s.ty
 | s :: l=>.pair s.ty (shTy l)
def fillE:(l:List Slot)→den (shTy l)→List (Nat×D)
 | [],_=>[]
 | [s],d=>fillE1 s d
 | s :: t :: l,d=>app (fillE1 s d.1) (fillE (t :: l) d.2)
def fillR:(l:List Slot)→den (shTy l)→List (Nat×List T)
 | [],_=>[]
 | [s],d=>fillR1 s d
 | s :: t :: l,d=>app (fillR1 s d.1) (fillR (t :: l) d.2)
def matchX:(l:List Slot)→X→Option (den (shTy l))
 | [],_=>some ()
 | [s],x=>match1 s x
 | s :: t :: l,x=>(match1 s x).bind fun d=>(matchX (t :: l) x).map fun e=>(d,e)
theorem matchX_fill:∀ (l:List Slot) {x:X} {d:den (shTy l)},matchX l x=some d →
 (∀ k e,look (fillE l d) k=some e→look x.env k=some e)∧(∀ k r,look (fillR l d) k=some r→look x.roots k=some r)
 | [],x,d,_=>⟨fun k e h=>by (cases h),fun k r h=>by (cases h)⟩
 | [s],x,d,h=>match1_fill s h
 | s :: t :: l,x,d,h=>by
  obtain ⟨d1,h1,h2⟩:=Option.bind_eq_some_iff.mp h
  obtain ⟨d2,h3,h4⟩:=Option.map_eq_some_iff.mp h2
  cases h4
  obtain ⟨a1,a2⟩:=match1_fill s h1
  obtain ⟨b1,b2⟩:=matchX_fill (t :: l) h3
  refine ⟨fun k e he=>?_,fun k r hr=>?_⟩
  ·have he:look (app (fillE1 s d1) (fillE (t :: l) d2)) k=some e:=he
   rw [look_app] at he
   split at he
   ·rename_i e' he'; simp only [Option.some.injEq] at he; subst he; exact a1 k _ he'
   ·exact b1 k e he
  ·have hr:look (app (fillR1 s d1) (fillR (t :: l) d2)) k=some r:=hr
   rw [look_app] at hr
   split at hr
   ·rename_i e' hr'; simp only [Option.some.injEq] at hr; subst hr; exact a2 k _ hr'
   ·exact b2 k r hr
def rootsOf:List Slot→List Nat
 | []=>[]
 | .box k _ :: l=>k :: rootsOf l
 | .row k _ :: l=>k :: rootsOf l
 | .nest k _ _ :: l=>k :: rootsOf l
 | _ :: l=>rootsOf l
theorem rootsOf_in:∀ (l:List Slot) (d:den (shTy l)) (k:Nat),(k∈rootsOf l↔(look (fillR l d) k).isSome=true)
 | [],d,k=>by simp [rootsOf,fillR,look]
 | [s],d,k=>by
  cases s <;> simp only [rootsOf,fillR,fillR1,look_cons,List.mem_singleton,List.not_mem_nil,look]
  ·simp
  ·simp
  ·split <;> simp_all
  ·split <;> simp_all
  ·split <;> simp_all
 | s :: t :: l,d,k=>by
  have ih:=rootsOf_in (t :: l) d.2 k
  have e:fillR (s :: t :: l) d=app (fillR1 s d.1) (fillR (t :: l) d.2):=rfl
  rw [e,look_app]
  cases s <;> simp only [rootsOf,fillR1,look_cons,look,List.mem_cons]
  ·exact ih
  ·exact ih
  ·split <;> simp_all
  ·split <;> simp_all
  ·split <;> simp_all
end Go.V
namespace Go.V
open Go.RowKit
variable {α:Type}
def exEq:Exit→Exit→Bool
 | .normal,.normal=>true
 | .exit a,.exit b=>Nat.beq a b
 | .ret,.ret=>true
 | _,_=>false
theorem exEq_eq {a b:Exit} (h:exEq a b=true):a=b:=by
 cases a <;> cases b <;> simp only [exEq,reduceCtorEq] at h
 ·rfl
 ·rw [Nat.eq_of_beq_eq_true h]
 ·rfl
def ptAt:C→Option (Nat×Path)
 | .pt r p i j _=>match and (Nat.beq i 0) (Nat.beq j 0) with
  | true=>some (r,p)
  | false=>none
 | _=>none
def adoptPK (k:Nat) (e:Ty) (x:X) (r:Nat) (p:Path) (K:X→Option α):Option α:=match p with
 | []=>none
 | _ :: _=>setAtK x r p .dead fun old x1=>match old with
  | .pt .own e1 d=>match e1.beq e with
   | true=>(x1.hang k [.pt .own e1 d]).bind fun x2=>K { x2 with env:=app (movedE x.env r p k [(0,0)] x.env) x2.env }
   | false=>none
  | _=>none
def adoptK (k:Nat) (e:Ty) (x:X) (K:X→Option α):Option α:=((look x.env k).bind D.one).bind fun y=>match ptAt y with
 | some z=>match and (Nat.beq z.1 k) (pathEq z.2 [(0,0)]) with
  | true=>K x
  | false=>adoptPK k e x z.1 z.2 K
 | none=>match (match y with | .own r p _=>and (Nat.beq r k) (pathEq p [(0,0)]) | _=>false) with
 | true=>K x
 | false=>takeCK x (some e) y fun t x1=>match t with
  | .sl .own e1 xs=>match e1.beq e with
   | true=>(x1.hang k [.sl .own e1 xs]).bind fun x2=>K { x2 with env:=(k,.v (.c (.own k [(0,0)] e))) :: x2.env }
   | false=>none
  | _=>none
def adoptsK:List (Nat×Ty)→X→(X→Option α)→Option α
 | [],x,K=>K x
 | e :: l,x,K=>adoptK e.1 e.2 x fun x1=>adoptsK l x1 K
structure Out where
 ex:Exit
 ad:List (Nat×Ty)
 sh:List Slot
def outTy:List Out→Ty
 | []=>.unit
 | [o]=>shTy o.sh
 | o :: p :: l=>.sum (shTy o.sh) (outTy (p :: l))
def lockIn:List (Nat×List Nat)→Nat→List Nat→Bool
 | [],_,_=>false
 | e :: l,r,d=>match and (Nat.beq e.1 r) (and (pre e.2 d) (pre d e.2)) with
  | true=>true
  | false=>lockIn l r d
theorem pre_anti:∀ {l m:List Nat},pre l m=true→pre m l=true→l=m
 | [],[],_,_=>rfl
 | [],_ :: _,_,h=>by simp [pre] at h
 | _ :: _,[],h,_=>by simp [pre] at h
 | a :: l,b :: m,h1,h2=>by
  simp only [pre] at h1 h2
  split at h1
  ·rename_i e
   have e:=Nat.eq_of_beq_eq_true e
   split at h2
   ·rw [pre_anti h1 h2,e]
   ·cases h2
  ·cases h1
theorem lockIn_mem:∀ {l:List (Nat×List Nat)} {r:Nat} {d:List Nat},lockIn l r d=true→(r,d)∈l
 | [],r,d,h=>by cases h
 | e :: l,r,d,h=>by
  unfold lockIn at h
  split at h
  ·rename_i hb
   simp only [Bool.and_eq_true] at hb
   have h1:=Nat.eq_of_beq_eq_true hb.1
   have h2:=pre_anti hb.2.1 hb.2.2
   obtain ⟨e1,e2⟩:=e
   simp only at h1 h2
   subst h1 h2
   exact List.mem_cons_self
  ·exact List.mem_cons_of_mem _ (lockIn_mem h)
def okOut (x:X) (kt kr:List Nat) (sh:List Slot) (x2:X):Bool :=
 and (allB (fun r=>lockIn x2.lock r []) kr) (and (allB (fun k=>mem x2.pin k) kt) (and (allB (fun e:Nat×List Nat=>lockIn x2.lock e.1 e.2) x.lock) (and (allB (fun k=>mem x2.pin k) x.pin)
  (and (allB (fun k=>!(mem kr k)) (rootsOf sh)) (allB (fun e:Nat×List Nat=>mem (app (rootsOf sh) kr) e.1) x.lock)))))
def pack1 (x:X) (kt kr:List Nat) (o:Out) (e:Exit) (x2:X):Option (den (shTy o.sh)):=match exEq e o.ex with
 | true=>adoptsK o.ad x2 fun x3=>match okOut x kt kr o.sh x3 with
  | true=>(matchX o.sh x3).bind fun d=>match allB (fun e:Nat×D=>atsIn (app (rootsOf o.sh) kr) e.2) (fillE o.sh d) with
   | true=>some d
   | false=>none
  | false=>none
 | false=>none
def packK (x:X) (kt kr:List Nat):(l:List Out)→Exit→X→Option (den (outTy l))
 | [],_,_=>none
 | [o],e,x2=>pack1 x kt kr o e x2
 | o :: p :: l,e,x2=>match exEq e o.ex with
  | true=>(pack1 x kt kr o e x2).map Sum.inl
  | false=>(packK x kt kr (p :: l) e x2).map Sum.inr
def unpackK (x:X) (mu kt kr:List Nat):(l:List Out)→den (outTy l)→(Exit→X→Option α)→Option α
 | [],_,_=>none
 | [o],d,K=>K o.ex (x.leave mu kt kr (fillE o.sh d) (fillR o.sh d))
 | o :: p :: l,d,K=>Sum.elim (fun d=>K o.ex (x.leave mu kt kr (fillE o.sh d) (fillR o.sh d))) (fun d=>unpackK x mu kt kr (p :: l) d K) d
section
variable {c:Ctx} {B:Base} {s:Sit} {x:X} {a:Act} {w:World}
theorem RelW.reput (h:RelW B s x a w) {k:Nat} {d:D} {v:Value} (hk:B.tv a k=some v) (hv:RepD w s d v):RelW B s { x with env:=(k,d) :: x.env } a w :=
 { h with
  env:=by
   intro j d' hj
   rw [look_cons] at hj
   by_cases e:j=k
   ·subst e
    simp only [if_true,Option.some.injEq] at hj
    subst hj
    exact ⟨v,hk,hv⟩
   ·rw [if_neg e] at hj
    exact h.env j d' hj }
theorem sl_lay {S:Fl→Nat→Prop} {e:Ty} {xs:List (den e)} {v:Value} {ψ:Lay} (h:RepO w S (.sl .own e xs) v ψ):ψ []=some v:=by
 cases h with
 | sh _ _ _ ht=>simp [T.isSh] at ht
 | nil e ad φ h0 hn=>exact h0
 | sl e xs b off cap arr el vs φ hb hcap hsz hc hr h0 hn=>exact h0
 | box _ cs ht=>simp [T.box?] at ht
theorem adoptP_sound (h:RelW B s x a w) {k:Nat} {e:Ty} {r:Nat} {p:Path} {sz:Nat} {v:Value} (hv:RepC w s (.pt r p 0 0 sz) v) {K:X→Option α} {q:α} (he:adoptPK k e x r p K=some q):∃ x' s',K x'=some q∧RelW B s' x' a w:=by
 unfold adoptPK at he
 cases p with
 | nil=>cases he
 | cons c0 p =>
 simp only at he
 obtain ⟨old,x1,h1,h2,he⟩:=setAtK_some he
 split at he
 ·rename_i e1 d
  split at he
  ·obtain ⟨x2,h3,he⟩:=Option.bind_eq_some_iff.mp he
   obtain ⟨b,rfl,g1,g2,g3,g4⟩:=h.takeP hv h1 h2 (cs:=cells .own e1 d) rfl
   have g1':RepO w (setΦ s r ((s.Φ r).graft (c0 :: p) noLay)).S (.pt .own e1 d) (.pointer (some ⟨b,0,none⟩)) ((s.Φ r).under (c0 :: p)):=g1
   have hr:=g2.hang (g1'.inVr .nilIface) g3.inVr h3
   refine ⟨_,_,he,h.moved hr (r:=r) (p:=c0 :: p) (k:=k) (base:=[(0,0)]) fun q=>?_⟩
   rw [setΦ_same]
   simp only [List.cons_append,List.nil_append,V.inVr,and_self,if_true]
   simp [Lay.under]
  ·cases he
 ·cases he
theorem ptAt_some {y:C} {z:Nat×Path} (h:ptAt y=some z):∃ sz,y = .pt z.1 z.2 0 0 sz:=by
 unfold ptAt at h
 split at h
 ·rename_i r p i j sz
  split at h
  ·rename_i hb
   simp only [Bool.and_eq_true] at hb
   simp only [Option.some.injEq] at h
   subst h
   exact ⟨sz,by rw [Nat.eq_of_beq_eq_true hb.1,Nat.eq_of_beq_eq_true hb.2]⟩
  ·cases h
 ·cases h
theorem adopt_sound (h:RelW B s x a w) {k:Nat} {e:Ty} {K:X→Option α} {q:α} (he:adoptK k e x K=some q):∃ x' s',K x'=some q∧RelW B s' x' a w:=by
 unfold adoptK at he
 obtain ⟨y,h0,he⟩:=Option.bind_eq_some_iff.mp he
 obtain ⟨d,h1,h2⟩:=Option.bind_eq_some_iff.mp h0
 have h2:=D.one_some h2
 subst h2
 obtain ⟨v,hk,hv⟩:=h.env k _ h1
 have hv':RepC w s y v:=by cases hv with | v _ _ hv=>cases hv with | c _ _ hv=>exact hv
 split at he
 ·rename_i z hz
  split at he
  ·exact ⟨x,s,he,h⟩
  ·obtain ⟨sz,rfl⟩:=ptAt_some hz
   exact adoptP_sound h hv' he
 split at he
 ·exact ⟨x,s,he,h⟩
 ·obtain ⟨t,x1,s1,ψ,hK,tc⟩:=takeC_sound h hv' he
  split at hK
  ·rename_i e1 xs
   split at hK
   ·rename_i hb
    have hb:=Ty.beq_eq hb
    obtain ⟨x2,g1,g2⟩:=Option.bind_eq_some_iff.mp hK
    have hrep:=tc.rep
    rw [← tc.S] at hrep
    have hr:=tc.rel.hang (hrep.inVr .nilIface) tc.out.inVr g1
    exact ⟨_,_,g2,hr.reput hk (.v _ _ (.c _ _ (.own k [(0,0)] e v (by rw [setΦ_same]; simp only [V.inVr,and_self,if_true]; exact sl_lay hrep))))⟩
   ·cases hK
  ·cases hK
theorem adopts_sound:∀ (l:List (Nat×Ty)) {s:Sit} {x:X} {K:X→Option α} {q:α},RelW B s x a w→adoptsK l x K=some q→∃ x' s',K x'=some q∧RelW B s' x' a w
 | [],s,x,K,q,h,he=>⟨x,s,he,h⟩
 | e :: l,s,x,K,q,h,he=>by
  obtain ⟨x1,s1,h1,h2⟩:=adopt_sound h he
  exact adopts_sound l h2 h1
theorem pack1_sound (h:RelW B s x a w) {mu kt kr:List Nat} (hmu:B.muts=mu) {s2:Sit} {x2:X} {a2:Act} {w2:World} (h2:RelW (B.inner s x a w) s2 x2 a2 w2) {o:Out} {e:Exit} {d:den (shTy o.sh)}
 (hp:pack1 x kt kr o e x2=some d):e=o.ex∧∃ s',RelW B s' (x.leave mu kt kr (fillE o.sh d) (fillR o.sh d)) a2 w2∧RelW (B.inner s x a w) s' ((x.leave mu kt kr (fillE o.sh d) (fillR o.sh d)).enter kt kr) a2 w2:=by
 unfold pack1 at hp
 split at hp
 ·rename_i hex
  refine ⟨exEq_eq hex,?_⟩
  obtain ⟨x3,s3,g1,g2⟩:=adopts_sound o.ad h2 hp
  split at g1
  ·rename_i hok
   obtain ⟨d',g3,g4⟩:=Option.bind_eq_some_iff.mp g1
   split at g4
   ·rename_i hats
    simp only [Option.some.injEq] at g4
    subst g4
    simp only [okOut,Bool.and_eq_true] at hok
    obtain ⟨k1,k2,k3,k4,k5,k6⟩:=hok
    obtain ⟨m1,m2⟩:=matchX_fill o.sh g3
    have hin:∀ k,k∈app (rootsOf o.sh) kr→(look (fillR o.sh d') k).isSome=true∨k∈kr:=by
     intro k hk
     rw [app_eq,List.mem_append] at hk
     rcases hk with hk | hk
     ·exact .inl ((rootsOf_in o.sh d' k).1 hk)
     ·exact .inr hk
    obtain ⟨s',r1⟩:=h.leave hmu g2 (fun r hr=>lockIn_mem ((allB_iff _ _).1 k1 r hr)) (fun k hk=>(mem_iff _ _).1 ((allB_iff _ _).1 k2 k hk)) (fun e he=>lockIn_mem ((allB_iff _ _).1 k3 e he))
     (fun k hk=>(mem_iff _ _).1 ((allB_iff _ _).1 k4 k hk)) (E:=fillE o.sh d') (R:=fillR o.sh d')
     (fun k d0 hd=>⟨m1 k d0 hd,fun rp hrp=>by
      have hmem:(k,d0)∈fillE o.sh d':=by
       revert hd
       generalize fillE o.sh d'=E
       intro hd
       induction E with
       | nil=>cases hd
       | cons e0 E ih =>
        obtain ⟨k0,d1⟩:=e0
        rw [look_cons] at hd
        by_cases hkk:k=k0
        ·rw [if_pos hkk,Option.some.injEq] at hd
         subst hkk hd
         exact List.mem_cons_self
        ·rw [if_neg hkk] at hd
         exact List.mem_cons_of_mem _ (ih hd)
      exact hin _ (atsIn_spec ((allB_iff _ _).1 hats _ hmem) rp hrp)⟩)
     (fun k r hr=>⟨m2 k r hr,fun hkr=>by
      have hk:k∈rootsOf o.sh:=(rootsOf_in o.sh d' k).2 (by rw [hr]; rfl)
      have:=(allB_iff _ _).1 k5 k hk
      rw [(mem_iff _ _).2 hkr] at this
      cases this⟩)
     (fun e he=>hin _ ((mem_iff _ _).1 ((allB_iff _ _).1 k6 e he)))
    exact ⟨s',r1⟩
   ·cases g4
  ·cases g1
 ·cases hp
theorem out_sound (h:RelW B s x a w) {mu kt kr:List Nat} (hmu:B.muts=mu) {s2:Sit} {x2:X} {a2:Act} {w2:World} (h2:RelW (B.inner s x a w) s2 x2 a2 w2) {e:Exit} {K:Exit→X→Option α} {q:α} :
 ∀ (l:List Out) {d:den (outTy l)},packK x kt kr l e x2=some d→unpackK x mu kt kr l d K=some q→∃ x' s',K e x'=some q∧RelW B s' x' a2 w2
 | [],d,hp,hu=>by cases hp
 | [o],d,hp,hu=>by
  obtain ⟨e1,s',r1,-⟩:=pack1_sound h hmu h2 hp
  subst e1
  exact ⟨_,s',hu,r1⟩
 | o :: p :: l,d,hp,hu=>by
  unfold packK at hp
  split at hp
  ·obtain ⟨d',h3,h4⟩:=Option.map_eq_some_iff.mp hp
   subst h4
   obtain ⟨e1,s',r1,-⟩:=pack1_sound h hmu h2 h3
   subst e1
   exact ⟨_,s',hu,r1⟩
  ·obtain ⟨d',h3,h4⟩:=Option.map_eq_some_iff.mp hp
   subst h4
   exact out_sound h hmu h2 (p :: l) h3 hu
def freezesK:List (Nat×Path)→X→(X→Option α)→Option α
 | [],x,K=>K x
 | e :: l,x,K=>freezeK x e.1 e.2 fun _ x1=>freezesK l x1 K
theorem freezes_sound:∀ (l:List (Nat×Path)) {s:Sit} {x:X} {K:X→Option α} {q:α},RelW B s x a w→freezesK l x K=some q→∃ x' s',K x'=some q∧RelW B s' x' a w
 | [],s,x,K,q,h,he=>⟨x,s,he,h⟩
 | e :: l,s,x,K,q,h,he=>by
  obtain ⟨t,x1,s1,h1,h2⟩:=freeze_sound h he
  exact freezes_sound l h2.rel h1
end
end Go.V
