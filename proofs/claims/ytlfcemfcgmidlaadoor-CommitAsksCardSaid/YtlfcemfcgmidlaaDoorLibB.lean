import Derived.Test.YtlfcemfcgmidlaaDoorLibA
import Derived.Laws.StructEq
import Derived.Laws.Cells
import Derived.Laws.CopyRow
import Derived.Laws.Strings2
namespace Go.V
open Go.RowKit
inductive TyI where
 | int (k:IntKind)
 | bool
 | str
 | sl (e:TypeId)
 | st (fs:List (Nat×TypeId))
 | ptr
 | arr (n:Nat) (e:TypeId)
 | fn
 | iface
 | tup
 | other
structure TyInfo where
 d:TyI
 size:Nat
 bytes:Nat
 zero:List Value
 eq:Bool
 zel:List (Option Ty)
 zfr:List (Option Ty)
 ty:Ty
def descI:TypeDesc→TyI
 | .int k=>.int k
 | .bool=>.bool
 | .string=>.str
 | .slice e=>.sl e
 | .struct fs=>.st (fs.toList.map fun f=>(f.offset,f.type))
 | .pointer _=>.ptr
 | .array n e=>.arr n e
 | .func _ _ _=>.fn
 | .interface _=>.iface
 | .tuple _=>.tup
 | _=>.other
structure TyOk1 (P:Program) (t:TypeId) (i:TyInfo):Prop where
 info:(P.info? t).map (fun j=>(j.size,j.bytes,j.zero.map (·.cells.toList)))=some (i.size,i.bytes,some i.zero)
 under:(P.underlying t).map descI=some i.d
 eqok:i.eq=true→P.stoodInHeld t=false∧P.eqGuardType P.depth t=false∧((P.fieldsOf t).toList.all fun f=>f.name != "_")=true
def TyOk (P:Program) (Ty:List (Nat×TyInfo)):Prop:=∀ t i,look Ty t=some i→TyOk1 P t i
section types
variable {P:Program} {t:TypeId} {i:TyInfo}
theorem TyOk1.get (h:TyOk1 P t i):∃ j z,P.info? t=some j∧j.size=i.size∧j.bytes=i.bytes∧j.zero=some z∧z.cells.toList=i.zero:=by
 have h1:=h.info
 cases e:P.info? t with
 | none=>simp [e] at h1
 | some j =>
  simp only [e,Option.map_some,Option.some.injEq,Prod.mk.injEq] at h1
  obtain ⟨a1,a2,a3⟩:=h1
  cases ez:j.zero with
  | none=>simp [ez] at a3
  | some z=>simp only [ez,Option.map_some,Option.some.injEq] at a3; exact ⟨j,z,rfl,a1,a2,ez,a3⟩
theorem TyOk1.desc (h:TyOk1 P t i):∃ d,P.underlying t=some d∧descI d=i.d:=by
 have h1:=h.under
 cases e:P.underlying t with
 | none=>simp [e] at h1
 | some d=>simp only [e,Option.map_some,Option.some.injEq] at h1; exact ⟨d,rfl,h1⟩
theorem TyOk1.slice (h:TyOk1 P t i) {e:TypeId} (hd:i.d = .sl e):P.underlying t=some (.slice e):=by
 obtain ⟨d,h1,h2⟩:=h.desc
 rw [hd] at h2
 cases d <;> simp [descI] at h2
 subst h2; exact h1
theorem TyOk1.struct (h:TyOk1 P t i) {fs:List (Nat×TypeId)} (hd:i.d = .st fs):∃ fields,P.underlying t=some (.struct fields)∧fields.toList.map (fun f=>(f.offset,f.type))=fs:=by
 obtain ⟨d,h1,h2⟩:=h.desc
 rw [hd] at h2
 cases d <;> simp [descI] at h2
 exact ⟨_,h1,by simpa using h2⟩
theorem TyOk1.array (h:TyOk1 P t i) {n:Nat} {e:TypeId} (hd:i.d = .arr n e):P.underlying t=some (.array n e):=by
 obtain ⟨d,h1,h2⟩:=h.desc
 rw [hd] at h2
 cases d <;> simp [descI] at h2
 obtain ⟨rfl,rfl⟩:=h2; exact h1
theorem TyOk1.string (h:TyOk1 P t i) (hd:i.d = .str):P.underlying t=some .string:=by
 obtain ⟨d,h1,h2⟩:=h.desc
 rw [hd] at h2
 cases d <;> simp [descI] at h2
 exact h1
theorem TyOk1.bool (h:TyOk1 P t i) (hd:i.d = .bool):P.underlying t=some .bool:=by
 obtain ⟨d,h1,h2⟩:=h.desc
 rw [hd] at h2
 cases d <;> simp [descI] at h2
 exact h1
theorem TyOk1.int (h:TyOk1 P t i) {k:IntKind} (hd:i.d = .int k):P.underlying t=some (.int k):=by
 obtain ⟨d,h1,h2⟩:=h.desc
 rw [hd] at h2
 cases d <;> simp [descI] at h2
 subst h2; exact h1
theorem TyOk1.run_sizeOf (h:TyOk1 P t i) (w:World):(sizeOf t).run P w = .ok i.size w:=by
 obtain ⟨j,z,h1,h2,_⟩:=h.get
 simp [sizeOf,typeInfo,h1,h2]
theorem TyOk1.run_typeInfo (h:TyOk1 P t i) (w:World):∃ j,(typeInfo t).run P w = .ok j w∧j.size=i.size∧j.bytes=i.bytes:=by
 obtain ⟨j,z,h1,h2,h3,_⟩:=h.get
 exact ⟨j,by simp [typeInfo,h1],h2,h3⟩
theorem TyOk1.run_zeroValue (h:TyOk1 P t i) (w:World):∃ z,(zeroValue t).run P w = .ok z w∧z.cells.toList=i.zero:=by
 obtain ⟨j,z,h1,_,_,h4,h5⟩:=h.get
 exact ⟨z,by simp [zeroValue,typeInfo,h1,h4],h5⟩
def TyI.isAgg:TyI→Bool
 | .st _ | .arr _ _=>true
 | _=>false
theorem TyOk1.run_isAgg (h:TyOk1 P t i) (w:World):(isAgg t).run P w = .ok i.d.isAgg w:=by
 obtain ⟨d,h1,h2⟩:=h.desc
 rw [← h2]
 simp only [isAgg,Sem.run_bind,run_underlying h1,Result.andThen_ok]
 cases d <;> rfl
end types
theorem toList_inj (a b:ByteArray):(a.toList == b.toList)=decide (a.data.toList=b.data.toList):=by
 rw [ByteArray.toList_eq,ByteArray.toList_eq]
 by_cases h:a.data.toList=b.data.toList
 ·rw [h]; simp
 ·have : ¬ a.data=b.data:=fun e=>h (by rw [e])
  simp [h,this]
theorem append_data (a b:ByteArray):a++b=⟨⟨a.data.toList++b.data.toList⟩⟩:=by
 have:(a++b).data=a.data++b.data:=ByteArray.data_append
 obtain ⟨x⟩:=a
 obtain ⟨y⟩:=b
 show _=_
 cases h:(ByteArray.mk x++ByteArray.mk y) with
 | mk z =>
  rw [h] at this
  simp only at this
  subst this
  congr 1
  simp
variable {α:Type}
def intB (op:BinOp) (k:IntKind) (a b:Int) (K:Value→Option α):Option α:=match op with
 | .add=>K (.int k (k.wrap (a+b)))
 | .sub=>K (.int k (k.wrap (a - b)))
 | .mul=>K (.int k (k.wrap (a * b)))
 | .quo=>cond (decide (b=0)) none (K (.int k (k.wrap (a.tdiv b))))
 | .rem=>cond (decide (b=0)) none (K (.int k (a.tmod b)))
 | .and=>K (.int k (bits .and k a b))
 | .or=>K (.int k (bits .or k a b))
 | .xor=>K (.int k (bits .xor k a b))
 | .andNot=>none
 | .shl=>cond (decide (b<0)) none (K (.int k (k.wrap (a * 2 ^ (min b.toNat k.bits)))))
 | .shr=>cond (decide (b<0)) none (K (.int k (a.fdiv (2 ^ (min b.toNat k.bits)))))
 | .eql=>K (.bool (decide (a=b)))
 | .neq=>K (.bool (!decide (a=b)))
 | .lss=>K (.bool (decide (a<b)))
 | .leq=>K (.bool (decide (a≤b)))
 | .gtr=>K (.bool (decide (b<a)))
 | .geq=>K (.bool (decide (b≤a)))
def strB (op:BinOp) (a b:List UInt8) (K:Value→Option α):Option α:=match op with
 | .add=>cond (decide (a.length+b.length≤9223372036854775807)) (K (.string ⟨⟨a++b⟩⟩)) none
 | .eql=>K (.bool (decide (a=b)))
 | .neq=>K (.bool (!decide (a=b)))
 | _=>none
def isShift:BinOp→Bool
 | .shl | .shr=>true
 | _=>false
def scalB (op:BinOp) (x y:Value) (K:Value→Option α):Option α :=
 match x with
 | .int k a=>match y with
  | .int k' b=>match (match isShift op with | true=>true | false=>kindEq k k') with
   | true=>intB op k a b K
   | false=>none
  | _=>none
 | .string a=>match y with
  | .string b=>strB op a.data.toList b.data.toList K
  | _=>none
 | _=>none
theorem cond_some {b:Bool} {x y:Option α} {r:α} (h:cond b x y=some r):(b=true∧x=some r)∨(b=false∧y=some r):=by
 cases b
 ·exact .inr ⟨rfl,h⟩
 ·exact .inl ⟨rfl,h⟩
theorem eqGuard_scal {P:Program} {w:World} {op:BinOp} {t:TypeId} {x y:Operand} {a b:Value} (h:∀ cs,a≠.agg cs) (h2:a≠.nilIface) :
 (eqGuard op t x y a b).run P w = .ok () w:=by
 unfold eqGuard
 cases op <;> first
  | rfl
  | (cases a <;> first
   | exact absurd rfl h2
   | exact absurd rfl (h _)
   | (simp only; rfl))
theorem scalB_sound {op:BinOp} {a b:Value} {K:Value→Option α} {r:α} (h:scalB op a b K=some r) :
 ∃ v,K v=some r∧v.oneCell'=true∧∀ (P:Program) (w:World) (t:TypeId),(binOp op t a b).run P w = .ok v w:=by
 unfold scalB at h
 split at h
 ·split at h
  ·rename_i k a _ k' b
   split at h
   ·rename_i hk
    cases op with
    | shl =>
     simp only [intB] at h
     rcases cond_some h with ⟨_,h⟩ | ⟨h1,h⟩
     ·cases h
     ·have h1 : ¬ b<0:=by simpa using h1
      exact ⟨_,h,rfl,fun P w t=>by simp only [binOp,Op.shift,if_neg h1,Sem.run_pure]⟩
    | shr =>
     simp only [intB] at h
     rcases cond_some h with ⟨_,h⟩ | ⟨h1,h⟩
     ·cases h
     ·have h1 : ¬ b<0:=by simpa using h1
      exact ⟨_,h,rfl,fun P w t=>by simp only [binOp,Op.shift,if_neg h1,Sem.run_pure]⟩
    | quo =>
     have:=kindEq_eq hk; subst this
     simp only [intB] at h
     rcases cond_some h with ⟨_,h⟩ | ⟨h1,h⟩
     ·cases h
     ·have h1 : ¬ b=0:=by simpa using h1
      exact ⟨_,h,rfl,fun P w t=>by simp [binOp,Op.intDiv,h1]⟩
    | rem =>
     have:=kindEq_eq hk; subst this
     simp only [intB] at h
     rcases cond_some h with ⟨_,h⟩ | ⟨h1,h⟩
     ·cases h
     ·have h1 : ¬ b=0:=by simpa using h1
      exact ⟨_,h,rfl,fun P w t=>by simp [binOp,Op.intDiv,h1]⟩
    | andNot=>cases h
    | neq =>
     have:=kindEq_eq hk; subst this
     refine ⟨_,h,rfl,fun P w t=>?_⟩
     simp [binOp,Op.intCmp,bne]
     rfl
    | _ =>
     have:=kindEq_eq hk; subst this
     exact ⟨_,h,rfl,fun P w t=>by simp [binOp,Op.intCmp,Op.intArith]; try rfl⟩
   ·cases h
  ·cases h
 ·split at h
  ·rename_i a _ b
   cases op with
   | add =>
    rcases cond_some h with ⟨h1,h⟩ | ⟨_,h⟩
    ·have h1:a.data.toList.length+b.data.toList.length≤9223372036854775807:=by simpa using h1
     refine ⟨_,h,rfl,fun P w t=>?_⟩
     have : ¬ (((a.size+b.size:Nat):Int) > IntKind.i64.max):=by
      have e:IntKind.i64.max=9223372036854775807:=by decide
      have e1:a.size=a.data.toList.length:=rfl
      have e2:b.size=b.data.toList.length:=rfl
      rw [e,e1,e2]; omega
     simp only [binOp,Op.stringOp,if_neg this,Sem.run_pure,append_data]
    ·cases h
   | eql=>exact ⟨_,h,rfl,fun P w t=>by show Result.ok (Value.bool (a.toList == b.toList)) w=_; rw [toList_inj]⟩
   | neq=>exact ⟨_,h,rfl,fun P w t=>by show Result.ok (Value.bool (!(a.toList == b.toList))) w=_; rw [toList_inj]⟩
   | _=>cases h
  ·cases h
 ·cases h
def scalU (op:UnOp) (x:Value) (K:Value→Option α):Option α:=match op with
 | .neg=>match x with
  | .int k a=>K (.int k (k.wrap (0 - a)))
  | _=>none
 | .not=>match x with
  | .bool b=>K (.bool (!b))
  | _=>none
 | _=>none
theorem scalU_sound {op:UnOp} {a:Value} {K:Value→Option α} {r:α} (h:scalU op a K=some r) :
 ∃ v,K v=some r∧v.oneCell'=true∧∀ (P:Program) (w:World),(Op.unary op a).run P w = .ok v w:=by
 unfold scalU at h
 split at h
 ·split at h
  ·exact ⟨_,h,rfl,fun P w=>rfl⟩
  ·cases h
 ·split at h
  ·exact ⟨_,h,rfl,fun P w=>rfl⟩
  ·cases h
 ·cases h
end Go.V
namespace Go.V
open Go.RowKit
structure Ctx where
 P:Program
 Ty:List (Nat×TyInfo)
 hTy:∀ t i,look Ty t=some i→TyOk1 P t i
 G:List (Nat×T)
 off:Nat
 I:List (Nat×Func)
 hI:∀ f fn,look I f=some fn→P.funcs[f]?=some fn∧(fn.name == "runtime.NumGoroutine")=false
 mix:P.follows .mixedOrders=true
def Lawful {β:Type} (f:(α:Type)→(β→Option α)→Option α):Prop:=∀ (α:Type) (K:β→Option α),f α K=(f β some).bind K
theorem Lawful.pure {β:Type} (b:β):Lawful fun _ K=>K b:=fun _ _=>rfl
theorem Lawful.none {β:Type}:Lawful (β:=β) fun _ _=>none:=fun _ _=>rfl
theorem Lawful.bind {β γ:Type} (o:Option γ) {f:γ→(α:Type)→(β→Option α)→Option α} (h:∀ c,Lawful (f c)):Lawful fun α K=>o.bind fun c=>f c α K:=by
 intro α K
 cases o with
 | none=>rfl
 | some c=>exact h c α K
theorem Lawful.cond {β:Type} (b:Bool) {f g:(α:Type)→(β→Option α)→Option α} (h1:Lawful f) (h2:Lawful g):Lawful fun α K=>cond b (f α K) (g α K):=by
 intro α K
 cases b
 ·exact h2 α K
 ·exact h1 α K
theorem Lawful.comp {β γ:Type} {f:(α:Type)→(γ→Option α)→Option α} (h:Lawful f) {g:γ→(α:Type)→(β→Option α)→Option α} (hg:∀ c,Lawful (g c)) :
 Lawful fun α K=>f α fun c=>g c α K:=by
 intro α K
 show f α (fun c=>g c α K)=(f β fun c=>g c β some).bind K
 rw [h α,h β]
 cases f γ some with
 | none=>rfl
 | some c=>exact hg c α K
variable {α:Type}
def isNilS (v:Value):Bool:=match v with
 | .slice a n k=>match a with
  | none=>match n with
   | 0=>match k with
    | 0=>true
    | _+1=>false
   | _+1=>false
  | some _=>false
 | _=>false
theorem isNilS_eq {v:Value} (h:isNilS v=true):v = .slice none 0 0:=by
 unfold isNilS at h
 split at h
 ·split at h
  ·split at h
   ·split at h
    ·rfl
    ·cases h
   ·cases h
  ·cases h
 ·cases h
def evalD (c:Ctx) (x:X) (o:Operand):Option D:=match o with
 | .tmp k=>look x.env (c.off+k)
 | .const v=>match v with
  | .slice a n k=>match isNilS (.slice a n k) with
   | true=>some (.v (.c .nil))
   | false=>none
  | .bool b=>some (.v (.c (.k (.v (.bool b)))))
  | .int k n=>some (.v (.c (.k (.v (.int k n)))))
  | .string s=>some (.v (.c (.k (.v (.string s)))))
  | .nilIface=>some (.v (.c (.k (.v .nilIface))))
  | .pointer none=>some (.v (.c (.k (.v (.pointer none)))))
  | _=>none
 | .global g=>(look c.G g).map fun t=>.v (.c (match t with | .ga e xs=>.ra e xs | t=>.k t))
 | .func f=>some (.v (.c (.fnp f [])))
structure Fit (B:Base) (c:Ctx):Prop where
 g:B.G=c.G
 off:B.nt.off=c.off
section ops
variable {c:Ctx} {B:Base} {s:Sit} {x:X} {a:Act} {w:World}
theorem evalD_sound (hG:Fit B c) (h:RelW B s x a w) {o:Operand} {d:D} (he:evalD c x o=some d):RepD w s d (a.eval o):=by
 cases o with
 | tmp k =>
  obtain ⟨v,h1,h2⟩:=h.env _ d he
  rw [← hG.off,tv_local] at h1
  have:a.eval (.tmp k)=v:=by simp [Act.eval,Array.getD_eq_getD_getElem?,h1]
  rw [this]; exact h2
 | const v =>
  simp only [evalD] at he
  split at he
  ·split at he
   ·rename_i hn
    simp only [Option.some.injEq] at he
    subst he
    have:=isNilS_eq hn
    have hev:∀ v,a.eval (.const v)=v:=fun _=>rfl
    rw [hev,this]
    exact .v _ _ (.c _ _ (.nil none))
   ·cases he
  all_goals simp only [Option.some.injEq,reduceCtorEq] at he
  all_goals subst he
  all_goals exact .v _ _ (.c _ _ (.k _ _ (.v _ rfl)))
 | global g =>
  simp only [evalD] at he
  obtain ⟨t,ht,rfl⟩:=Option.map_eq_some_iff.mp he
  have:=h.glob g t (by rw [hG.g]; exact ht)
  refine .v _ _ (.c _ _ ?_)
  split
  ·exact .ra _ _ _ this
  ·exact .k _ _ this
 | func f =>
  simp only [evalD,Option.some.injEq] at he
  subst he
  exact .v _ _ (.c _ _ (.fnp f [] #[] rfl (fun m r p e=>by simp at e)))
def idxN {β:Type} (xs:List β) (i:Nat):Option β:=xs[i]?
def childK (t:T) (i j:Nat) (K:T→Option α):Option α :=
 match t with
 | .sl .own e xs=>(idxN xs i).bind fun x=>(nth (cells .own e x) j).bind K
 | .pt .own e d=>match i with
  | 0=>(nth (cells .own e d) j).bind K
  | _+1=>none
 | .pp .own cs=>match i with
  | 0=>(nth cs j).bind K
  | _+1=>none
 | .vr cs=>match i with
  | 0=>(nth cs j).bind K
  | _+1=>none
 | .slo e xs i' cs=>(idxN xs i).bind fun _=>match Nat.blt j e.size with
  | true=>cond (Nat.beq i i') ((nth cs j).bind K) none
  | false=>none
 | .po _ cs=>match i with
  | 0=>(nth cs j).bind K
  | _+1=>none
 | _=>none
theorem childK_eq (t:T) (i j:Nat) (K:T→Option α):childK t i j K=(childK t i j some).bind K:=by
 cases t with
 | sl f e xs =>
  cases f <;> try rfl
  simp only [childK,Option.bind_assoc]
  simp
 | pt f e d=>cases f <;> cases i <;> first | rfl | (simp only [childK]; cases nth (cells .own e d) j <;> rfl)
 | pp f cs=>cases f <;> cases i <;> first | rfl | (simp only [childK]; cases nth cs j <;> rfl)
 | vr cs=>cases i <;> first | rfl | (simp only [childK]; cases nth cs j <;> rfl)
 | slo e xs i' cs =>
  simp only [childK]
  cases idxN xs i with
  | none=>rfl
  | some x =>
   simp only [Option.bind_some]
   cases Nat.blt j e.size with
   | false=>rfl
   | true=>cases Nat.beq i i' <;> first | rfl | (cases nth cs j <;> rfl)
 | po e cs=>cases i <;> first | rfl | (simp only [childK]; cases nth cs j <;> rfl)
 | _=>rfl
theorem childK_some {t:T} {i j:Nat} {K:T→Option α} {q:α} (h:childK t i j K=some q):∃ u,childT t i j=some u∧K u=some q:=by
 cases t with
 | sl f e xs =>
  cases f <;> try (cases h; done)
  obtain ⟨x,h1,h2⟩:=Option.bind_eq_some_iff.mp h
  obtain ⟨u,h3,h4⟩:=Option.bind_eq_some_iff.mp h2
  simp only [idxN] at h1
  exact ⟨u,by simp only [childT,h1,Option.bind_some]; exact h3,h4⟩
 | pt f e d =>
  cases f <;> try (cases h; done)
  cases i with
  | zero=>obtain ⟨u,h3,h4⟩:=Option.bind_eq_some_iff.mp h; exact ⟨u,h3,h4⟩
  | succ i=>cases h
 | pp f cs =>
  cases f <;> try (cases h; done)
  cases i with
  | zero=>obtain ⟨u,h3,h4⟩:=Option.bind_eq_some_iff.mp h; exact ⟨u,h3,h4⟩
  | succ i=>cases h
 | vr cs =>
  cases i with
  | zero=>obtain ⟨u,h3,h4⟩:=Option.bind_eq_some_iff.mp h; exact ⟨u,h3,h4⟩
  | succ i=>cases h
 | slo e xs i' cs =>
  obtain ⟨x,h1,h2⟩:=Option.bind_eq_some_iff.mp h
  simp only [idxN] at h1
  simp only [childT,h1,Option.bind_some]
  split at h2
  ·rename_i hb
   rw [hb]
   rcases cond_some h2 with ⟨hb2,h3⟩ | ⟨_,h3⟩
   ·obtain ⟨u,h4,h5⟩:=Option.bind_eq_some_iff.mp h3
    simp only [hb2]
    exact ⟨u,h4,h5⟩
   ·cases h3
  ·cases h2
 | po e cs =>
  cases i with
  | zero=>obtain ⟨u,h3,h4⟩:=Option.bind_eq_some_iff.mp h; exact ⟨u,h3,h4⟩
  | succ i=>cases h
 | _=>cases h
def getK:Path→T→(T→Option α)→Option α
 | [],t,K=>K t
 | e :: p,t,K=>childK t e.1 e.2 fun c=>getK p c K
theorem getK_eq:∀ (p:Path) (t:T) (K:T→Option α),getK p t K=(getK p t some).bind K
 | [],t,K=>rfl
 | (i,j) :: p,t,K=>by
  simp only [getK]
  rw [childK_eq,childK_eq t i j (fun c=>getK p c some),Option.bind_assoc]
  congr 1
  funext c
  exact getK_eq p c K
theorem getK_some:∀ {p:Path} {t:T} {K:T→Option α} {q:α},getK p t K=some q→∃ u,getT p t=some u∧K u=some q
 | [],t,K,q,h=>⟨t,rfl,h⟩
 | (i,j) :: p,t,K,q,h=>by
  obtain ⟨c,h1,h2⟩:=childK_some h
  obtain ⟨u,h3,h4⟩:=getK_some h2
  exact ⟨u,by simp only [getT,h1,Option.bind_some]; exact h3,h4⟩
def atK (x:X) (r:Nat) (p:Path) (K:T→Option α):Option α:=(look x.roots r).bind fun row=>getK p (.vr row) K
theorem atK_some {x:X} {r:Nat} {p:Path} {K:T→Option α} {q:α} (h:atK x r p K=some q):∃ t,x.at r p=some t∧K t=some q:=by
 obtain ⟨row,h1,h2⟩:=Option.bind_eq_some_iff.mp h
 obtain ⟨u,h3,h4⟩:=getK_some h2
 exact ⟨u,by simp only [X.at,h1,Option.bind_some]; exact h3,h4⟩
theorem Lawful.at (x:X) (r:Nat) (p:Path):Lawful fun _ K=>atK x r p K:=by
 intro α K
 show atK x r p K=(atK x r p some).bind K
 simp only [atK,Option.bind_assoc]
 congr 1
 funext row
 exact getK_eq p _ K
def rowK (t:T) (i sz:Nat) (K:List T→Option α):Option α:=match t with
 | .sl .own e xs=>match Nat.beq e.size sz with
  | true=>(idxN xs i).bind fun x=>K (cells .own e x)
  | false=>none
 | .pp .own cs=>match i with
  | 0=>K cs
  | _+1=>none
 | .pt .own e d=>match i with
  | 0=>K (cells .own e d)
  | _+1=>none
 | .slo e xs i' cs=>match and (Nat.beq e.size sz) (Nat.beq cs.length e.size) with
  | true=>(idxN xs i).bind fun _=>cond (Nat.beq i i') (K cs) none
  | false=>none
 | .po _ cs=>match i with
  | 0=>K cs
  | _+1=>none
 | _=>none
def rowOf (t:T) (i sz:Nat):Option (List T):=rowK t i sz some
theorem rowK_eq (t:T) (i sz:Nat) (K:List T→Option α):rowK t i sz K=(rowOf t i sz).bind K:=by
 cases t with
 | sl f e xs =>
  cases f <;> try rfl
  simp only [rowOf,rowK]
  split
  ·cases idxN xs i <;> rfl
  ·rfl
 | pt f e d=>cases f <;> cases i <;> rfl
 | pp f cs=>cases f <;> cases i <;> rfl
 | slo e xs i' cs =>
  simp only [rowOf,rowK]
  split
  ·cases idxN xs i with
   | none=>rfl
   | some x=>cases Nat.beq i i' <;> rfl
  ·rfl
 | po e cs=>cases i <;> rfl
 | _=>rfl
theorem rowOf_child {row:T} {i sz:Nat} {cs:List T} (h:rowOf row i sz=some cs) (j:Nat) (u:T) (hu:cs[j]?=some u):childT row i j=some u:=by
 unfold rowOf rowK at h
 split at h
 ·split at h
  ·obtain ⟨x,hx,h⟩:=Option.bind_eq_some_iff.mp h
   simp only [Option.some.injEq] at h
   subst h
   simp only [idxN] at hx
   simp only [childT,hx,Option.bind_some,nth_eq]; exact hu
  ·cases h
 ·split at h
  ·simp only [Option.some.injEq] at h; subst h; simpa [childT,nth_eq] using hu
  ·cases h
 ·split at h
  ·simp only [Option.some.injEq] at h; subst h; simpa [childT,nth_eq] using hu
  ·cases h
 ·split at h
  ·rename_i hb
   simp only [Bool.and_eq_true] at hb
   obtain ⟨x,hx,h⟩:=Option.bind_eq_some_iff.mp h
   rcases cond_some h with ⟨hb2,h3⟩ | ⟨_,h3⟩
   ·simp only [Option.some.injEq] at h3
    subst h3
    simp only [idxN] at hx
    have hj:=(List.getElem?_eq_some_iff.mp hu).1
    have hl:=Nat.eq_of_beq_eq_true hb.2
    rw [hl] at hj
    rw [← Nat.blt_eq] at hj
    have hbl:=hj
    simp only [childT,hx,Option.bind_some,hbl,hb2,nth_eq]
    exact hu
   ·cases h3
  ·cases h
 ·split at h
  ·simp only [Option.some.injEq] at h; subst h; simpa [childT,nth_eq] using hu
  ·cases h
 ·cases h
theorem rowOf_idx {row:T} {i sz:Nat} {cs:List T} (h:rowOf row i sz=some cs) (j:Nat) (v:Value) (hv:(∀ f e xs,row≠.sl f e xs)→(∀ e xs i cs,row≠.slo e xs i cs)→offOf v=0):row.idx (some v) i j=offOf v+(i * sz+j)∧∀ cs,row≠.vr cs:=by
 unfold rowOf rowK at h
 split at h
 ·split at h
  ·rename_i hb
   exact ⟨by simp only [T.idx]; rw [Nat.eq_of_beq_eq_true hb],nofun⟩
  ·cases h
 ·split at h
  ·exact ⟨by rw [hv nofun nofun]; simp [T.idx],nofun⟩
  ·cases h
 ·split at h
  ·exact ⟨by rw [hv nofun nofun]; simp [T.idx],nofun⟩
  ·cases h
 ·split at h
  ·rename_i hb
   simp only [Bool.and_eq_true] at hb
   exact ⟨by simp only [T.idx]; rw [Nat.eq_of_beq_eq_true hb.1],nofun⟩
  ·cases h
 ·split at h
  ·exact ⟨by rw [hv nofun nofun]; simp [T.idx],nofun⟩
  ·cases h
 ·cases h
theorem at_snoc {r:Nat} {p:Path} {i j:Nat} {row u:T} (hp:x.at r p=some row) (hc:childT row i j=some u):x.at r (p++[(i,j)])=some u:=by
 unfold X.at at hp ⊢
 obtain ⟨rw0,h1,h2⟩:=Option.bind_eq_some_iff.mp hp
 rw [h1,Option.bind_some,getT_append,h2,Option.bind_some]
 simp [getT,hc]
theorem own_cell (h:RelW B s x a w) {r:Nat} {p:Path} {row u:T} {i j:Nat} (hp:x.at r p=some row) (hc:childT row i j=some u) :
 ∃ y,RepO w s.S u y ((s.Φ r).under (p++[(i,j)]))∧RowBlk w w row (s.Φ r p) i j y∧CellAt w row (s.Φ r p) i j y:=by
 have:=at_snoc hp hc
 unfold X.at at this hp
 obtain ⟨rw0,h1,h2⟩:=Option.bind_eq_some_iff.mp this
 rw [h1,Option.bind_some] at hp
 obtain ⟨y0,hy0⟩:=h.roots r rw0 h1
 obtain ⟨row',y,g1,g2,g3,g4,g5⟩:=place_cell hy0 h2
 rw [hp] at g1
 simp only [Option.some.injEq] at g1
 subst g1
 exact ⟨y,g3,g4,g5⟩
theorem own_row (h:RelW B s x a w) {r:Nat} {p:Path} {row:T} {i sz:Nat} {cs:List T} (hp:x.at r p=some row) (hr:rowOf row i sz=some cs)
 {y:Value} {b:Nat} (hy:s.Φ r p=some y) (hb:blkOf y=some b) {j:Nat} {u:T} (hu:cs[j]?=some u) :
 ∃ v arr el,w.heap[b]?=some (.cells arr el (0,0))∧arr[offOf y+(i * sz+j)]?=some v∧RepO w s.S u v ((s.Φ r).under (p++[(i,j)])):=by
 obtain ⟨v,h1,-,h3⟩:=own_cell h hp (rowOf_child hr j u hu)
 obtain ⟨e1,e2⟩:=rowOf_idx hr j y (fun hns hns2=>by
  have hp':=hp
  unfold X.at at hp'
  obtain ⟨rw0,g1,g2⟩:=Option.bind_eq_some_iff.mp hp'
  obtain ⟨y0,hy0⟩:=h.roots r rw0 g1
  obtain ⟨x',hx'⟩:=getT_own p hy0 g2
  have hy':((s.Φ r).under p) []=some y:=by rw [Lay.under_apply_nil]; exact hy
  generalize (s.Φ r).under p=φ at hx' hy'
  cases hx' with
  | sh=>simp [noLay] at hy'
  | nil=>exact absurd rfl (hns _ _ _)
  | sl=>exact absurd rfl (hns _ _ _)
  | slo=>exact absurd rfl (hns2 _ _ _ _)
  | box _ cs ht b arr el vs φ hb hsz hc hr h0=>rw [h0,Option.some.injEq] at hy'; subst hy'; rfl
  | bld t0 bs b x0 x1 φ hb hx hr h0 h1=>rw [h0,Option.some.injEq] at hy'; subst hy'; rfl
  | vr cs _ vs φ hr h0=>rw [h0] at hy'; cases hy')
 rcases h3 with ⟨cs',e⟩ | ⟨b',arr,el,g1,g2,g3⟩
 ·exact absurd e (e2 cs')
 ·rw [hy,Option.bind_some,hb] at g1
  simp only [Option.some.injEq] at g1
  subst g1
  rw [hy] at g3
  exact ⟨v,arr,el,g2,by rw [← e1]; exact g3,h1⟩
def viewsFrom (r:Nat) (p:Path) (i:Nat):Nat→List T→List C
 | _,[]=>[]
 | j,t :: ts=>viewC r (app p [(i,j)]) t :: viewsFrom r p i (j+1) ts
theorem length_viewsFrom (r:Nat) (p:Path) (i j:Nat) (ts:List T):(viewsFrom r p i j ts).length=ts.length:=by
 induction ts generalizing j with
 | nil=>rfl
 | cons t ts ih=>simp [viewsFrom,ih]
theorem get_viewsFrom (r:Nat) (p:Path) (i j:Nat) (ts:List T) (k:Nat):(viewsFrom r p i j ts)[k]?=(ts[k]?).map fun t=>viewC r (p++[(i,j+k)]) t:=by
 induction ts generalizing j k with
 | nil=>simp [viewsFrom]
 | cons t ts ih =>
  cases k with
  | zero=>simp [viewsFrom,app_eq]
  | succ k=>simp only [viewsFrom,List.getElem?_cons_succ,ih]; congr 4; funext; congr 4; omega
def takeN {β:Type}:Nat→List β→Option (List β)
 | 0,_=>some []
 | _+1,[]=>none
 | n+1,b :: l=>(takeN n l).map (b :: ·)
def dropN {β:Type}:Nat→List β→List β
 | 0,l=>l
 | _+1,[]=>[]
 | n+1,_ :: l=>dropN n l
theorem takeN_some {β:Type}:∀ {n:Nat} {l m:List β},takeN n l=some m→m=l.take n∧n≤l.length
 | 0,l,m,h=>by simp [takeN] at h; simp [h]
 | n+1,[],m,h=>by simp [takeN] at h
 | n+1,b :: l,m,h=>by
  simp only [takeN,Option.map_eq_some_iff] at h
  obtain ⟨m',h1,rfl⟩:=h
  obtain ⟨h2,h3⟩:=takeN_some h1
  exact ⟨by simp [h2],by simpa using h3⟩
theorem dropN_eq {β:Type}:∀ (n:Nat) (l:List β),dropN n l=l.drop n
 | 0,l=>by simp [dropN]
 | n+1,[]=>by simp [dropN]
 | n+1,b :: l=>by simp [dropN,dropN_eq n l]
def part {β:Type} (j n:Nat) (l:List β):Option (List β):=takeN n (dropN j l)
theorem part_some {β:Type} {j n:Nat} {l m:List β} (h:part j n l=some m):m.length=n∧∀ k b,m[k]?=some b→k<n∧l[j+k]?=some b:=by
 obtain ⟨h1,h2⟩:=takeN_some h
 rw [dropN_eq] at h1 h2
 subst h1
 refine ⟨by simp only [List.length_take]; omega,fun k b hk=>?_⟩
 simp only [List.getElem?_take,List.getElem?_drop] at hk
 split at hk
 ·rename_i hlt; exact ⟨hlt,hk⟩
 ·cases hk
def CB.toC:CB→C
 | .sh u=>.k u
 | .ow r p e=>.own r p e
def loadCsK (x:X) (pcell:C) (n:Nat) (K:List C→Option α):Option α:=match pcell with
 | .pt r p i j sz=>atK x r p fun t=>rowK t i sz fun cs=>(part j n cs).bind fun l=>K (viewsFrom r p i j l)
 | .rq _ cs j=>(part j n cs).bind fun l=>K (mapL C.k l)
 | .k t=>(t.shBox?).bind fun fc=>(part 0 n fc.2).bind fun l=>K (mapL C.k l)
 | .cb cs j=>(part j n cs).bind fun l=>K (mapL CB.toC l)
 | _=>none
theorem Lawful.row (t:T) (i sz:Nat):Lawful fun _ K=>rowK t i sz K:=by
 intro α K
 show rowK t i sz K=(rowK t i sz some).bind K
 rw [rowK_eq,rowK_eq]
 cases rowOf t i sz <;> rfl
theorem Lawful.loadCs (x:X) (pcell:C) (n:Nat):Lawful fun _ K=>loadCsK x pcell n K:=by
 unfold loadCsK
 cases pcell with
 | pt r p i j sz=>exact .comp (.at x r p) fun t=>.comp (.row t i sz) fun cs=>.bind _ fun l=>.pure _
 | rq f cs j=>exact .bind _ fun l=>.pure _
 | k t=>exact .bind _ fun fc=>.bind _ fun l=>.pure _
 | cb cs j=>exact .bind _ fun l=>.pure _
 | _=>exact .none
theorem shBox_rep {t:T} {v:Value} {f:Fl} {cs:List T} (h:RepR w s.S t v) (hb:t.shBox?=some (f,cs)):RepC w s (.rq f cs 0) v:=by
 cases h with
 | box _ f' cs' hb' b off vs hR hc hr =>
  rw [hb] at hb'
  simp only [Option.some.injEq,Prod.mk.injEq] at hb'
  obtain ⟨rfl,rfl⟩:=hb'
  have:=RepC.rq (w:=w) (s:=s) f cs 0 b off vs hR hc hr
  simpa using this
 | _=>simp [T.shBox?] at hb
theorem loadCs_sound (h:RelW B s x a w) {pcell:C} {v:Value} (hv:RepC w s pcell v) {n:Nat} {K:List C→Option α} {r:α} (hl:loadCsK x pcell n K=some r) :
 ∃ cs b o,K cs=some r∧v = .pointer (some ⟨b,o,none⟩)∧cs.length=n∧∀ (j:Nat) y,cs[j]?=some y→∃ u,w.cell? ⟨b,o+j,none⟩=some u∧RepC w s y u:=by
 have rqcase:∀ f cs j,RepC w s (.rq f cs j) v→((part j n cs).bind fun l=>K (mapL C.k l))=some r →
  ∃ cs b o,K cs=some r∧v = .pointer (some ⟨b,o,none⟩)∧cs.length=n∧∀ (j:Nat) y,cs[j]?=some y→∃ u,w.cell? ⟨b,o+j,none⟩=some u∧RepC w s y u:=by
  intro f cs0 j hv hl
  obtain ⟨l,hl1,hl2⟩:=Option.bind_eq_some_iff.mp hl
  obtain ⟨hn,hg⟩:=part_some hl1
  cases hv with
  | rq _ _ _ b off vs hR hc hr =>
   refine ⟨_,b,off+j,hl2,rfl,by rw [mapL_eq]; simpa using hn,fun k y hk=>?_⟩
   rw [mapL_eq,List.getElem?_map] at hk
   obtain ⟨u,hu,rfl⟩:=Option.map_eq_some_iff.mp hk
   have hu':=(hg k u hu).2
   exact ⟨vs (j+k),by rw [← hc _ u hu',Nat.add_assoc],.k _ _ (hr _ u hu')⟩
 cases pcell with
 | pt r0 p i j sz =>
  cases hv with
  | pt _ _ _ _ _ x0 b hΦ hb =>
   simp only [loadCsK] at hl
   obtain ⟨row,h1,hl⟩:=atK_some hl
   rw [rowK_eq] at hl
   obtain ⟨cs0,h2,hl⟩:=Option.bind_eq_some_iff.mp hl
   obtain ⟨l,h3,hl⟩:=Option.bind_eq_some_iff.mp hl
   obtain ⟨hn,hg⟩:=part_some h3
   refine ⟨_,b,offOf x0+(i * sz+j),hl,rfl,by rw [length_viewsFrom]; exact hn,fun k y hk=>?_⟩
   rw [get_viewsFrom] at hk
   obtain ⟨u,hu,rfl⟩:=Option.map_eq_some_iff.mp hk
   obtain ⟨v',arr,el,g1,g2,g3⟩:=own_row h h1 h2 hΦ hb (hg k u hu).2
   refine ⟨v',?_,view_own g3 rfl⟩
   rw [cell?_of_cells g1,Nat.add_assoc,Nat.add_assoc]; exact g2
 | rq f cs j=>exact rqcase f cs j hv hl
 | k t =>
  simp only [loadCsK] at hl
  obtain ⟨⟨f,cs⟩,h1,hl⟩:=Option.bind_eq_some_iff.mp hl
  cases hv with
  | k _ _ hv=>exact rqcase f cs 0 (shBox_rep hv h1) hl
 | cb cs j =>
  simp only [loadCsK] at hl
  obtain ⟨l,hl1,hl2⟩:=Option.bind_eq_some_iff.mp hl
  obtain ⟨hn,hg⟩:=part_some hl1
  cases hv with
  | cb _ _ b vs hR hc ht ho =>
   refine ⟨_,b,j,hl2,rfl,by rw [mapL_eq]; simpa using hn,fun k y hk=>?_⟩
   rw [mapL_eq,List.getElem?_map] at hk
   obtain ⟨u,hu,rfl⟩:=Option.map_eq_some_iff.mp hk
   have hu':=(hg k u hu).2
   refine ⟨vs (j+k),hc _ u hu',?_⟩
   cases u with
   | sh t=>exact .k _ _ (ht _ t hu')
   | ow r p e=>exact .own r p e _ (ho _ r p e hu')
 | _=>simp [loadCsK] at hl
def loadK (cx:Ctx) (x:X) (t:TypeId) (d:D) (K:D→Option α):Option α:=(look cx.Ty t).bind fun i=>match d with
 | .v (.c pcell)=>match i.d.isAgg with
  | true=>loadCsK x pcell i.size fun cs=>K (.v (.ag cs))
  | false=>loadCsK x pcell 1 fun cs=>match cs with
   | [y]=>K (.v (.c y))
   | _=>none
 | _=>none
theorem Lawful.load (cx:Ctx) (x:X) (t:TypeId) (d:D):Lawful fun _ K=>loadK cx x t d K:=by
 unfold loadK
 refine .bind _ fun i=>?_
 split
 ·split
  ·exact .comp (.loadCs _ _ _) fun cs=>.pure _
  ·exact .comp (.loadCs _ _ _) fun cs=>by
    split
    ·exact .pure _
    ·exact .none
 ·exact .none
theorem addr_add (b o j:Nat):(⟨b,o,none⟩:Addr).add j=⟨b,o+j,none⟩:=by
 unfold Addr.add; split <;> simp_all
theorem load_sound (h:RelW B s x a w) {d:D} {v:Value} (hv:RepD w s d v) {t:TypeId} {K:D→Option α} {r:α} (hl:loadK c x t d K=some r) :
 ∃ e u,K e=some r∧(Instr.loadAt t v).run c.P w = .ok u w∧RepD w s e u:=by
 unfold loadK at hl
 obtain ⟨i,e,hl⟩:=Option.bind_eq_some_iff.mp hl
 have hok:=c.hTy t i e
 split at hl
 ·rename_i y
  cases hv with
  | v _ _ hv=>cases hv with
   | c _ _ hv =>
    cases ha:i.d.isAgg with
    | true =>
     rw [ha] at hl
     obtain ⟨cs,b,o,hK,rfl,hn,hcs⟩:=loadCs_sound h hv hl
     have hex:∃ us:List Value,us.length=i.size∧∀ (j:Nat) y,cs[j]?=some y→∃ u,us[j]?=some u∧w.cell? ⟨b,o+j,none⟩=some u∧RepC w s y u:=by
      refine ⟨(List.range i.size).map fun j=>(w.cell? ⟨b,o+j,none⟩).getD undef,by simp,fun j y hj=>?_⟩
      obtain ⟨u,h1,h2⟩:=hcs j y hj
      have hlt:j<i.size:=by rw [← hn]; exact (List.getElem?_eq_some_iff.mp hj).1
      exact ⟨u,by simp [hlt,h1],h1,h2⟩
     obtain ⟨us,hus,hall⟩:=hex
     refine ⟨_,.agg us.toArray,hK,?_,.v _ _ (.ag cs us.toArray (by simp [hus,hn]) (fun j y hj=>?_))⟩
     ·have:=run_loadCells_list (P:=c.P) w ⟨b,o,none⟩ us (fun j u hj=>by
       have hlt:j<cs.length:=by rw [hn,← hus]; exact (List.getElem?_eq_some_iff.mp hj).1
       obtain ⟨u',h1,h2,_⟩:=hall j cs[j] (List.getElem?_eq_getElem hlt)
       rw [hj,Option.some.injEq] at h1
       subst h1
       rw [addr_add]; exact h2)
      rw [hus] at this
      simp only [Instr.loadAt,Instr.sureAddr,loadVar,Sem.run_bind,Sem.run_pure,Result.andThen_ok,hok.run_isAgg,ha,Sem.run_ite,if_true,hok.run_sizeOf,this]
     ·obtain ⟨u,h1,_,h3⟩:=hall j y hj
      exact ⟨u,by simpa using h1,h3⟩
    | false =>
     rw [ha] at hl
     obtain ⟨cs,b,o,hK,rfl,hn,hcs⟩:=loadCs_sound h hv hl
     split at hK
     ·rename_i y'
      obtain ⟨u,h1,h2⟩:=hcs 0 y' rfl
      refine ⟨_,u,hK,?_,.v _ _ (.c _ _ h2)⟩
      simp only [Nat.add_zero] at h1
      simp only [Instr.loadAt,Instr.sureAddr,loadVar,Sem.run_bind,Sem.run_pure,Result.andThen_ok,hok.run_isAgg,ha,Sem.run_ite,Bool.false_eq_true,if_false,run_load,h1]
     ·cases hK
 ·cases hl
end ops
end Go.V
namespace Go.V
open Go.RowKit
variable {α:Type}
def scal (v:Value):D:=.v (.c (.k (.v v)))
def D.val:D→Option Value
 | .v (.c (.k (.v z)))=>some z
 | _=>none
def addOff:C→Nat→Option C
 | .pt r p i j sz,f=>some (.pt r p i (j+f) sz)
 | .rq f cs j,k=>some (.rq f cs (j+k))
 | .cb cs j,k=>some (.cb cs (j+k))
 | .k t,k=>(t.shBox?).map fun fc=>.rq fc.1 fc.2 k
 | _,_=>none
def fieldAddrD (cx:Ctx) (s:TypeId) (f:Nat) (d:D):Option D :=
 (look cx.Ty s).bind fun i=>match i.d with
  | .st fs=>(nth fs f).bind fun ft=>(look cx.Ty ft.2).bind fun fi=>match fi.size with
   | 0=>none
   | _+1=>match d with
    | .v (.c y)=>(addOff y ft.1).map fun z=>.v (.c z)
    | _=>none
  | _=>none
def inB (n:Int) (len:Nat):Bool:=and (decide (0≤n)) (decide (n<(len:Int)))
theorem inB_spec {n:Int} {len:Nat} (h:inB n len=true):0≤n∧n<len∧n.toNat<len:=by
 simp only [inB,Bool.and_eq_true,decide_eq_true_eq] at h
 exact ⟨h.1,h.2,by omega⟩
def idxI {β:Type} (xs:List β) (n:Int):Option β:=cond (decide (0≤n)) (idxN xs n.toNat) none
theorem idxI_some {β:Type} {xs:List β} {n:Int} {b:β} (h:idxI xs n=some b):0≤n∧xs[n.toNat]?=some b∧n<xs.length:=by
 unfold idxI at h
 cases e:decide (0≤n) with
 | false=>rw [e] at h; cases h
 | true =>
  rw [e] at h
  have e:0≤n:=by simpa using e
  have h:xs[n.toNat]?=some b:=h
  have:=(List.getElem?_eq_some_iff.mp h).1
  exact ⟨e,h,by omega⟩
def slN (t:T):Option (Ty×Nat):=match t with
 | .sl .own e xs=>some (e,xs.length)
 | .slo e xs _ _=>some (e,xs.length)
 | _=>none
theorem slN_X {t:T} {en:Ty×Nat} (h:slN t=some en):∃ f,SlX t en.1 en.2 f:=by
 unfold slN at h
 split at h
 ·simp only [Option.some.injEq] at h; subst h; exact ⟨_,.sl _ _⟩
 ·simp only [Option.some.injEq] at h; subst h; exact ⟨_,.slo _ _ _ _⟩
 ·cases h
def idxCK (x:X) (y:C) (sz:Nat) (n:Int) (K:C→Option α):Option α:=match y with
 | .own r p _=>atK x r p fun t=>(slN t).bind fun en=>match Nat.beq en.1.size sz with
  | true=>cond (inB n en.2) (K (.pt r p n.toNat 0 sz)) none
  | false=>none
 | .sub r p lo m e=>match Nat.beq e.size sz with
  | true=>cond (inB n m) (K (.pt r p (lo+n.toNat) 0 sz)) none
  | false=>none
 | .k t=>match t with
  | .sl .own _ _=>none
  | .sl f e xs=>match Nat.beq e.size sz with
   | true=>(idxI xs n).bind fun b=>K (.rq f (cells f e b) 0)
   | false=>none
  | _=>none
 | _=>none
def idxAK (y:C) (sz m:Nat) (n:Int) (K:C→Option α):Option α:=match y with
 | .ra e xs=>match and (Nat.beq e.size sz) (Nat.ble xs.length m) with
  | true=>(idxI xs n).bind fun b=>K (.rq .ro (cells .ro e b) 0)
  | false=>none
 | _=>none
def indexAddrK (cx:Ctx) (x:X) (t:TypeId) (d ix:D) (K:D→Option α):Option α :=
 (look cx.Ty t).bind fun i=>match d with
  | .v (.c y)=>(ix.val).bind fun n=>match n with
   | .int .i64 n=>match i.d with
    | .sl e=>(look cx.Ty e).bind fun ei=>idxCK x y ei.size n fun z=>K (.v (.c z))
    | .arr m e=>(look cx.Ty e).bind fun ei=>idxAK y ei.size m n fun z=>K (.v (.c z))
    | _=>none
   | _=>none
  | _=>none
def lenCK (x:X) (y:C) (K:Nat→Option α):Option α:=match y with
 | .own r p _=>atK x r p fun t=>(slN t).bind fun en=>K en.2
 | .sub _ _ _ n _=>K n
 | .k t=>match t with
  | .sl .own _ _=>none
  | .sl _ _ xs=>K xs.length
  | _=>none
 | .nil=>K 0
 | _=>none
def lenK (cx:Ctx) (x:X) (t:TypeId) (d:D) (K:D→Option α):Option α :=
 (look cx.Ty t).bind fun i=>match i.d with
  | .sl _=>match d with
   | .v (.c y)=>lenCK x y fun n=>K (scal (.int .i64 n))
   | _=>none
  | .str=>(d.val).bind fun v=>match v with
   | .string s=>K (scal (.int .i64 s.data.toList.length))
   | _=>none
  | _=>none
def fieldD (cx:Ctx) (t:TypeId) (f:Nat) (d:D):Option D :=
 (look cx.Ty t).bind fun i=>match i.d with
  | .st fs=>(nth fs f).bind fun ft=>(look cx.Ty ft.2).bind fun fi=>match d with
   | .v (.ag cs)=>match fi.d.isAgg with
    | true=>(part ft.1 fi.size cs).map fun l=>.v (.ag l)
    | false=>(nth cs ft.1).map fun y=>.v (.c y)
   | _=>none
  | _=>none
def extractD (d:D) (j:Nat):Option D :=
 match d with
 | .tup xs=>(nth xs j).map .v
 | _=>none
def byteK (d ix:D) (K:D→Option α):Option α:=(d.val).bind fun v=>(ix.val).bind fun n=>match v with
 | .string s=>match n with
  | .int _ n=>(idxI s.data.toList n).bind fun b=>K (scal (.int .u8 b.toNat))
  | _=>none
 | _=>none
section ops
variable {c:Ctx} {B:Base} {s:Sit} {x:X} {a:Act} {w:World}
theorem scal_rep (v:Value) (h:v.oneCell'=true):RepD w s (scal v) v:=.v _ _ (.c _ _ (.k _ _ (.v v h)))
theorem D.val_sound {d:D} {v u:Value} (h:RepD w s d v) (hd:d.val=some u):v=u∧u.oneCell'=true:=by
 unfold D.val at hd
 split at hd
 ·simp only [Option.some.injEq] at hd
  subst hd
  cases h with
  | v _ _ h=>cases h with
   | c _ _ h=>cases h with
    | k _ _ h=>cases h with
     | v _ h1=>exact ⟨rfl,h1⟩
     | box _ _ _ hb=>simp [T.shBox?] at hb
 ·simp at hd
theorem addOff_sound {y z:C} {v:Value} {f:Nat} (h:RepC w s y v) (hz:addOff y f=some z):∃ b o,v = .pointer (some ⟨b,o,none⟩)∧RepC w s z (.pointer (some ⟨b,o+f,none⟩)):=by
 cases h with
 | pt r p i j sz x0 b hΦ hb =>
  simp only [addOff,Option.some.injEq] at hz
  subst hz
  exact ⟨b,_,rfl,by rw [Nat.add_assoc,Nat.add_assoc]; exact .pt r p i (j+f) sz x0 b hΦ hb⟩
 | rq fl cs j b off vs hR hc hr =>
  simp only [addOff,Option.some.injEq] at hz
  subst hz
  exact ⟨b,_,rfl,by rw [Nat.add_assoc]; exact .rq fl cs (j+f) b off vs hR hc hr⟩
 | k t v h =>
  simp only [addOff] at hz
  obtain ⟨⟨fl,cs⟩,h1,rfl⟩:=Option.map_eq_some_iff.mp hz
  cases h with
  | box _ f' cs' hb' b off vs hR hc hr =>
   rw [h1] at hb'
   simp only [Option.some.injEq,Prod.mk.injEq] at hb'
   obtain ⟨rfl,rfl⟩:=hb'
   exact ⟨b,off,rfl,.rq fl cs f b off vs hR hc hr⟩
  | _=>simp [T.shBox?] at h1
 | cb cs j b vs hR hc ht ho =>
  simp only [addOff,Option.some.injEq] at hz
  subst hz
  exact ⟨b,j,rfl,.cb cs (j+f) b vs hR hc ht ho⟩
 | _=>simp [addOff] at hz
theorem fieldAddr_sound {t:TypeId} {f:Nat} {d e:D} {v:Value} (h:RepD w s d v) (he:fieldAddrD c t f d=some e) :
 ∃ u,(∀ w',(Instr.fieldAt t v f).run c.P w' = .ok u w')∧RepD w s e u:=by
 unfold fieldAddrD at he
 obtain ⟨i,e1,he⟩:=Option.bind_eq_some_iff.mp he
 have hok:=c.hTy t i e1
 split at he
 ·rename_i fs hfs
  obtain ⟨fields,hu,hmap⟩:=hok.struct hfs
  obtain ⟨ft,e2,he⟩:=Option.bind_eq_some_iff.mp he
  obtain ⟨fi,e3,he⟩:=Option.bind_eq_some_iff.mp he
  have hokf:=c.hTy _ fi e3
  split at he
  ·cases he
  ·rename_i n hsz
   split at he
   ·rename_i y
    obtain ⟨z,e4,rfl⟩:=Option.map_eq_some_iff.mp he
    cases h with
    | v _ _ h=>cases h with
     | c _ _ h =>
      obtain ⟨b,o,rfl,hz⟩:=addOff_sound h e4
      refine ⟨_,?_,.v _ _ (.c _ _ hz)⟩
      intro w'
      rw [nth_eq,← hmap,List.getElem?_map] at e2
      obtain ⟨fld,e5,rfl⟩:=Option.map_eq_some_iff.mp e2
      have e6:fields[f]?=some fld:=by simpa using e5
      have hne : ¬ fi.size=0:=by omega
      simp only [Instr.fieldAt,Sem.run_bind,run_underlying hu,Result.andThen_ok,e6,Instr.sureAddr,Sem.run_pure,fieldPlace,hokf.run_sizeOf,Sem.run_ite,if_neg hne,addr_add]
   ·cases he
 ·cases he
theorem place_slice (h:RelW B s x a w) {r:Nat} {p:Path} {t:T} {e:Ty} {n:Nat} {f:Nat→Nat→Option T} (hX:SlX t e n f) (hp:x.at r p=some t) {v:Value} (hv:s.Φ r p=some v) :
 ∃ ad cap,v = .slice ad n cap∧n≤cap∧(0<cap→∃ b off,ad=some ⟨b,off,none⟩∧blkOf v=some b∧offOf v=off):=by
 unfold X.at at hp
 obtain ⟨row,h1,h2⟩:=Option.bind_eq_some_iff.mp hp
 obtain ⟨y0,hy0⟩:=h.roots r row h1
 obtain ⟨y,hy⟩:=getT_own p hy0 h2
 have hv':((s.Φ r).under p) []=some v:=by rw [Lay.under_apply_nil]; exact hv
 rcases hy.toX hX with ⟨ad,-,hn,h0,-,-⟩ | ⟨b,off,cap,arr,el,vs,-,hb,hcap,hsz,hc',hr,h0,hn'⟩
 ·rw [h0,Option.some.injEq] at hv'
  subst hv'
  exact ⟨ad,0,by rw [hn],by omega,fun h=>by omega⟩
 ·rw [h0,Option.some.injEq] at hv'
  subst hv'
  exact ⟨_,cap+1,rfl,hcap,fun _=>⟨b,off,rfl,rfl,rfl⟩⟩
theorem Lawful.idxC (x:X) (y:C) (sz:Nat) (n:Int):Lawful fun _ K=>idxCK x y sz n K:=by
 unfold idxCK
 split
 ·exact .comp (.at _ _ _) fun t=>.bind _ fun en=>by
   split
   ·exact .cond _ (.pure _) .none
   ·exact .none
 ·split
  ·exact .cond _ (.pure _) .none
  ·exact .none
 ·split
  ·exact .none
  ·split
   ·exact .bind _ fun b=>.pure _
   ·exact .none
  ·exact .none
 ·exact .none
theorem Lawful.idxA (y:C) (sz m:Nat) (n:Int):Lawful fun _ K=>idxAK y sz m n K:=by
 unfold idxAK
 split
 ·split
  ·exact .bind _ fun b=>.pure _
  ·exact .none
 ·exact .none
theorem Lawful.indexAddr (cx:Ctx) (x:X) (t:TypeId) (d ix:D):Lawful fun _ K=>indexAddrK cx x t d ix K:=by
 unfold indexAddrK
 refine .bind _ fun i=>?_
 split
 ·refine .bind _ fun n=>?_
  split
  ·split
   ·exact .bind _ fun ei=>.comp (.idxC _ _ _ _) fun z=>.pure _
   ·exact .bind _ fun ei=>.comp (.idxA _ _ _ _) fun z=>.pure _
   ·exact .none
  ·exact .none
 ·exact .none
theorem shared_row {f:Fl} {e:Ty} {xs:List (den e)} {v:Value} (h:RepR w s.S (.sl f e xs) v) {i:Nat} {b:den e} (hi:xs[i]?=some b) :
 ∃ bl off cap,v = .slice (some ⟨bl,off,none⟩) xs.length cap∧RepC w s (.rq f (cells f e b) 0) (.pointer (some ⟨bl,off+i * e.size,none⟩)):=by
 cases h with
 | nil=>simp at hi
 | sl _ _ _ bl off cap vs hR hcap hc hr =>
  refine ⟨bl,off,cap,rfl,?_⟩
  have hcell:∀ (j:Nat) t,(cells f e b)[j]?=some t→cellOf (rows f e xs) i j=some t:=fun j t e'=>by rw [cellOf_rows,hi,Option.bind_some,nth_eq]; exact e'
  have:=RepC.rq (w:=w) (s:=s) f (cells f e b) 0 bl (off+i * e.size) (fun j=>vs i j) hR (fun j t e'=>by rw [← hc i j t (hcell j t e')]) (fun j t e'=>hr i j t (hcell j t e'))
  simpa using this
 | box _ _ _ hb=>simp [T.shBox?] at hb
theorem idxC_sound (h:RelW B s x a w) {y:C} {v:Value} (hv:RepC w s y v) {sz:Nat} {n:Int} {K:C→Option α} {r:α} (hl:idxCK x y sz n K=some r) :
 ∃ z b o m cap,K z=some r∧v = .slice (some ⟨b,o,none⟩) m cap∧0≤n∧n<(m:Int)∧RepC w s z (.pointer (some ⟨b,o+n.toNat * sz,none⟩)):=by
 unfold idxCK at hl
 split at hl
 ·rename_i r0 p e0
  obtain ⟨t,h1,hl⟩:=atK_some hl
  obtain ⟨en,hen,hl⟩:=Option.bind_eq_some_iff.mp hl
  obtain ⟨f,hX⟩:=slN_X hen
  split at hl
  ·rename_i hsz
   have hsz:=Nat.eq_of_beq_eq_true hsz
   rcases cond_some hl with ⟨hb,hl⟩ | ⟨_,hl⟩
   ·obtain ⟨h0,hlt,hlt'⟩:=inB_spec hb
    cases hv with
    | own _ _ _ _ hΦ =>
     obtain ⟨ad,cap,rfl,hcap,hblk⟩:=place_slice h hX h1 hΦ
     obtain ⟨b,off,had,hbk,hoff⟩:=hblk (by omega)
     subst had
     refine ⟨_,b,off,_,cap,hl,rfl,h0,hlt,?_⟩
     have:=RepC.pt (w:=w) (s:=s) r0 p n.toNat 0 sz _ b hΦ hbk
     rw [hoff] at this
     simpa using this
   ·cases hl
  ·cases hl
 ·rename_i r0 p lo m e
  split at hl
  ·rename_i hsz
   have hsz:=Nat.eq_of_beq_eq_true hsz
   rcases cond_some hl with ⟨hb,hl⟩ | ⟨_,hl⟩
   ·obtain ⟨h0,hlt,hlt'⟩:=inB_spec hb
    cases hv with
    | sub _ _ _ _ _ ad a' n0 cap cap' hΦ hle hcap hcn hcc h00 hn =>
     obtain ⟨b,off,rfl,rfl⟩:=hn (by omega)
     refine ⟨_,b,off+lo * e.size,_,cap',hl,rfl,h0,hlt,?_⟩
     have hbk:blkOf (.slice (some ⟨b,off,none⟩) n0 cap)=some b:=by
      cases cap with
      | zero=>omega
      | succ cap=>rfl
     have:=RepC.pt (w:=w) (s:=s) r0 p (lo+n.toNat) 0 sz _ b hΦ hbk
     rw [hsz]
     rw [Nat.add_mul,Nat.add_zero,← Nat.add_assoc] at this
     exact this
   ·cases hl
  ·cases hl
 ·split at hl
  ·cases hl
  ·rename_i t f e xs hf
   split at hl
   ·rename_i hsz
    have hsz:=Nat.eq_of_beq_eq_true hsz
    obtain ⟨b,hb,hl⟩:=Option.bind_eq_some_iff.mp hl
    obtain ⟨h0,hi,hlt⟩:=idxI_some hb
    cases hv with
    | k _ _ hv =>
     obtain ⟨bl,off,cap,rfl,hrow⟩:=shared_row hv hi
     exact ⟨_,bl,off,_,cap,hl,rfl,h0,hlt,by rw [← hsz]; exact hrow⟩
   ·cases hl
  ·cases hl
 ·cases hl
theorem idxA_sound {y:C} {v:Value} (hv:RepC w s y v) {sz m:Nat} {n:Int} {K:C→Option α} {r:α} (hl:idxAK y sz m n K=some r) :
 ∃ z b o,K z=some r∧v = .pointer (some ⟨b,o,none⟩)∧0≤n∧n<(m:Int)∧RepC w s z (.pointer (some ⟨b,o+n.toNat * sz,none⟩)):=by
 unfold idxAK at hl
 split at hl
 ·rename_i e xs
  split at hl
  ·rename_i hm
   simp only [Bool.and_eq_true] at hm
   have hsz:=Nat.eq_of_beq_eq_true hm.1
   have hle:=Nat.le_of_ble_eq_true hm.2
   obtain ⟨b,hb,hl⟩:=Option.bind_eq_some_iff.mp hl
   obtain ⟨h0,hi,hlt⟩:=idxI_some hb
   cases hv with
   | ra _ _ _ hv=>cases hv with
    | ga _ _ bl off vs hR hw hc hr =>
     refine ⟨_,bl,off,hl,rfl,h0,by omega,?_⟩
     have hcell:∀ (j:Nat) t,(cells .ro e b)[j]?=some t→cellOf (rows .ro e xs) n.toNat j=some t:=fun j t e'=>by rw [cellOf_rows,hi,Option.bind_some,nth_eq]; exact e'
     have:=RepC.rq (w:=w) (s:=s) .ro (cells .ro e b) 0 bl (off+n.toNat * e.size) (fun j=>vs n.toNat j) hR (fun j t e'=>by rw [← hc _ j t (hcell j t e')]) (fun j t e'=>hr _ j t (hcell j t e'))
     rw [← hsz]
     simpa using this
    | box _ _ _ hb=>simp [T.shBox?] at hb
  ·cases hl
 ·cases hl
theorem indexAddr_sound (h:RelW B s x a w) {t:TypeId} {d ix:D} {v u:Value} (hv:RepD w s d v) (hx:RepD w s ix u) {K:D→Option α} {r:α} (he:indexAddrK c x t d ix K=some r) :
 ∃ e z,K e=some r∧(∀ w',(Instr.indexAt t v u).run c.P w' = .ok z w')∧RepD w s e z:=by
 unfold indexAddrK at he
 obtain ⟨i,e1,he⟩:=Option.bind_eq_some_iff.mp he
 have hok:=c.hTy t i e1
 split at he
 ·rename_i y
  obtain ⟨n0,hn0,he⟩:=Option.bind_eq_some_iff.mp he
  obtain ⟨rfl,-⟩:=D.val_sound hx hn0
  cases hv with
  | v _ _ hv=>cases hv with
   | c _ _ hv =>
    split at he
    ·rename_i n
     split at he
     ·rename_i el hel
      have hu:=hok.slice hel
      obtain ⟨ei,e2,he⟩:=Option.bind_eq_some_iff.mp he
      have hoke:=c.hTy _ ei e2
      obtain ⟨z,b,o,m,cap,hK,rfl,h0,hlt,hz⟩:=idxC_sound h hv he
      refine ⟨_,_,hK,?_,.v _ _ (.c _ _ hz)⟩
      intro w'
      simp only [Instr.indexAt,asIntOf,Sem.run_bind,Sem.run_pure,Result.andThen_ok,run_underlying hu]
      simp [h0,hlt,hoke.run_sizeOf,addr_add]
     ·rename_i m el hel
      have hu:=hok.array hel
      obtain ⟨ei,e2,he⟩:=Option.bind_eq_some_iff.mp he
      have hoke:=c.hTy _ ei e2
      obtain ⟨z,b,o,hK,rfl,h0,hlt,hz⟩:=idxA_sound hv he
      refine ⟨_,_,hK,?_,.v _ _ (.c _ _ hz)⟩
      intro w'
      simp only [Instr.indexAt,asIntOf,Sem.run_bind,Sem.run_pure,Result.andThen_ok,run_underlying hu,Instr.sureAddr]
      simp [h0,hlt,hoke.run_sizeOf,addr_add]
     ·cases he
    ·cases he
 ·cases he
theorem Lawful.lenC (x:X) (y:C):Lawful fun _ K=>lenCK x y K:=by
 unfold lenCK
 split
 ·exact .comp (.at _ _ _) fun t=>.bind _ fun en=>.pure _
 ·exact .pure _
 ·split
  ·exact .none
  ·exact .pure _
  ·exact .none
 ·exact .pure _
 ·exact .none
theorem lenC_sound (h:RelW B s x a w) {y:C} {v:Value} (hv:RepC w s y v) {K:Nat→Option α} {r:α} (hl:lenCK x y K=some r) :
 ∃ n ad cap,K n=some r∧v = .slice ad n cap∧n≤cap:=by
 unfold lenCK at hl
 split at hl
 ·obtain ⟨t,h1,hl⟩:=atK_some hl
  obtain ⟨en,hen,hl⟩:=Option.bind_eq_some_iff.mp hl
  obtain ⟨f,hX⟩:=slN_X hen
  cases hv with
  | own _ _ _ _ hΦ =>
   obtain ⟨ad,cap,rfl,hcap,_⟩:=place_slice h hX h1 hΦ
   exact ⟨_,ad,cap,hl,rfl,hcap⟩
 ·cases hv with
  | sub _ _ _ _ _ _ _ _ _ _ _ _ _ hcn=>exact ⟨_,_,_,hl,rfl,hcn⟩
 ·split at hl
  ·cases hl
  ·cases hv with
   | k _ _ hv=>cases hv with
    | nil=>exact ⟨_,_,_,hl,rfl,Nat.zero_le _⟩
    | sl _ _ _ _ _ _ _ _ hcap=>exact ⟨_,_,_,hl,rfl,hcap⟩
    | box _ _ _ hb=>simp [T.shBox?] at hb
  ·cases hl
 ·cases hv with
  | nil=>exact ⟨_,_,_,hl,rfl,Nat.le_refl _⟩
 ·cases hl
theorem Lawful.len (cx:Ctx) (x:X) (t:TypeId) (d:D):Lawful fun _ K=>lenK cx x t d K:=by
 unfold lenK
 refine .bind _ fun i=>?_
 split
 ·split
  ·exact .comp (.lenC _ _) fun n=>.pure _
  ·exact .none
 ·refine .bind _ fun v=>?_
  split
  ·exact .pure _
  ·exact .none
 ·exact .none
theorem len_sound (h:RelW B s x a w) {t ty:TypeId} {d:D} {v:Value} (hv:RepD w s d v) {K:D→Option α} {r:α} (he:lenK c x t d K=some r) :
 ∃ e z,K e=some r∧(∀ w',(Builtin.len_ #[t] ty #[v]).run c.P w' = .ok z w')∧RepD w s e z:=by
 unfold lenK at he
 obtain ⟨i,hi,he⟩:=Option.bind_eq_some_iff.mp he
 have hok:=c.hTy t i hi
 split at he
 ·rename_i el hel
  have hu:=hok.slice hel
  split at he
  ·cases hv with
   | v _ _ hv=>cases hv with
    | c _ _ hv =>
     obtain ⟨n,ad,cap,hK,rfl,-⟩:=lenC_sound h hv he
     exact ⟨_,.int .i64 n,hK,by intro w'; simp [Builtin.len_,run_underlying hu,goInt],scal_rep _ rfl⟩
  ·cases he
 ·rename_i hs
  have hu:=hok.string hs
  obtain ⟨v0,hv0,he⟩:=Option.bind_eq_some_iff.mp he
  split at he
  ·rename_i st
   obtain ⟨rfl,-⟩:=D.val_sound hv hv0
   exact ⟨_,.int .i64 st.data.toList.length,he,by intro w'; simp [Builtin.len_,run_underlying hu,goInt],scal_rep _ rfl⟩
  ·cases he
 ·cases he
theorem field_sound {t:TypeId} {f:Nat} {d e:D} {v:Value} (h:RepD w s d v) (he:fieldD c t f d=some e) :
 ∃ u,(∀ w',(Instr.field t v f).run c.P w' = .ok u w')∧RepD w s e u:=by
 unfold fieldD at he
 obtain ⟨i,e1,he⟩:=Option.bind_eq_some_iff.mp he
 have hok:=c.hTy t i e1
 split at he
 ·rename_i fs hfs
  obtain ⟨fields,hu,hmap⟩:=hok.struct hfs
  obtain ⟨ft,e2,he⟩:=Option.bind_eq_some_iff.mp he
  obtain ⟨fi,e3,he⟩:=Option.bind_eq_some_iff.mp he
  have hokf:=c.hTy _ fi e3
  rw [nth_eq,← hmap,List.getElem?_map] at e2
  obtain ⟨fld,e5,rfl⟩:=Option.map_eq_some_iff.mp e2
  have e6:fields[f]?=some fld:=by simpa using e5
  split at he
  ·rename_i cs
   cases h with
   | v _ _ h=>cases h with
    | ag _ arr hs hc =>
     cases ha:fi.d.isAgg with
     | true =>
      rw [ha] at he
      obtain ⟨l,e4,rfl⟩:=Option.map_eq_some_iff.mp he
      obtain ⟨hlen,hg⟩:=part_some e4
      refine ⟨.agg (arr.extract fld.offset (fld.offset+fi.size)),?_,.v _ _ (.ag _ _ ?_ (fun j y hj=>?_))⟩
      ·intro w'
       simp only [Instr.field,Sem.run_bind,run_underlying hu,Result.andThen_ok,e6,asAgg,Sem.run_pure,Go.part,hokf.run_isAgg,ha,Sem.run_ite,if_true,hokf.run_sizeOf]
      ·simp only [Array.size_extract,hs,hlen]
       obtain ⟨h2,h3⟩:=takeN_some e4
       rw [dropN_eq] at h3
       simp only [List.length_drop] at h3
       by_cases hz:fi.size=0
       ·omega
       ·omega
      ·obtain ⟨hlt,hy⟩:=hg j y hj
       obtain ⟨u,h1,h2⟩:=hc _ _ hy
       refine ⟨u,?_,h2⟩
       have hb:=(Array.getElem?_eq_some_iff.mp h1).1
       rw [Array.getElem?_extract,if_pos (by omega)]
       exact h1
     | false =>
      rw [ha] at he
      obtain ⟨y,e4,rfl⟩:=Option.map_eq_some_iff.mp he
      rw [nth_eq] at e4
      obtain ⟨u,h1,h2⟩:=hc _ _ e4
      refine ⟨u,?_,.v _ _ (.c _ _ h2)⟩
      intro w'
      simp only [Instr.field,Sem.run_bind,run_underlying hu,Result.andThen_ok,e6,asAgg,Sem.run_pure,Go.part,hokf.run_isAgg,ha,Sem.run_ite,Bool.false_eq_true,if_false,h1]
  ·cases he
 ·cases he
theorem extract_sound {d e:D} {j:Nat} {v:Value} (h:RepD w s d v) (he:extractD d j=some e) :
 ∃ u,(∀ w',(Instr.extract v j).run c.P w' = .ok u w')∧RepD w s e u:=by
 unfold extractD at he
 split at he
 ·obtain ⟨y,e4,rfl⟩:=Option.map_eq_some_iff.mp he
  rw [nth_eq] at e4
  cases h with
  | tup _ arr hs hc =>
   obtain ⟨u,h1,h2⟩:=hc _ _ e4
   exact ⟨u,by intro w'; simp [Instr.extract,h1],.v _ _ h2⟩
 ·cases he
theorem Lawful.byte (d ix:D):Lawful fun _ K=>byteK d ix K:=by
 unfold byteK
 refine .bind _ fun v=>.bind _ fun n=>?_
 split
 ·split
  ·exact .bind _ fun b=>.pure _
  ·exact .none
 ·exact .none
theorem byte_sound {t:TypeId} {d ix:D} {v u:Value} (h:RepD w s d v) (hx:RepD w s ix u) (ht:∃ i,look c.Ty t=some i∧i.d = .str) {K:D→Option α} {r:α} (he:byteK d ix K=some r) :
 ∃ e z,K e=some r∧(∀ w',(Instr.index t v u).run c.P w' = .ok z w')∧RepD w s e z:=by
 obtain ⟨i,hi,hd⟩:=ht
 have hu:=(c.hTy t i hi).string hd
 unfold byteK at he
 obtain ⟨v0,h1,he⟩:=Option.bind_eq_some_iff.mp he
 obtain ⟨n0,h2,he⟩:=Option.bind_eq_some_iff.mp he
 obtain ⟨rfl,-⟩:=D.val_sound h h1
 obtain ⟨rfl,-⟩:=D.val_sound hx h2
 split at he
 ·rename_i st _
  split at he
  ·rename_i n
   obtain ⟨b,hb,he⟩:=Option.bind_eq_some_iff.mp he
   obtain ⟨h0,hi,hlt⟩:=idxI_some hb
   refine ⟨_,.int .u8 b.toNat,he,?_,scal_rep _ rfl⟩
   intro w'
   have e4:st[n.toNat]?=some b:=by
    have hlt2:=(List.getElem?_eq_some_iff.mp hi).1
    have hs:n.toNat<st.size:=hlt2
    rw [getElem?_pos st n.toNat hs]
    rw [List.getElem?_eq_getElem hlt2] at hi
    simp only [Option.some.injEq] at hi ⊢
    rw [← hi]
    rfl
   simp only [Instr.index,asIntOf,Sem.run_bind,Sem.run_pure,Result.andThen_ok,run_underlying hu,if_pos h0,e4]
  ·cases he
 ·cases he
end ops
end Go.V
namespace Go.V
open Go.RowKit
variable {α:Type}
def okB (l h m:Option Int) (n:Nat):Bool:=match l with
 | none=>match h with
  | none=>match m with
   | none=>true
   | some _=>false
  | some h=>match m with
   | none=>and (decide (0≤h)) (decide (h≤n))
   | some m=>and (decide (0≤h)) (and (decide (h≤m)) (decide (m≤n)))
 | some l=>match h with
  | none=>match m with
   | none=>and (decide (0≤l)) (decide (l≤n))
   | some _=>false
  | some h=>match m with
   | none=>and (decide (0≤l)) (and (decide (l≤h)) (decide (h≤n)))
   | some m=>and (decide (0≤l)) (and (decide (l≤h)) (and (decide (h≤m)) (decide (m≤n))))
def loN (l:Option Int):Nat:=match l with | none=>0 | some l=>l.toNat
def hiN (h:Option Int) (n:Nat):Nat:=match h with | none=>n | some h=>h.toNat
def lenN (l h:Option Int) (n:Nat):Nat:=match l with
 | none=>match h with
  | none=>n
  | some h=>h.toNat
 | some l=>match h with
  | none=>n - l.toNat
  | some h=>h.toNat - l.toNat
theorem lenN_eq (l h:Option Int) (n:Nat):lenN l h n=hiN h n - loN l:=by
 cases l <;> cases h <;> rfl
theorem okB_spec {l h m:Option Int} {n:Nat} (hb:okB l h m n=true) :
 (∀ i,l=some i→0≤i)∧(∀ i,h=some i→0≤i)∧(∀ i,m=some i→0≤i)∧loN l≤hiN h n∧hiN h n≤n∧(∀ i,m=some i→hiN h n≤i.toNat∧i.toNat≤n∧h.isSome=true):=by
 cases l <;> cases h <;> cases m <;> simp only [okB,Bool.and_eq_true,decide_eq_true_eq,Bool.false_eq_true] at hb <;>
  simp only [loN,hiN,reduceCtorEq,false_implies,implies_true,Option.some.injEq,forall_eq',true_and,and_true,Option.isSome_some,Nat.zero_le,Nat.le_refl] <;> try omega
def cutL {β:Type} (xs:List β) (l h:Option Int):List β:=match l with
 | none=>match h with
  | none=>xs
  | some h=>xs.take h.toNat
 | some l=>match h with
  | none=>xs.drop l.toNat
  | some h=>(xs.take h.toNat).drop l.toNat
theorem cutL_eq {β:Type} {xs:List β} {l h m:Option Int} (hb:okB l h m xs.length=true):cutL xs l h=(xs.take (hiN h xs.length)).drop (loN l):=by
 cases l <;> cases h <;> simp [cutL,loN,hiN]
def cutK (x:X) (y:C) (l h m:Option Int) (K:C→Option α):Option α:=match y with
 | .own r p e=>atK x r p fun t=>(slN t).bind fun en=>cond (okB l h m en.2) (K (match l with
  | none=>match h with
   | none=>.own r p e
   | some _=>.sub r p (loN l) (lenN l h en.2) e
  | some _=>.sub r p (loN l) (lenN l h en.2) e)) none
 | .sub r p lo n e=>cond (okB l h m n) (K (.sub r p (lo+loN l) (lenN l h n) e)) none
 | .k t=>match t with
  | .sl .own _ _=>none
  | .sl f e xs=>cond (okB l h m xs.length) (K (.k (.sl f e (cutL xs l h)))) none
  | _=>none
 | .nil=>cond (okB l h m 0) (K .nil) none
 | .ra e xs=>match m with
  | none=>cond (okB l h m xs.length) (K (.k (.sl .ro e (cutL xs l h)))) none
  | some _=>none
 | _=>none
def cut0K (x:X) (y:C) (l h:Option Int) (K:C→Option α):Option α:=lenCK x y fun n=>cond (okB l h (some 0) n) (K .nil) none
def boundD (c:Ctx) (x:X) (o:Operand):Option Int:=(evalD c x o).bind fun d=>(d.val).bind fun v=>match v with
 | .int .i64 n=>some n
 | _=>none
def boundO (c:Ctx) (x:X) (o:Option Operand):Option (Option Int):=match o with
 | none=>some none
 | some o=>(boundD c x o).map some
def isZero (o:Option Operand):Bool:=match o with
 | some (.const (.int .i64 (.ofNat 0)))=>true
 | _=>false
def szC (y:C) (sz:Nat):Bool:=match y with
 | .own _ _ e=>Nat.beq e.size sz
 | .sub _ _ _ _ e=>Nat.beq e.size sz
 | .k (.sl _ e _)=>Nat.beq e.size sz
 | .nil=>true
 | .ra e _=>Nat.beq e.size sz
 | _=>false
def sliceK (c:Ctx) (x:X) (t:TypeId) (d:D) (lo hi mx:Option Operand) (K:D→Option α):Option α :=
 (look c.Ty t).bind fun i=>(boundO c x lo).bind fun l=>(boundO c x hi).bind fun h=>(boundO c x mx).bind fun m=>match i.d with
  | .sl e=>(look c.Ty e).bind fun ei=>match d with
   | .v (.c y)=>match szC y ei.size with
    | true=>match isZero mx with
     | true=>cut0K x y l h fun z=>K (.v (.c z))
     | false=>match y with
      | .ra _ _=>none
      | y=>cutK x y l h m fun z=>K (.v (.c z))
    | false=>none
   | _=>none
  | .arr n e=>(look c.Ty e).bind fun ei=>match d with
   | .v (.c (.ra e' xs))=>match m with
    | none=>cond (and (and (Nat.beq e'.size ei.size) (Nat.beq xs.length n)) (okB l h none n)) (K (.v (.c (.k (.sl .ro e' (cutL xs l h)))))) none
    | some _=>none
   | _=>none
  | .str=>(d.val).bind fun v=>match v with
   | .string s=>match m with
    | none=>cond (okB l h m s.data.toList.length) (K (scal (.string ⟨⟨cutL s.data.toList l h⟩⟩))) none
    | some _=>none
   | _=>none
  | _=>none
theorem Lawful.cut (x:X) (y:C) (l h m:Option Int):Lawful fun _ K=>cutK x y l h m K:=by
 unfold cutK
 split
 ·exact .comp (.at _ _ _) fun t=>.bind _ fun en=>.cond _ (.pure _) .none
 ·exact .cond _ (.pure _) .none
 ·split
  ·exact .none
  ·exact .cond _ (.pure _) .none
  ·exact .none
 ·exact .cond _ (.pure _) .none
 ·split
  ·exact .cond _ (.pure _) .none
  ·exact .none
 ·exact .none
theorem Lawful.cut0 (x:X) (y:C) (l h:Option Int):Lawful fun _ K=>cut0K x y l h K :=
 .comp (.lenC _ _) fun _=>.cond _ (.pure _) .none
theorem Lawful.slice (c:Ctx) (x:X) (t:TypeId) (d:D) (lo hi mx:Option Operand):Lawful fun _ K=>sliceK c x t d lo hi mx K:=by
 unfold sliceK
 refine .bind _ fun i=>.bind _ fun l=>.bind _ fun h=>.bind _ fun m=>?_
 split
 ·refine .bind _ fun ei=>?_
  split
  ·split
   ·split
    ·exact .comp (.cut0 _ _ _ _) fun _=>.pure _
    ·split
     ·exact .none
     ·exact .comp (.cut _ _ _ _ _) fun _=>.pure _
   ·exact .none
  ·exact .none
 ·refine .bind _ fun ei=>?_
  split
  ·split
   ·exact .cond _ (.pure _) .none
   ·exact .none
  ·exact .none
 ·refine .bind _ fun v=>?_
  split
  ·split
   ·exact .cond _ (.pure _) .none
   ·exact .none
  ·exact .none
 ·exact .none
section ops
variable {c:Ctx} {B:Base} {s:Sit} {x:X} {a:Act} {w:World}
theorem boundD_sound (hG:Fit B c) (h:RelW B s x a w) {o:Operand} {n:Int} (he:boundD c x o=some n):a.eval o = .int .i64 n:=by
 unfold boundD at he
 obtain ⟨d,h1,he⟩:=Option.bind_eq_some_iff.mp he
 obtain ⟨v,h2,he⟩:=Option.bind_eq_some_iff.mp he
 obtain ⟨h3,-⟩:=D.val_sound (evalD_sound hG h h1) h2
 split at he
 ·simp only [Option.some.injEq] at he; subst he; exact h3
 ·cases he
theorem boundO_sound (hG:Fit B c) (h:RelW B s x a w) {o:Option Operand} {n:Option Int} (he:boundO c x o=some n) :
 (o=none∧n=none)∨∃ o' n',o=some o'∧n=some n'∧a.eval o' = .int .i64 n':=by
 cases o with
 | none=>simp only [boundO,Option.some.injEq] at he; exact .inl ⟨rfl,he.symm⟩
 | some o =>
  obtain ⟨n',h1,rfl⟩:=Option.map_eq_some_iff.mp he
  exact .inr ⟨o,n',rfl,rfl,boundD_sound hG h h1⟩
def mxN (m:Option Int) (cap:Nat):Nat:=match m with | none=>cap | some m=>m.toNat
theorem bounds_run {w1:World} {P:Program} {isS:Bool} {lo hi mx:Option Operand} {l h m:Option Int} {len cap:Nat}
 (hl:(lo=none∧l=none)∨∃ o' n',lo=some o'∧l=some n'∧a.eval o' = .int .i64 n')
 (hh:(hi=none∧h=none)∨∃ o' n',hi=some o'∧h=some n'∧a.eval o' = .int .i64 n')
 (hm:(mx=none∧m=none)∨∃ o' n',mx=some o'∧m=some n'∧a.eval o' = .int .i64 n') (hb:okB l h m len=true) (hc:len≤cap) :
 (Instr.sliceBounds isS len cap (lo.map a.eval) (hi.map a.eval) (mx.map a.eval)).run P w1 = .ok (loN l,hiN h len,mxN m cap) w1:=by
 obtain ⟨p1,p2,p3,p4,p5,p6⟩:=okB_spec hb
 have sb:∀ (o:Operand) (n:Int) (y:Nat) (code:BoundsCode),a.eval o = .int .i64 n→0≤n→n.toNat≤y→(Instr.sliceBound (a.eval o) y code).run P w1 = .ok n.toNat w1:=by
  intro o n y code ho h0 hle
  rw [ho]
  have h1:n≤(y:Int):=by omega
  simp [Instr.sliceBound,asIntOf,h0,h1]
 rcases hl with ⟨rfl,rfl⟩ | ⟨lo,l,rfl,rfl,el⟩ <;> rcases hh with ⟨rfl,rfl⟩ | ⟨hi,h,rfl,rfl,eh⟩ <;> rcases hm with ⟨rfl,rfl⟩ | ⟨mx,m,rfl,rfl,em⟩ <;>
  simp only [loN,hiN,mxN] at p4 p5 p6 ⊢
 ·simp [Instr.sliceBounds]
 ·cases hb
 ·have e1:=fun code=>sb hi h cap code eh (p2 _ rfl) (by omega)
  simp [Instr.sliceBounds,e1]
 ·have hq:=p6 _ rfl
  have e0:=fun code=>sb mx m cap code em (p3 _ rfl) (by omega)
  have e1:=fun code=>sb hi h m.toNat code eh (p2 _ rfl) (by omega)
  simp [Instr.sliceBounds,e0,e1]
 ·have e1:=fun code=>sb lo l len code el (p1 _ rfl) (by omega)
  simp [Instr.sliceBounds,e1]
 ·cases hb
 ·have e1:=fun code=>sb hi h cap code eh (p2 _ rfl) (by omega)
  have e2:=fun code=>sb lo l h.toNat code el (p1 _ rfl) (by omega)
  simp [Instr.sliceBounds,e1,e2]
 ·have hq:=p6 _ rfl
  have e0:=fun code=>sb mx m cap code em (p3 _ rfl) (by omega)
  have e1:=fun code=>sb hi h m.toNat code eh (p2 _ rfl) (by omega)
  have e2:=fun code=>sb lo l h.toNat code el (p1 _ rfl) (by omega)
  simp [Instr.sliceBounds,e0,e1,e2]
theorem shared_cut {f:Fl} {e:Ty} {xs:List (den e)} {ad:Option Addr} {n cap:Nat} (hv:RepR w s.S (.sl f e xs) (.slice ad n cap)) {l h m:Option Int} (hb:okB l h m xs.length=true) (mc:Nat)
 (hmc:(m=none∧mc=cap)∨m=some (mc:Int)) :
 n=xs.length∧n≤cap∧RepR w s.S (.sl f e (cutL xs l h)) (.slice (if mc=loN l then ad else ad.map (·.add (loN l * e.size))) (hiN h xs.length - loN l) (mc - loN l)):=by
 rw [cutL_eq hb]
 obtain ⟨p1,p2,p3,p4,p5,p6⟩:=okB_spec hb
 generalize hval:Value.slice ad n cap=v at hv
 cases hv with
 | nil =>
  simp only [Value.slice.injEq] at hval
  obtain ⟨rfl,rfl,rfl⟩:=hval
  simp only [List.length_nil] at p5 p4 ⊢
  refine ⟨by simp,by simp,?_⟩
  have e1:hiN h 0=0:=by omega
  have e2:loN l=0:=by omega
  rw [e1,e2]
  exact .nil f e _ _
 | sl _ _ _ b off cap' vs hR hcap hc hr =>
  simp only [Value.slice.injEq] at hval
  obtain ⟨rfl,rfl,rfl⟩:=hval
  refine ⟨rfl,hcap,?_⟩
  have hmc':hiN h xs.length≤mc∧mc≤cap:=by
   rcases hmc with ⟨_,rfl⟩ | rfl
   ·exact ⟨by omega,Nat.le_refl _⟩
   ·have:=p6 _ rfl; omega
  have hlen:((xs.take (hiN h xs.length)).drop (loN l)).length=hiN h xs.length - loN l:=by simp; omega
  by_cases he:hiN h xs.length - loN l=0
  ·have:(xs.take (hiN h xs.length)).drop (loN l)=[]:=List.length_eq_zero_iff.mp (by omega)
   rw [this,he]
   exact .nil f e _ _
  ·rw [if_neg (by omega)]
   have hcell:∀ i j t,cellOf (rows f e ((xs.take (hiN h xs.length)).drop (loN l))) i j=some t→cellOf (rows f e xs) (loN l+i) j=some t:=by
    intro i j t e'
    rw [cellOf_rows] at e' ⊢
    rw [List.getElem?_drop,List.getElem?_take] at e'
    split at e'
    ·exact e'
    ·simp at e'
   have:=RepR.sl (w:=w) (S:=s.S) f e ((xs.take (hiN h xs.length)).drop (loN l)) b (off+loN l * e.size) (mc - loN l) (fun i j=>vs (loN l+i) j) hR (by omega)
    (fun i j t e'=>by rw [← hc _ j t (hcell i j t e')]; congr 2; rw [Nat.add_mul]; omega) (fun i j t e'=>hr _ _ _ (hcell i j t e'))
   rw [hlen] at this
   simpa [addr_add] using this
 | box _ _ _ hb'=>simp [T.shBox?] at hb'
theorem map_add (ad:Option Addr) (n:Nat) (b off:Nat) (h:ad=some ⟨b,off,none⟩):ad.map (·.add n)=some ⟨b,off+n,none⟩:=by
 subst h; simp [addr_add]
theorem add_zero_addr (ad:Option Addr):ad.map (·.add 0)=ad:=by cases ad <;> simp [Addr.add]
theorem cut_sound (h:RelW B s x a w) {y:C} {v:Value} (hv:RepC w s y v) {sz:Nat} (hsz:szC y sz=true) (hra:∀ e xs,y≠.ra e xs) {l hh m:Option Int} {K:C→Option α} {r:α} (hl:cutK x y l hh m K=some r) :
 ∃ q ad n cap,K q=some r∧v = .slice ad n cap∧n≤cap∧okB l hh m n=true ∧
  ∀ mc,((m=none∧mc=cap)∨m=some (mc:Int))→RepC w s q (.slice (if mc=loN l then ad else ad.map (·.add (loN l * sz))) (hiN hh n - loN l) (mc - loN l)):=by
 have range:∀ {n cap mc:Nat},n≤cap→okB l hh m n=true→((m=none∧mc=cap)∨m=some (mc:Int))→loN l≤hiN hh n∧hiN hh n≤n∧hiN hh n≤mc∧mc≤cap:=by
  intro n cap mc hcap hb hmc
  obtain ⟨p1,p2,p3,p4,p5,p6⟩:=okB_spec hb
  rcases hmc with ⟨_,rfl⟩ | rfl
  ·exact ⟨p4,p5,by omega,Nat.le_refl _⟩
  ·have:=p6 _ rfl; exact ⟨p4,p5,by omega,by omega⟩
 unfold cutK at hl
 split at hl
 ·rename_i r0 p e0
  have hsz:=Nat.eq_of_beq_eq_true hsz
  obtain ⟨t,h1,hl⟩:=atK_some hl
  obtain ⟨⟨e,nn⟩,hen,hl⟩:=Option.bind_eq_some_iff.mp hl
  obtain ⟨f,hX⟩:=slN_X hen
  simp only at hX hl
  rcases cond_some hl with ⟨hb,hl⟩ | ⟨_,hl⟩
  ·cases hv with
   | own _ _ _ _ hΦ =>
    obtain ⟨ad,cap,rfl,hcap,hblk⟩:=place_slice h hX h1 hΦ
    refine ⟨_,ad,_,cap,hl,rfl,hcap,hb,fun mc hmc=>?_⟩
    obtain ⟨q1,q2,q3,q4⟩:=range hcap hb hmc
    have hsub:RepC w s (.sub r0 p (loN l) (lenN l hh nn) e0) (.slice (if mc=loN l then ad else ad.map (·.add (loN l * sz))) (hiN hh nn - loN l) (mc - loN l)):=by
     rw [lenN_eq]
     refine .sub r0 p _ _ e0 ad _ _ cap _ hΦ (by omega) hcap (by omega) (by omega) (fun e1=>?_) (fun hne=>?_)
     ·rw [e1,Nat.zero_mul,add_zero_addr]; split <;> rfl
     ·obtain ⟨b,off,hb1,_⟩:=hblk (by omega)
      refine ⟨b,off,hb1,?_⟩
      rw [if_neg (by omega),map_add ad _ b off hb1,hsz]
    cases l with
    | some l=>exact hsub
    | none =>
     cases hh with
     | some hh=>exact hsub
     | none =>
      cases m with
      | some m=>simp [okB] at hb
      | none =>
       have hmc:mc=cap:=by simpa using hmc
       subst hmc
       simp only [loN,hiN,Nat.zero_mul,Nat.sub_zero]
       have:(if mc=0 then ad else ad.map (·.add 0))=ad:=by rw [add_zero_addr]; split <;> rfl
       rw [this]
       exact .own _ _ _ _ hΦ
  ·cases hl
 ·rename_i r0 p lo0 n0 e0
  have hsz:=Nat.eq_of_beq_eq_true hsz
  rcases cond_some hl with ⟨hb,hl⟩ | ⟨_,hl⟩
  ·cases hv with
   | sub _ _ _ _ _ ad a' nn cap cap' hΦ hle hcap hcn hcc h0 hn =>
    refine ⟨_,a',n0,cap',hl,rfl,hcn,hb,fun mc hmc=>?_⟩
    obtain ⟨q1,q2,q3,q4⟩:=range hcn hb hmc
    rw [lenN_eq]
    refine .sub r0 p _ _ e0 ad _ _ cap _ hΦ (by omega) hcap (by omega) (by omega) (fun e1=>?_) (fun hne=>?_)
    ·have e2:lo0=0:=by omega
     have e3:loN l=0:=by omega
     rw [e3,Nat.zero_mul,add_zero_addr,h0 e2]; split <;> rfl
    ·obtain ⟨b,off,hb1,hb2⟩:=hn (by omega)
     refine ⟨b,off,hb1,?_⟩
     rw [if_neg (by omega),hb2,Option.map_some,addr_add,Nat.add_mul,hsz,Nat.add_assoc]
  ·cases hl
 ·split at hl
  ·cases hl
  ·rename_i t f e xs _
   have hsz:=Nat.eq_of_beq_eq_true hsz
   rcases cond_some hl with ⟨hb,hl⟩ | ⟨_,hl⟩
   ·cases hv with
    | k _ _ hv =>
     have hval:∃ ad n cap,v = .slice ad n cap:=by
      cases hv with
      | nil=>exact ⟨_,_,_,rfl⟩
      | sl=>exact ⟨_,_,_,rfl⟩
      | box _ _ _ hb'=>simp [T.shBox?] at hb'
     obtain ⟨ad,n,cap,rfl⟩:=hval
     have hn0:=shared_cut hv hb (mxN m cap) (by
      cases m with
      | none=>exact .inl ⟨rfl,rfl⟩
      | some m =>
       obtain ⟨p1,p2,p3,p4,p5,p6⟩:=okB_spec hb
       refine .inr ?_
       have:=p3 m rfl
       simp only [Option.some.injEq,mxN]; omega)
     obtain ⟨rfl,hcap,_⟩:=hn0
     refine ⟨_,ad,_,cap,hl,rfl,hcap,hb,fun mc hmc=>.k _ _ ?_⟩
     rw [← hsz]
     exact (shared_cut hv hb mc hmc).2.2
   ·cases hl
  ·cases hl
 ·rcases cond_some hl with ⟨hb,hl⟩ | ⟨_,hl⟩
  ·cases hv with
   | nil ad =>
    refine ⟨_,ad,0,0,hl,rfl,Nat.le_refl _,hb,fun mc hmc=>?_⟩
    obtain ⟨q1,q2,q3,q4⟩:=range (Nat.le_refl 0) hb hmc
    have e1:hiN hh 0=0:=by omega
    have e2:mc=0:=by omega
    subst e2
    rw [e1]
    simp only [Nat.zero_sub]
    exact .nil _
  ·cases hl
 ·exact absurd rfl (hra _ _)
 ·cases hl
theorem isZero_spec {o:Option Operand} (h:isZero o=true):o=some (.const (.int .i64 0)):=by
 unfold isZero at h
 split at h
 ·rfl
 ·cases h
theorem slice_sound (hG:Fit B c) (h:RelW B s x a w) {t:TypeId} {d:D} {v:Value} {lo hi mx:Option Operand} (hv:RepD w s d v) {K:D→Option α} {r:α} (he:sliceK c x t d lo hi mx K=some r) :
 ∃ e u,K e=some r∧(∀ w',(Instr.sliceAt t v (lo.map a.eval) (hi.map a.eval) (mx.map a.eval)).run c.P w' = .ok u w')∧RepD w s e u:=by
 unfold sliceK at he
 obtain ⟨i,e1,he⟩:=Option.bind_eq_some_iff.mp he
 obtain ⟨l,el,he⟩:=Option.bind_eq_some_iff.mp he
 obtain ⟨hh,eh,he⟩:=Option.bind_eq_some_iff.mp he
 obtain ⟨m,em,he⟩:=Option.bind_eq_some_iff.mp he
 have hl:=boundO_sound hG h el
 have hhi:=boundO_sound hG h eh
 have hm:=boundO_sound hG h em
 have hok:=c.hTy t i e1
 split at he
 ·rename_i el0 hel
  have hu:=hok.slice hel
  obtain ⟨ei,e2,he⟩:=Option.bind_eq_some_iff.mp he
  have hoke:=c.hTy _ ei e2
  split at he
  ·rename_i y
   cases hv with
   | v _ _ hv=>cases hv with
    | c _ _ hv =>
     split at he
     ·rename_i hsz
      have hmxN:∀ {n cap:Nat},okB l hh m n=true→((m=none∧mxN m cap=cap)∨m=some ((mxN m cap:Nat):Int)):=by
       intro n cap hb
       cases m with
       | none=>exact .inl ⟨rfl,rfl⟩
       | some m =>
        obtain ⟨p1,p2,p3,p4,p5,p6⟩:=okB_spec hb
        have:=p3 m rfl
        refine .inr ?_
        simp only [Option.some.injEq,mxN]; omega
      cases hz:isZero mx with
      | true =>
       rw [hz] at he
       have hz:=isZero_spec hz
       obtain ⟨n,ad,cap,hK,rfl,hcap⟩:=lenC_sound h hv he
       rcases cond_some hK with ⟨hb,hK⟩ | ⟨_,hK⟩
       ·have hm0:m=some 0:=by
         rcases hm with ⟨h1,_⟩ | ⟨o',n',h1,h3,h2⟩
         ·rw [hz] at h1; cases h1
         ·rw [hz,Option.some.injEq] at h1
          subst h1
          simp only [Act.eval,Value.int.injEq,true_and] at h2
          rw [h3,h2]
        have hb':okB l hh m n=true:=by rw [hm0]; exact hb
        have hrun:=fun w1=>bounds_run (w1:=w1) (P:=c.P) (isS:=true) hl hhi hm hb' hcap
        obtain ⟨p1,p2,p3,p4,p5,p6⟩:=okB_spec hb
        have h6:=p6 0 rfl
        have e1:hiN hh n=0:=by simp at h6; omega
        have e2:loN l=0:=by omega
        have e3:mxN m cap=0:=by rw [hm0]; rfl
        refine ⟨_,.slice (if mxN m cap=loN l then ad else ad.map (·.add (loN l * ei.size))) (hiN hh n - loN l) (mxN m cap - loN l),hK,?_,.v _ _ (.c _ _ ?_)⟩
        ·intro w'
         simp only [Instr.sliceAt,Instr.slice,Sem.run_bind,run_underlying hu,Result.andThen_ok,hrun,hoke.run_sizeOf,Sem.run_pure]
        ·rw [e1,e2,e3]; exact .nil _
       ·cases hK
      | false =>
       rw [hz] at he
       simp only at he
       split at he
       ·cases he
       ·rename_i hra
        obtain ⟨q,ad,n,cap,hK,rfl,hcap,hb,hq⟩:=cut_sound h hv hsz (fun e xs e'=>hra e xs e') he
        have hrun:=fun w1=>bounds_run (w1:=w1) (P:=c.P) (isS:=true) hl hhi hm hb hcap
        refine ⟨_,_,hK,?_,.v _ _ (.c _ _ (hq (mxN m cap) (hmxN hb)))⟩
        intro w'
        simp only [Instr.sliceAt,Instr.slice,Sem.run_bind,run_underlying hu,Result.andThen_ok,hrun,hoke.run_sizeOf,Sem.run_pure]
     ·cases he
  ·cases he
 ·rename_i n0 el0 hel
  have hu:=hok.array hel
  obtain ⟨ei,e2,he⟩:=Option.bind_eq_some_iff.mp he
  have hoke:=c.hTy _ ei e2
  split at he
  ·rename_i e' xs _ _ _ _ _
   cases hv with
   | v _ _ hv=>cases hv with
    | c _ _ hv=>cases hv with
     | ra _ _ _ hv =>
      split at he
      ·rcases cond_some he with ⟨hb,hK⟩ | ⟨_,hK⟩
       ·simp only [Bool.and_eq_true] at hb
        obtain ⟨⟨hsz,hlen⟩,hb⟩:=hb
        have hsz:=Nat.eq_of_beq_eq_true hsz
        have hlen:=Nat.eq_of_beq_eq_true hlen
        subst hlen
        have hmx:mx=none:=by
         rcases hm with ⟨h1,_⟩ | ⟨o',n',h1,h2,_⟩
         ·exact h1
         ·cases h2
        have hrun:=fun w1=>bounds_run (w1:=w1) (P:=c.P) (isS:=false) (cap:=xs.length) hl hhi hm hb (Nat.le_refl _)
        rw [hmx] at hrun ⊢
        simp only [Option.map_none,mxN] at hrun ⊢
        cases hv with
        | ga _ _ b off vs hR hwb hc hr =>
         have hsl:=RepR.sl (w:=w) (S:=s.S) .ro e' xs b off xs.length vs hR (Nat.le_refl _) hc hr
         have hcut:=(shared_cut (s:=s) hsl hb xs.length (.inl ⟨rfl,rfl⟩)).2.2
         refine ⟨_,_,hK,?_,.v _ _ (.c _ _ (.k _ _ hcut))⟩
         intro w'
         simp only [Instr.sliceAt,Instr.sureAddr,Sem.run_bind,run_underlying hu,Result.andThen_ok,hrun,hoke.run_sizeOf,Sem.run_pure,hsz,Option.map_some]
         congr 2
         split <;> rfl
        | box _ _ _ hb'=>simp [T.shBox?] at hb'
       ·cases hK
      ·cases he
  ·cases he
 ·rename_i hs
  have hu:=hok.string hs
  obtain ⟨v0,hv0,he⟩:=Option.bind_eq_some_iff.mp he
  split at he
  ·rename_i st
   obtain ⟨rfl,-⟩:=D.val_sound hv hv0
   split at he
   ·rcases cond_some he with ⟨hb,he⟩ | ⟨_,he⟩
    ·have hmx:mx=none:=by
      rcases hm with ⟨h1,_⟩ | ⟨o',n',h1,h2,_⟩
      ·exact h1
      ·cases h2
     have hrun:=fun w1=>bounds_run (w1:=w1) (P:=c.P) (isS:=false) (cap:=st.data.toList.length) hl hhi hm hb (Nat.le_refl _)
     refine ⟨_,.string (st.extract (loN l) (hiN hh st.data.toList.length)),he,?_,?_⟩
     ·intro w'
      have hsz:st.size=st.data.toList.length:=rfl
      rw [hmx] at hrun ⊢
      simp only [Option.map_none] at hrun ⊢
      simp only [Instr.sliceAt,Instr.slice,Sem.run_bind,run_underlying hu,Result.andThen_ok,hsz,hrun,Sem.run_pure,Option.isSome_none,Bool.false_eq_true,if_false]
     ·have:(⟨⟨cutL st.data.toList l hh⟩⟩:ByteArray)=st.extract (loN l) (hiN hh st.data.toList.length):=by
       rw [cutL_eq hb,List.drop_take]
       exact (ByteArray.extract_mk st.data.toList _ _).symm
      rw [this]
      exact scal_rep _ rfl
    ·cases he
   ·cases he
  ·cases he
 ·cases he
end ops
end Go.V
