import Derived.Test.YtlfcemfcgmidlaaDoorLibG
namespace Go.V
open Go.RowKit
variable {α:Type}
def gd (nt:Fr) (o:Oper):Option Nat:=match o.dst with
 | some k=>some (nt.off+k)
 | none=>none
theorem gd_some {nt:Fr} {o:Oper} {k:Nat} (h:gd nt o=some k):∃ k0,o.dst=some k0∧k=nt.off+k0:=by
 unfold gd at h
 split at h
 ·rename_i k0 e
  simp only [Option.some.injEq] at h
  exact ⟨k0,e,h.symm⟩
 ·cases h
theorem gd_put {B:Base} {o:Oper} {k:Nat} (h:gd B.nt o=some k) (a:Act) (v:Value):a.put o.dst v=a.gput B k v:=by
 obtain ⟨k0,h1,rfl⟩:=gd_some h
 rw [gput_local,h1]
theorem gd_tv {B:Base} {l:List Oper} {j k:Nat} (h:(nth l j).bind (gd B.nt)=some k) {a:Act} {v:Value} (hv:B.tv a k=some v):∃ k0,(nth l j).bind (·.dst)=some k0∧a.tmps[k0]?=some v:=by
 obtain ⟨o,h1,h2⟩:=Option.bind_eq_some_iff.mp h
 obtain ⟨k0,h3,rfl⟩:=gd_some h2
 exact ⟨k0,by rw [h1]; exact h3,by rwa [tv_local] at hv⟩
def guardD (nt:Fr) (ops:List Oper) (x:X) (j:Nat):Option (Nat×D):=((nth ops j).bind (gd nt)).bind fun k=>(look x.env k).map fun d=>(k,d)
def isSlT (cx:Ctx) (t:TypeId):Bool:=match look cx.Ty t with
 | some i=>match i.d with
  | .sl _=>true
  | _=>false
 | none=>false
def stepO (cx:Ctx) (nt:Fr) (Δ:List (Nat×Fn)) (x:X) (o:Oper) (K:X→Option α):Option α:=match o.op with
 | .call cl=>match cl.callee with
  | .value (.func f)=>match o.dst with
   | some k=>callAK cx nt Δ x f cl.args.toList (nt.off+k) K
   | none=>none
  | _=>oneK cx nt x o K
 | .convert t1 t2 p=>match isSlT cx t1 with
  | true=>match o.dst with
   | some k=>strK cx nt x t1 t2 p (nt.off+k) K
   | none=>none
  | false=>oneK cx nt x o K
 | _=>oneK cx nt x o K
noncomputable def stepN (cx:Ctx) (nt:Fr) (Δ:List (Nat×Fn)) (x:X) (o:Oper) (K:X→Option α):Option α:=match ifcCmp o with
 | some (t,(p,neg))=>match o.dst with
  | some k=>ifcK cx nt x t p neg (nt.off+k) K
  | none=>none
 | none=>match nilCmp o with
  | some (t,(p,neg))=>match o.dst with
   | some k=>nilK cx nt x t p neg (nt.off+k) K
   | none=>none
  | none=>stepO cx nt Δ x o K
def skipK (nt:Fr) (x:X) (o:Oper) (K:X→Option α):Option α:=match o.dst with
 | some k=>putK nt x (nt.off+k) (.tup []) K
 | none=>K x
def eqB (b c:Bool):Bool:=match c with
 | true=>b
 | false=>!b
def asB:D→Option Bool
 | .v (.c (.k (.v (.bool b))))=>some b
 | _=>none
def isUndef:D→Bool
 | .tup []=>true
 | _=>false
def known (x:X) (k:Nat) (b:Bool):X:={ x with env:=(k,scal (.bool b)) :: x.env }
noncomputable def opsK (cx:Ctx) (nt:Fr) (Δ:List (Nat×Fn)) (all:List Oper):List Oper→X→(X→Option α)→Option α
 | [],x,K=>K x
 | o :: rest,x,K=>match o.guard with
  | none=>stepN cx nt Δ x o fun x'=>opsK cx nt Δ all rest x' K
  | some (j,want)=>(guardD nt all x j).bind fun kd=>match asB kd.2 with
   | some b=>cond (eqB b want) (stepN cx nt Δ (known x kd.1 want) o fun x'=>opsK cx nt Δ all rest x' K) (skipK nt (known x kd.1 (!want)) o fun x'=>opsK cx nt Δ all rest x' K)
   | none=>match isUndef kd.2 with
    | true=>skipK nt x o fun x'=>opsK cx nt Δ all rest x' K
    | false=>none
section
variable {c:Ctx} {nt:Fr} {Δ:List (Nat×Fn)}
theorem stepO_sound (hΔ:Known c.P c.G Δ) {B:Base} (hG:Fit B c) (hnt:B.nt=nt) {s:Sit} {x:X} {a:Act} {w:World} (h:RelW B s x a w) {o:Oper} {K:X→Option α} {q:α} (he:stepO c nt Δ x o K=some q)
 {Kp:Act→World→Prop} {Q:Exit→Act→World→Prop} (hK:∀ x' s' a' w',K x'=some q→RelW B s' x' a' w'→Kp a' w'):o.wp c.P a w Kp Q:=by
 have one:oneK c nt x o K=some q→o.wp c.P a w Kp Q:=by
  intro he
  obtain ⟨x',s',k1,n,w',hr,hcase⟩:=one_sound hG hnt h he
  unfold Oper.wp
  rw [hr]
  rcases hcase with ⟨v,rfl,hrel⟩ | ⟨rfl,hrel⟩
  ·exact hK _ _ _ _ k1 hrel
  ·exact hK _ _ _ _ k1 hrel
 unfold stepO at he
 split at he
 ·rename_i cl hop
  split at he
  ·rename_i f hcal
   split at he
   ·rename_i k hk
    have hF:∃ F,look Δ f=some F:=by
     unfold callAK at he
     obtain ⟨F,h1,_⟩:=Option.bind_eq_some_iff.mp he
     exact ⟨F,h1⟩
    obtain ⟨F,hF⟩:=hF
    obtain ⟨-,fn,hf,hb,hname⟩:=hΔ f F hF
    have hcall:=callA_sound hΔ hG hnt h he (Kp:=Kp) (fun x' s' v w' e1 e2=>hK x' s' _ w' e1 e2)
    have hrun:(execOp a.eval o).run c.P w = .ok (.enter f (cl.args.map a.eval)) w:=by
     have hbn : ¬ fn.body=none:=by intro e; rw [e] at hb; simp at hb
     have hname' : ¬ fn.name = "runtime.NumGoroutine" := by simpa using hname
     obtain ⟨callee,args,ats⟩:=cl
     simp only at hcal
     subst hcal
     simp [execOp,hop,resolve,Act.eval,Deferred.ofValue,invoke,callFunc,hf,hname',hbn]
    unfold Oper.wp
    rw [hrun,Oper.upon_enter]
    refine hcall.mono (fun e w' he=>?_)
    cases e with
    | returned v =>
     show Kp (a.put o.dst v) w'
     rw [hk]
     have he:Kp (a.gput B (nt.off+k) v) w':=he
     rwa [← hnt,gput_local] at he
    | _=>exact he.elim
   ·cases he
  ·exact one he
 ·rename_i t1 t2 p hop
  split at he
  ·split at he
   ·rename_i k hk
    obtain ⟨x',v,k1,k2,k3⟩:=str_sound hG hnt h he
    unfold Oper.wp
    have:(execOp a.eval o).run c.P w = .ok (.value v) w:=by
     simp only [execOp,hop,Sem.run_bind,k2]; rfl
    rw [this]
    rw [← hnt,gput_local,← hk] at k3
    exact hK _ _ _ _ k1 k3
   ·cases he
  ·exact one he
 ·exact one he
theorem stepN_sound (hΔ:Known c.P c.G Δ) {B:Base} (hG:Fit B c) (hnt:B.nt=nt) {s:Sit} {x:X} {a:Act} {w:World} (h:RelW B s x a w) {o:Oper} {K:X→Option α} {q:α} (he:stepN c nt Δ x o K=some q)
 {Kp:Act→World→Prop} {Q:Exit→Act→World→Prop} (hK:∀ x' s' a' w',K x'=some q→RelW B s' x' a' w'→Kp a' w'):o.wp c.P a w Kp Q:=by
 unfold stepN at he
 split at he
 ·rename_i t p neg ho
  split at he
  ·rename_i k hk
   obtain ⟨x',v,k1,k2,k3⟩:=ifc_sound hG hnt h ho he
   unfold Oper.wp
   rw [k2]
   rw [← hnt,gput_local,← hk] at k3
   exact hK _ _ _ _ k1 k3
  ·cases he
 split at he
 ·rename_i t p neg ho
  split at he
  ·rename_i k hk
   obtain ⟨x',v,k1,k2,k3⟩:=nil_sound hG hnt h ho he
   unfold Oper.wp
   rw [k2]
   rw [← hnt,gput_local,← hk] at k3
   exact hK _ _ _ _ k1 k3
  ·cases he
 ·exact stepO_sound hΔ hG hnt h he hK
theorem skip_sound {B:Base} (hnt:B.nt=nt) {s:Sit} {x:X} {a:Act} {w:World} (h:RelW B s x a w) {o:Oper} {K:X→Option α} {q:α} (he:skipK nt x o K=some q) :
 ∃ x',K x'=some q∧RelW B s x' (a.put o.dst undef) w:=by
 unfold skipK at he
 split at he
 ·rename_i k hk
  rw [hk]
  obtain ⟨x',k1,k2⟩:=put_sound hnt h he (.tup [] #[] rfl (fun j x e=>by simp at e))
  rw [← hnt,gput_local] at k2
  exact ⟨x',k1,k2⟩
 ·rename_i hk
  rw [hk]
  exact ⟨x,he,h⟩
theorem asB_some {d:D} {b:Bool} (h:asB d=some b):d=scal (.bool b):=by
 unfold asB at h
 split at h
 ·simp only [Option.some.injEq] at h; subst h; rfl
 ·cases h
theorem asB_sound {w:World} {s:Sit} {d:D} {v:Value} (h:RepD w s d v) {b:Bool} (hd:asB d=some b):v = .bool b:=by
 rw [asB_some hd] at h
 exact (D.val_sound h rfl).1
theorem isUndef_eq {d:D} (h:isUndef d=true):d = .tup []:=by
 cases d with
 | v x=>cases h
 | tup xs=>cases xs with
  | nil=>rfl
  | cons=>cases h
theorem ops_sound_to (hΔ:Known c.P c.G Δ) {B:Base} (hG:Fit B c) (hnt:B.nt=nt) {ops:Array Oper} {Q:Exit→Act→World→Prop} {K:X→Option α} {q:α} {l2:List Oper}
 (hK:∀ x s a w,RelW B s x a w→K x=some q→wpList c.P ops Q l2 a w) :
 ∀ (l:List Oper) (x:X) (s:Sit) (a:Act) (w:World),RelW B s x a w→opsK c nt Δ ops.toList l x K=some q→wpList c.P ops Q (l++l2) a w:=by
 intro l
 induction l with
 | nil=>intro x s a w h he; exact hK x s a w h he
 | cons o l ih =>
  intro x s a w h he
  rw [List.cons_append]
  refine wpList_step (fun K' hK'=>?_)
  have hnext:∀ x' s' a' w',opsK c nt Δ ops.toList l x' K=some q→RelW B s' x' a' w'→K' a' w':=fun x' s' a' w' e1 e2=>hK' a' w' (ih x' s' a' w' e2 e1)
  unfold opsK at he
  split at he
  ·rename_i hg
   rw [if_pos (by simp [Region.wanted,hg])]
   exact stepN_sound hΔ hG hnt h he hnext
  ·rename_i j want hg
   obtain ⟨⟨k,d⟩,h1,he1⟩:=Option.bind_eq_some_iff.mp he
   obtain ⟨k',h2,h3⟩:=Option.bind_eq_some_iff.mp h1
   obtain ⟨d',h4,h5⟩:=Option.map_eq_some_iff.mp h3
   simp only [Prod.mk.injEq] at h5
   obtain ⟨rfl,rfl⟩:=h5
   obtain ⟨v,h6',h7⟩:=h.env _ _ h4
   rw [← hnt] at h2
   obtain ⟨k0,h2',h6⟩:=gd_tv h2 h6'
   have hk':(ops[j]?).bind (·.dst)=some k0:=by rw [nth_eq] at h2'; simpa using h2'
   split at he1
   ·rename_i b hb
    have hv:=asB_sound h7 hb
    subst hv
    have hy:yielded ops a.tmps j=some b:=by simp [yielded,hk',h6]
    have hkn:∀ b',b'=b→RelW B s (known x k' b') a w:=fun b' e=>by subst e; exact h.reput h6' (scal_rep _ rfl)
    rcases cond_some he1 with ⟨hbw,he2⟩ | ⟨hbw,he2⟩
    ·have hbe:want=b:=by cases want <;> cases b <;> simp [eqB] at hbw ⊢
     rw [if_pos (by simp [Region.wanted,hg,hy,hbe])]
     exact stepN_sound hΔ hG hnt (hkn want hbe) he2 hnext
    ·have hbe:(!want)=b:=by cases want <;> cases b <;> simp [eqB] at hbw ⊢
     rw [if_neg (by subst hbe; cases want <;> simp [Region.wanted,hg,hy])]
     obtain ⟨x',k1,k2⟩:=skip_sound hnt (hkn _ hbe) he2
     exact hnext _ _ _ _ k1 k2
   ·split at he1
    ·rename_i hu
     have hd:=isUndef_eq hu
     simp only at hd
     subst hd
     have hv:v = .tuple #[]:=by
      cases h7 with
      | tup _ arr hs _ => have : arr = #[] := by apply Array.eq_empty_of_size_eq_zero; simpa using hs
                          rw [this]
     subst hv
     have hy:yielded ops a.tmps j=none:=by simp [yielded,hk',h6]
     rw [if_neg (by simp [Region.wanted,hg,hy])]
     obtain ⟨x',k1,k2⟩:=skip_sound hnt h he1
     exact hnext _ _ _ _ k1 k2
    ·cases he1
theorem ops_sound (hΔ:Known c.P c.G Δ) {B:Base} (hG:Fit B c) (hnt:B.nt=nt) {ops:Array Oper} {Q:Exit→Act→World→Prop} {K:X→Option α} {q:α}
 (hK:∀ x s a w,RelW B s x a w→K x=some q→Q .normal a w) (l:List Oper) (x:X) (s:Sit) (a:Act) (w:World) (h:RelW B s x a w) (he:opsK c nt Δ ops.toList l x K=some q):wpList c.P ops Q l a w:=by
 have:=ops_sound_to hΔ hG hnt (l2:=[]) (ops:=ops) (Q:=Q) (fun x s a w hr hk=>(hK x s a w hr hk:wpList c.P ops Q [] a w)) l x s a w h he
 rwa [List.append_nil] at this
end
end Go.V
namespace Go.V
open Go.RowKit
section
variable {c:Ctx} {nt:Fr} {Δ:List (Nat×Fn)}
theorem Lawful.put (nt:Fr) (x:X) (k:Nat) (d:D):Lawful fun _ K=>putK nt x k d K:=by
 unfold putK
 split
 ·split
  ·exact .none
  ·exact .pure _
 ·exact .none
theorem Lawful.new (nt:Fr) (x:X) (k:Nat) (t:T) (y:C):Lawful fun _ K=>newK nt x k t y K:=by
 unfold newK
 exact .bind _ fun x'=>.put _ _ _ _
theorem Lawful.upd (p:Path) (t n:T):Lawful fun _ (K:T×T→_)=>updK p t n fun old t'=>K (old,t'):=by
 intro α K
 exact updK_law p t n fun old t'=>K (old,t')
theorem Lawful.setAt (x:X) (r:Nat) (p:Path) (n:T):Lawful fun _ K=>setAtK x r p n fun t x'=>K (t,x'):=by
 unfold setAtK
 split
 ·exact .none
 ·refine .bind _ fun row=>?_
  refine (Lawful.upd p (.vr row) n).comp (g:=fun ot α K=>match ot.2 with
   | .vr row'=>K (ot.1,x.turned r p row' (and ot.1.isSh n.isSh))
   | _=>Option.none) fun ot=>?_
  obtain ⟨old,t'⟩:=ot
  simp only
  split
  ·exact .pure (old,_)
  ·exact .none
theorem Lawful.setAt2 (x:X) (r:Nat) (p:Path) (n:T) {β:Type} {g:T→X→(α:Type)→(β→Option α)→Option α} (hg:∀ t x',Lawful (g t x')):Lawful fun α K=>setAtK x r p n fun t x'=>g t x' α K :=
 (Lawful.setAt x r p n).comp (g:=fun tx=>g tx.1 tx.2) fun tx=>hg tx.1 tx.2
theorem Lawful.takeC (x:X) (hint:Option Ty) (y:C):Lawful fun _ K=>takeCK x hint y fun t x'=>K (t,x'):=by
 unfold takeCK
 split
 ·split
  ·exact .pure (_,x)
  ·exact .none
 ·split
  ·exact .pure (_,x)
  ·exact .none
 ·split
  ·exact .none
  ·refine .setAt2 _ _ _ _ fun t x'=>?_
   split
   ·exact .pure (_,x')
   ·exact .none
 ·split
  ·exact .none
  ·refine .setAt2 _ _ _ _ fun t x'=>?_
   split
   ·split
    ·exact .pure (_,x')
    ·exact .none
   ·exact .none
 ·split
  ·exact .none
  ·split
   ·split
    ·refine .setAt2 _ _ _ _ fun t x'=>?_
     split
     ·exact .pure (_,x')
     ·exact .pure (_,x')
     ·exact .pure (_,x')
     ·exact .none
    ·exact .none
   ·exact .none
 ·exact .none
theorem Lawful.takeC2 (x:X) (hint:Option Ty) (y:C) {β:Type} {g:T→X→(α:Type)→(β→Option α)→Option α} (hg:∀ t x',Lawful (g t x')):Lawful fun α K=>takeCK x hint y fun t x'=>g t x' α K :=
 (Lawful.takeC x hint y).comp (g:=fun tx=>g tx.1 tx.2) fun tx=>hg tx.1 tx.2
theorem Lawful.takeCs {β:Type}:∀ (n:Nat) (hs:List (Option Ty)) (ys:List C) (x:X) {g:List T→X→(α:Type)→(β→Option α)→Option α} (_:∀ t x',Lawful (g t x')),Lawful fun α K=>takeCsK hs ys n x fun t x'=>g t x' α K
 | 0,hs,ys,x,g,hg=>hg [] x
 | n+1,hs,[],x,g,hg=>hg [] x
 | n+1,hs,y :: ys,x,g,hg=>by
  unfold takeCsK
  simp only
  split
  ·exact .takeC2 _ _ _ fun t x1=>.takeCs n _ _ _ fun ts x2=>hg _ x2
  ·exact .none
theorem Lawful.freeze (x:X) (r:Nat) (p:Path) {β:Type} {g:T→X→(α:Type)→(β→Option α)→Option α} (hg:∀ t x',Lawful (g t x')):Lawful fun α K=>freezeK x r p fun t x'=>g t x' α K:=by
 unfold freezeK
 split
 ·exact .none
 ·refine .setAt2 _ _ _ _ fun t x'=>?_
  split
  ·exact .setAt2 _ _ _ _ fun t x'=>hg _ _
  ·exact .none
theorem Lawful.prep {β:Type} {g:List C→X→(α:Type)→(β→Option α)→Option α} (hg:∀ t x',Lawful (g t x')):∀ (fs:List (Option Ty)) (acc ys:List C) (x:X),Lawful fun α K=>prepK fs acc ys x fun t x'=>g t x' α K
 | [],acc,ys,x=>by cases ys <;> exact hg _ x
 | fr :: fs,acc,[],x=>hg acc x
 | fr :: fs,acc,y :: ys,x=>by
  unfold prepK
  split
  ·split
   ·exact .freeze _ _ _ fun t x1=>.prep hg fs _ _ _
   ·exact .prep hg fs _ _ _
   ·exact .prep hg fs _ _ _
  ·exact .prep hg fs _ _ _
theorem Lawful.takeAll (i:TyInfo) (vd:D) (x:X) {β:Type} {g:List T→X→(α:Type)→(β→Option α)→Option α} (hg:∀ t x',Lawful (g t x')):Lawful fun α K=>takeAllK i vd x fun t x'=>g t x' α K:=by
 unfold takeAllK
 split
 ·exact .prep (fun ys x1=>.takeCs _ _ _ _ hg) _ _ _ _
 ·exact .none
theorem Lawful.src (x:X) (e:Ty) (z:C) {β:Type} {g:List (den e)→X→(α:Type)→(β→Option α)→Option α} (hg:∀ t x',Lawful (g t x')):Lawful fun α K=>srcK x e z fun t x'=>g t x' α K:=by
 unfold srcK
 split
 ·split
  ·exact .none
  ·split
   ·exact .bind _ fun ys=>hg _ _
   ·exact .none
  ·exact .bind _ fun ys=>hg _ _
  ·exact .none
 ·exact hg _ _
 ·split
  ·refine .comp (.at _ _ _) fun t=>?_
   split
   ·exact .bind _ fun ys=>hg _ _
   ·exact .none
  ·refine .takeC2 _ _ _ fun t x1=>?_
   split
   ·exact .bind _ fun ys=>hg _ _
   ·exact .none
 ·split
  ·refine .comp (.at _ _ _) fun t=>?_
   split
   ·split
    ·exact .bind _ fun ys=>hg _ _
    ·exact .none
   ·exact .none
  ·exact .none
 ·exact .none
theorem Lawful.append (cx:Ctx) (nt:Fr) (x:X) (ats:Array TypeId) (d1 d2:D) (k:Nat):Lawful fun _ K=>appendK cx nt x ats d1 d2 k K:=by
 unfold appendK
 refine .bind _ fun st=>.bind _ fun xt=>.bind _ fun i=>.bind _ fun xi=>?_
 split
 ·refine .bind _ fun ei=>.bind _ fun y=>.bind _ fun z=>?_
  split
  ·refine .takeC2 _ _ _ fun t x1=>?_
   split
   ·exact .bind _ fun xs=>.src _ _ _ fun ys x2=>.cond _ (.new _ _ _ _ _) .none
   ·exact .none
  ·exact .none
 ·exact .none
theorem Lawful.alloc (cx:Ctx) (nt:Fr) (x:X) (t:TypeId) (k:Nat):Lawful fun _ K=>allocK cx nt x t k K:=by
 unfold allocK
 refine .bind _ fun i=>?_
 split
 ·exact .new _ _ _ _ _
 ·exact .none
theorem Lawful.box (cx:Ctx) (nt:Fr) (x:X) (t:TypeId) (vd:D) (k:Nat):Lawful fun _ K=>boxK cx nt x t vd k K:=by
 unfold boxK
 exact .bind _ fun i=>.takeAll _ _ _ fun ts x1=>.new _ _ _ _ _
theorem Lawful.boxP (cx:Ctx) (nt:Fr) (x:X) (t:TypeId) (r:Nat) (p:Path) (k:Nat):Lawful fun _ K=>boxPK cx nt x t r p k K:=by
 unfold boxPK
 refine .bind _ fun i=>?_
 split
 ·exact .none
 ·exact .setAt2 _ _ _ _ fun old x1=>.bind _ fun _=>.bind _ fun x2=>.put _ _ _ _
theorem Lawful.boxM (cx:Ctx) (nt:Fr) (x:X) (t:TypeId) (vd:D) (k:Nat):Lawful fun _ K=>boxMK cx nt x t vd k K:=by
 unfold boxMK
 split
 ·exact .boxP _ _ _ _ _ _ _
 ·exact .box _ _ _ _ _ _
theorem Lawful.boxB (cx:Ctx) (nt:Fr) (x:X) (t:TypeId) (vd:D) (k:Nat):Lawful fun _ K=>boxBK cx nt x t vd k K:=by
 unfold boxBK
 refine .bind _ fun i=>?_
 split
 ·exact .put _ _ _ _
 ·exact .boxM _ _ _ _ _ _
theorem Lawful.buildSlice (cx:Ctx) (nt:Fr) (x:X) (t:TypeId) (len:Nat) (parts:Array (Nat×Operand)) (k:Nat):Lawful fun _ K=>buildSliceK cx nt x t len parts k K:=by
 unfold buildSliceK
 refine .bind _ fun i=>?_
 split
 ·refine .bind _ fun ei=>?_
  split
  ·exact .bind _ fun ys=>.prep (fun ys x0=>.takeCs _ _ _ _ fun ts x1=>.bind _ fun xs=>.new _ _ _ _ _) _ _ _ _
  ·exact .none
 ·exact .none
theorem Lawful.makeSlice (cx:Ctx) (nt:Fr) (x:X) (t:TypeId) (ld cd:D) (k:Nat):Lawful fun _ K=>makeSliceK cx nt x t ld cd k K:=by
 unfold makeSliceK
 refine .bind _ fun i=>?_
 split
 ·refine .bind _ fun ei=>.bind _ fun lv=>.bind _ fun cv=>?_
  split
  ·split
   ·split
    ·exact .bind _ fun z0=>.cond _ (.new _ _ _ _ _) .none
    ·exact .none
   ·exact .none
  ·exact .none
 ·exact .none
theorem Lawful.zeros (cx:Ctx) (nt:Fr) (x:X) (ats:Array TypeId) (d1 d2:D) (k:Nat):Lawful fun _ K=>zerosK cx nt x ats d1 d2 k K:=by
 unfold zerosK
 refine .bind _ fun st=>.bind _ fun xt=>.bind _ fun i=>.bind _ fun xi=>?_
 split
 ·refine .bind _ fun ei=>.bind _ fun y=>.bind _ fun nv=>?_
  split
  ·split
   ·exact .bind _ fun z0=>.cond _ (.new _ _ _ _ _) .none
   ·exact .none
  ·exact .none
 ·exact .none
theorem Lawful.grow (cx:Ctx) (nt:Fr) (x:X) (op:Op) (k:Nat):Lawful fun _ K=>growK cx nt x op k K:=by
 unfold growK
 split
 ·exact .alloc _ _ _ _ _
 ·exact .bind _ fun d=>.boxB _ _ _ _ _ _
 ·exact .buildSlice _ _ _ _ _ _ _
 ·exact .bind _ fun d=>.bind _ fun d'=>.makeSlice _ _ _ _ _ _ _
 ·split
  ·refine .bind _ fun pq=>.bind _ fun d=>.bind _ fun d'=>?_
   split
   ·exact .zeros _ _ _ _ _ _ _
   ·exact .append _ _ _ _ _ _ _
  ·exact .none
 ·exact .none
theorem Lawful.one (cx:Ctx) (nt:Fr) (x:X) (o:Oper) (h:o.dst.isSome=true):Lawful fun _ K=>oneK cx nt x o K:=by
 unfold oneK
 split
 ·split
  ·rename_i e; rw [e] at h; simp at h
  ·exact .none
 ·split
  ·rename_i e; rw [e] at h; simp at h
  ·split
   ·exact .grow _ _ _ _ _
   ·exact (Lawful.read cx x o.op).comp fun d=>.put _ _ _ _
theorem Lawful.lendC (x:X) (f:Fl) (hint:Option Ty) (y:C):Lawful fun _ K=>lendCK x f hint y K:=by
 unfold lendCK
 split
 ·split
  ·split
   ·split
    ·exact .none
    ·exact .pure _
   ·split
    ·exact .pure _
    ·exact .none
  ·split
   ·split
    ·exact .none
    ·exact .pure _
   ·split
    ·exact .pure _
    ·exact .none
  ·exact .pure _
  ·exact .none
 ·split
  ·exact .none
  ·exact .bind _ fun e=>.pure _
 ·split
  ·refine .comp (.at _ _ _) fun t=>?_
   split
   ·exact .pure _
   ·exact .none
  ·exact .none
 ·split
  ·refine .comp (.at _ _ _) fun t=>?_
   split
   ·split
    ·exact .pure _
    ·exact .none
   ·exact .none
  ·exact .none
 ·split
  ·refine .comp (.at _ _ _) fun t=>?_
   split
   ·exact .pure _
   ·exact .none
  ·exact .none
 ·exact .none
theorem Lawful.lendCs (x:X) (f:Fl):∀ (hs:List (Option Ty)) (ys:List C),Lawful fun _ K=>lendCsK x f hs ys K
 | _,[]=>.pure []
 | h :: hs,y :: ys=>(Lawful.lendC x f h y).comp fun _=>(Lawful.lendCs x f hs ys).comp fun _=>.pure _
 | [],y :: ys=>(Lawful.lendC x f Option.none y).comp fun _=>(Lawful.lendCs x f [] ys).comp fun _=>.pure _
theorem Lawful.arg (cx:Ctx) (x:X) (p:PS) (o:Operand):Lawful fun _ K=>argK cx x p o K:=by
 unfold argK
 exact .bind _ fun d=>.bind _ fun ys=>(Lawful.lendCs _ _ _ _).comp fun ts=>.bind _ fun d=>.pure _
theorem Lawful.args (cx:Ctx) (x:X):∀ (l:List PS) (os:List Operand),Lawful fun _ K=>argsK cx x l os K
 | [],[]=>.pure ()
 | [],_ :: _=>.none
 | [_p],os=>.bind (one? os) fun _=>.arg _ _ _ _
 | _p :: _q :: _l,[]=>.none
 | p :: q :: l,o :: os=>(Lawful.arg cx x p o).comp fun d=>(Lawful.args cx x (q :: l) os).comp fun e=>.pure (d,e)
theorem Lawful.argM (cx:Ctx) (x0 x:X) (p:PS) (o:Operand):Lawful fun _ K=>argMK cx x0 x p o K:=by
 unfold argMK
 split
 ·exact .bind _ fun r=>.bind _ fun d=>.pure _
 ·exact .arg _ _ _ _
theorem Lawful.argsM (cx:Ctx) (x0 x:X):∀ (l:List PS) (os:List Operand),Lawful fun _ K=>argsMK cx x0 x l os K
 | [],[]=>.pure ()
 | [],_ :: _=>.none
 | [_p],os=>.bind (one? os) fun _=>.argM _ _ _ _ _
 | _p :: _q :: _l,[]=>.none
 | p :: q :: l,o :: os=>(Lawful.argM cx x0 x p o).comp fun d=>(Lawful.argsM cx x0 x (q :: l) os).comp fun e=>.pure (d,e)
theorem Lawful.giveBack (k:Nat):∀ (rs:List Nat) (n:Nat) (x:X),Lawful fun _ K=>giveBackK k n rs x K
 | [],n,x=>.pure x
 | r :: rs,n,x=>by
  unfold giveBackK
  refine .takeC2 _ _ _ fun t x1=>?_
  split
  ·exact .bind _ fun x2=>.giveBack k rs _ _
  ·exact .bind _ fun x2=>.giveBack k rs _ _
  ·exact .none
theorem Lawful.callD (cx:Ctx) (nt:Fr) (x:X) (args:List Operand) (k:Nat) (sg:Sig) (sem:den (argTy sg.ps)→Option (den (resTy sg.rs))):Lawful fun _ K=>callDK cx nt x args k K sg sem:=by
 rcases sg with ⟨ps,rs⟩
 rcases ps with _ | ⟨⟨b1,f1,e⟩,_ | ⟨p,l⟩⟩
 ·exact .none
 ·cases e <;> exact .none
 ·rcases rs with _ | ⟨⟨b2,f2,e'⟩,_ | ⟨_,_⟩⟩
  ·cases e <;> exact .none
  ·cases e with
   | sl e =>
    cases e' with
    | sl e' =>
     cases args with
     | nil=>exact .none
     | cons o os =>
      refine .bind _ fun d0=>.bind _ fun y=>.takeC2 _ _ _ fun t x1=>?_
      split
      ·exact .bind _ fun xs=>(Lawful.args cx x1 (p :: l) os).comp fun d=>.bind _ fun r=>.new _ _ _ _ _
      ·exact .none
    | _=>exact .none
   | _=>exact .none
  ·cases e with
   | sl e=>cases e' <;> exact .none
   | _=>exact .none
theorem Lawful.callT (cx:Ctx) (nt:Fr) (x:X) (args:List Operand) (k:Nat) (sg:Sig) (sem:den (argTy sg.ps)→Option (den (resTy sg.rs))):Lawful fun _ K=>callTK cx nt x args k K sg sem:=by
 rcases sg with ⟨ps,rs⟩
 rcases ps with _ | ⟨⟨b1,f1,e⟩,_ | ⟨p,l⟩⟩
 ·exact .none
 ·rcases rs with _ | ⟨⟨b2,f2,e'⟩,_ | ⟨_,_⟩⟩
  ·cases e <;> exact .none
  ·cases e with
   | bld t =>
    cases e' with
    | str =>
     match args with
     | []=>exact .none
     | [o]=>exact .bind _ fun d0=>.bind _ fun y=>.takeC2 _ _ _ fun t x1=>.bind _ fun d=>.bind _ fun r=>.put _ _ _ _
     | _ :: _ :: _=>exact .none
    | _=>exact .none
   | _=>exact .none
  ·cases e with
   | bld t=>cases e' <;> exact .none
   | _=>exact .none
 ·cases e <;> exact .none
theorem Lawful.call (cx:Ctx) (nt:Fr) (Δ:List (Nat×Fn)) (x:X) (f:FuncId) (args:List Operand) (k:Nat):Lawful fun _ K=>callAK cx nt Δ x f args k K:=by
 unfold callAK
 refine .bind _ fun F=>?_
 split
 ·unfold callMK
  refine .bind _ fun pr=>?_
  unfold callRsK
  split
  ·exact (Lawful.argsM cx _ x F.sg.ps args).comp fun d=>.bind _ fun r=>.bind _ fun x1=>(Lawful.put _ _ _ _).comp fun x2=>(Lawful.giveBack _ _ _ _).comp fun x3=>.pure _
  ·exact .none
 ·exact .callD _ _ _ _ _ _ _
 ·exact .callT _ _ _ _ _ _ _
 ·unfold callK
  exact (Lawful.args cx x F.sg.ps args).comp fun d=>.bind _ fun r=>.bind _ fun x1=>.put _ _ _ _
theorem Lawful.str (cx:Ctx) (nt:Fr) (x:X) (t1 t2:TypeId) (p:Operand) (k:Nat):Lawful fun _ K=>strK cx nt x t1 t2 p k K:=by
 unfold strK
 refine .bind _ fun j=>.bind _ fun i=>?_
 split
 ·refine .bind _ fun ei=>?_
  split
  ·exact .bind _ fun y=>(Lawful.lendC _ _ _ _).comp fun tt=>.bind _ fun xs=>.put _ _ _ _
  ·exact .none
 ·exact .none
theorem Lawful.step (cx:Ctx) (nt:Fr) (Δ:List (Nat×Fn)) (x:X) (o:Oper) (h:o.dst.isSome=true):Lawful fun _ K=>stepO cx nt Δ x o K:=by
 unfold stepO
 split
 ·split
  ·split
   ·exact .call _ _ _ _ _ _ _
   ·exact .none
  ·exact .one _ _ _ _ h
 ·split
  ·split
   ·exact .str _ _ _ _ _ _ _
   ·exact .none
  ·exact .one _ _ _ _ h
 ·exact .one _ _ _ _ h
theorem step_some {α:Type} {x:X} {o:Oper} (ho:o.dst.isSome=true) {K:X→Option α} {q:α} (h:stepO c nt Δ x o K=some q):∃ x',stepO c nt Δ x o some=some x'∧K x'=some q:=by
 have e:stepO c nt Δ x o K=(stepO c nt Δ x o some).bind K:=Lawful.step c nt Δ x o ho α K
 rw [e] at h
 exact Option.bind_eq_some_iff.mp h
theorem step_sound (hΔ:Known c.P c.G Δ) {B:Base} (hG:Fit B c) (hnt:B.nt=nt) {s:Sit} {x:X} {a:Act} {w:World} (h:RelW B s x a w) {o:Oper} {x':X} (he:stepO c nt Δ x o some=some x')
 {Kp:Act→World→Prop} {Q:Exit→Act→World→Prop} (hK:∀ s' v w',RelW B s' x' (a.put o.dst v) w'→Kp (a.put o.dst v) w'):o.wp c.P a w Kp Q:=by
 have one:oneK c nt x o some=some x'→o.wp c.P a w Kp Q:=by
  intro he
  obtain ⟨x2,s',k1,n,w',hr,hcase⟩:=one_sound hG hnt h he
  simp only [Option.some.injEq] at k1
  subst k1
  unfold Oper.wp
  rw [hr]
  rcases hcase with ⟨v,rfl,hrel⟩ | ⟨rfl,hrel⟩
  ·exact hK _ _ _ hrel
  ·exact hK _ _ _ hrel
 unfold stepO at he
 split at he
 ·rename_i cl hop
  split at he
  ·rename_i f hcal
   split at he
   ·rename_i k hk
    have hF:∃ F,look Δ f=some F:=by
     unfold callAK at he
     obtain ⟨F,h1,_⟩:=Option.bind_eq_some_iff.mp he
     exact ⟨F,h1⟩
    obtain ⟨F,hF⟩:=hF
    obtain ⟨-,fn,hf,hb,hname⟩:=hΔ f F hF
    have hcall:=callA_sound hΔ hG hnt h he (Kp:=Kp) (fun x2 s' v w' e1 e2=>by
     simp only [Option.some.injEq] at e1
     subst e1
     rw [hk] at hK
     rw [← hnt,gput_local] at e2 ⊢
     exact hK s' v w' e2)
    have hrun:(execOp a.eval o).run c.P w = .ok (.enter f (cl.args.map a.eval)) w:=by
     have hbn : ¬ fn.body=none:=by intro e; rw [e] at hb; simp at hb
     have hname' : ¬ fn.name = "runtime.NumGoroutine" := by simpa using hname
     obtain ⟨callee,args,ats⟩:=cl
     simp only at hcal
     subst hcal
     simp [execOp,hop,resolve,Act.eval,Deferred.ofValue,invoke,callFunc,hf,hname',hbn]
    unfold Oper.wp
    rw [hrun,Oper.upon_enter]
    refine hcall.mono (fun e w' he=>?_)
    cases e with
    | returned v =>
     show Kp (a.put o.dst v) w'
     rw [hk]
     have he:Kp (a.gput B (nt.off+k) v) w':=he
     rwa [← hnt,gput_local] at he
    | _=>exact he.elim
   ·cases he
  ·exact one he
 ·rename_i t1 t2 p hop
  split at he
  ·split at he
   ·rename_i k hk
    obtain ⟨x2,v,k1,k2,k3⟩:=str_sound hG hnt h he
    simp only [Option.some.injEq] at k1
    subst k1
    unfold Oper.wp
    have:(execOp a.eval o).run c.P w = .ok (.value v) w:=by
     simp only [execOp,hop,Sem.run_bind,k2]; rfl
    rw [this]
    rw [← hnt,gput_local,← hk] at k3
    exact hK _ _ _ k3
   ·cases he
  ·exact one he
 ·exact one he
end
end Go.V
namespace Go.V
open Go.RowKit
def framed (x:X):X:={ env:=mapS (limD (keysOf x.roots)) x.env,roots:=x.roots,lock:=lockAll (keysOf x.roots) [],pin:=[],dirt:=[] }
section
variable {c:Ctx} {B:Base} {s:Sit} {x y:X} {a:Act} {w:World}
def Base.frame (B:Base) (s:Sit) (x:X) (a:Act) (w:World):Base where
 nt:=B.nt
 out:=B.out
 w0:=w
 O0:=fun b=>∃ r p y,(hideS s x.roots).Φ r p=some y∧blkOf y=some b
 R0:=s.S .ro
 B0:=s.S .bo
 G:=B.G
 F:=B.F
 muts:=[]
 Φ0:=s.Φ
 LC:=fun r d=>x.at r (zp d)
 LΦ:=fun r d=>((hideS s x.roots).Φ r).under (zp d)
 PV:=fun k=>(B.tv a k).getD .nilIface
theorem RelW.framed (h:RelW B s y a w) (hle:LeX x y):RelW (B.frame s x a w) (hideS s x.roots) (framed x) a w where
 defers:=h.defers
 size:=h.size
 env:=fun k d hd=>by
  simp only [V.framed,look_mapS] at hd
  obtain ⟨d0,h1,rfl⟩:=Option.map_eq_some_iff.mp hd
  obtain ⟨v,g1,g2⟩:=h.env k d0 (hle.env k d0 h1)
  refine ⟨v,g1,?_⟩
  unfold limD
  split
  ·rename_i e
   refine g2.mono (fun _ _ _=>rfl) (fun _ _ h=>h) rfl (fun rp hrp=>congrFun (hide_in ?_) rp.2)
   obtain ⟨row,hrow⟩:=keysOf_look.1 (atsIn_spec e rp hrp)
   rw [hrow]; rfl
  ·exact .v _ _ (.c _ _ (.k _ _ (.dead v)))
 roots:=fun r row hr=>by
  obtain ⟨z,hz⟩:=h.roots r row (hle.roots r row hr)
  have hr:look x.roots r=some row:=hr
  exact ⟨z,by rw [hide_in (by rw [hr]; rfl)]; exact hz⟩
 rootn:=fun r hr=>by
  have hr:look x.roots r=none:=hr
  simp only [hideS,hr]; rfl
 inj:=fun r p z r' p' z' b e1 e2 e3 e4=>h.inj _ _ _ _ _ _ _ (hide_some e1).2 e2 (hide_some e3).2 e4
 own:=fun r p z b e1 e2=>by
  have:=h.own r p z b (hide_some e1).2 e2
  exact ⟨this.1,this.2.1,.inl ⟨r,p,z,e1,e2⟩⟩
 slt:=h.slt
 sown:=h.sown
 sro:=fun b hb=>hb
 srn:=fun b hb=>.inl hb
 sbo:=fun b hb=>hb
 srb:=h.srb
 sbn:=fun b hb=>.inl hb
 F:=h.F
 os:=rfl
 tape:=rfl
 output:=rfl
 grow:=Nat.le_refl _
 kept:=fun _ _ _=>rfl
 glob:=h.glob
 pins:=fun k hk=>by simp [V.framed] at hk
 locks:=fun r d _=>⟨rfl,rfl⟩
 dirt:=fun r hr=>by simp [Base.frame] at hr
def X.plus (y:X) (k:Nat) (d:D) (row:Option (List T)):X:={ y with env:=(k,d) :: y.env,roots:=match row with | some r=>(k,r) :: y.roots | none=>y.roots }
theorem look_plus {y:X} {k:Nat} {d:D} {row:Option (List T)} (hk:look y.roots k=none) (r:Nat):look (y.plus k d row).roots r=if r=k then row else look y.roots r:=by
 unfold X.plus
 cases row with
 | some x=>simp only [look_cons]
 | none =>
  by_cases e:r=k
  ·rw [if_pos e,e]; exact hk
  ·rw [if_neg e]
theorem RelW.unframed (h:RelW B s y a w) (hle:LeX x y) {k:Nat} (hkn:inFr B.nt k=true) (hkp:k∉y.pin) (hkr:look y.roots k=none) (hkl:lockOk y k []=true) (hkd:(k,[])∈y.dirt)
 {s2:Sit} {x2:X} {v:Value} {w2:World} (h2:RelW (B.frame s x a w) s2 x2 (a.gput B k v) w2) (hlk:∀ r∈keysOf x.roots,(r,[])∈x2.lock)
 {d:D} (hd:look x2.env k=some d) (hat:∀ rp∈d.ats,rp.1=k∨rp.1∈keysOf x.roots):∃ s',RelW B s' (y.plus k d (look x2.roots k)) (a.gput B k v) w2:=by
 have hkx:∀ r∈keysOf x.roots,r≠k:=by
  intro r hr e
  obtain ⟨row,hrow⟩:=keysOf_look.1 hr
  have:=hle.roots r row hrow
  rw [e,hkr] at this; cases this
 have hvis:∀ r∈keysOf x.roots,(look x.roots r).isSome=true:=by
  intro r hr
  obtain ⟨row,hrow⟩:=keysOf_look.1 hr
  rw [hrow]; rfl
 have hvis':∀ r,(look x.roots r).isSome=true→r∈keysOf x.roots:=by
  intro r hr
  cases e:look x.roots r with
  | none=>rw [e] at hr; cases hr
  | some row=>exact keysOf_look.2 ⟨row,e⟩
 have hK:∀ r∈keysOf x.roots,x2.at r []=x.at r []∧s2.Φ r=s.Φ r:=by
  intro r hr
  obtain ⟨e1,e2⟩:=h2.locks r [] (hlk r hr)
  refine ⟨e1,?_⟩
  rw [← hide_in (s:=s) (hvis r hr)]
  funext p; have:=congrFun e2 p; simpa [Lay.under,zp,Base.frame] using this
 have hrow:∀ r∈keysOf x.roots,∀ row,look x.roots r=some row→look x2.roots r=some row:=by
  intro r hr row hrow
  have:=(hK r hr).1
  simp only [X.at,hrow,Option.bind_some,getT] at this
  cases h3:look x2.roots r with
  | none=>rw [h3] at this; cases this
  | some row2 =>
   rw [h3,Option.bind_some,Option.some.injEq,T.vr.injEq] at this
   rw [this]
 have hΦk:s.Φ k=noLay:=h.rootn k hkr
 have hO:∀ b,(B.frame s x a w).O0 b→∃ r p z,r∈keysOf x.roots∧s.Φ r p=some z∧blkOf z=some b:=by
  intro b hb
  obtain ⟨r,p,z,e1,e2⟩:=hb
  exact ⟨r,p,z,hvis' r (hide_some e1).1,(hide_some e1).2,e2⟩
 have hSS:∀ f b,s.S f b→s2.S f b:=by
  intro f b hS
  cases f with
  | own=>exact absurd hS (h.sown b)
  | ro=>exact h2.sro b hS
  | bo=>exact h2.sbo b hS
 have hwS:∀ f b,s.S f b→w2.heap[b]?=w.heap[b]?:=by
  intro f b hS
  refine h2.kept b (h.slt f b hS) (fun hb=>?_)
  obtain ⟨r,p,z,-,e1,e2⟩:=hO b hb
  exact (h.own r p z b e1 e2).1 f hS
 have hhid:∀ r p z b,r∉keysOf x.roots→s.Φ r p=some z→blkOf z=some b→w2.heap[b]?=w.heap[b]?∧∀ f,¬ s2.S f b:=by
  intro r p z b hr e1 e2
  obtain ⟨g1,g2,g3⟩:=h.own r p z b e1 e2
  have hnO : ¬ (B.frame s x a w).O0 b:=by
   intro hb
   obtain ⟨r',p',z',m1,m2,m3⟩:=hO b hb
   obtain ⟨rfl,-⟩:=h.inj _ _ _ _ _ _ _ e1 e2 m2 m3
   exact hr m1
  have hnro : ¬ s2.S .ro b:=by
   intro hS
   rcases h2.srn b hS with hS | hS | hS
   ·exact g1 .ro hS
   ·exact hnO hS
   ·have hS:w.heap.size≤b:=hS
    omega
  refine ⟨h2.kept b g2 hnO,fun f hS=>?_⟩
  cases f with
  | own=>exact h2.sown b hS
  | ro=>exact hnro hS
  | bo =>
   rcases h2.sbn b hS with hS | hS
   ·exact g1 .bo hS
   ·exact hnro hS
 have hnew:∀ p z b,s2.Φ k p=some z→blkOf z=some b→w.heap.size≤b:=by
  intro p z b e1 e2
  rcases (h2.own k p z b e1 e2).2.2 with hb | hb
  ·obtain ⟨r,p',z',m1,m2,m3⟩:=hO b hb
   obtain ⟨rfl,-⟩:=h2.inj _ _ _ _ _ _ _ e1 e2 (by rw [(hK r m1).2]; exact m2) m3
   exact absurd rfl (hkx _ m1)
  ·exact hb
 let s':Sit:={ s2 with Φ:=fun r=>if r=k then s2.Φ k else s.Φ r }
 have hΦs:s'.Φ k=s2.Φ k:=by simp [s']
 have hΦn:∀ r,r≠k→s'.Φ r=s.Φ r:=by intro r hr; simp [s',hr]
 have hΦv:∀ r∈keysOf x.roots,s'.Φ r=s2.Φ r:=by intro r hr; rw [hΦn r (hkx r hr),(hK r hr).2]
 have hsz:=h2.grow
 have hsz:w.heap.size≤w2.heap.size:=hsz
 refine ⟨s',?_⟩
 exact {
  defers:=h2.defers
  size:=h2.size
  env:=fun j d' hj=>by
   have hj:look ((k,d) :: y.env) j=some d':=hj
   rw [look_cons] at hj
   by_cases e:j=k
   ·subst e
    simp only [if_true,Option.some.injEq] at hj
    subst hj
    obtain ⟨v',g1,g2⟩:=h2.env j d hd
    refine ⟨v',g1,g2.mono (fun _ _ _=>rfl) (fun _ _ h=>h) rfl (fun rp hrp=>?_)⟩
    rcases hat rp hrp with e | e
    ·rw [e,hΦs]
    ·rw [hΦv _ e]
   ·rw [if_neg e] at hj
    obtain ⟨v',g1,g2⟩:=h.env j d' hj
    refine ⟨v',by rw [tv_put_ne hkn e]; exact g1,g2.mono hwS hSS (h2.F.trans h.F.symm) (fun rp hrp=>?_)⟩
    obtain ⟨z,hz⟩:=g2.somewhere rp hrp
    have:rp.1≠k:=by intro e; rw [e,hΦk] at hz; cases hz
    rw [hΦn _ this]
  roots:=fun r row hr=>by
   rw [look_plus hkr] at hr
   split at hr
   ·rename_i e
    subst e
    obtain ⟨z,hz⟩:=h2.roots r row hr
    exact ⟨z,by rw [hΦs]; exact hz⟩
   ·rename_i e
    rw [hΦn r e]
    by_cases hm:r∈keysOf x.roots
    ·obtain ⟨row',hrow'⟩:=keysOf_look.1 hm
     have h3:=hle.roots r row' hrow'
     rw [hr,Option.some.injEq] at h3
     subst h3
     obtain ⟨z,hz⟩:=h2.roots r row (hrow r hm row hrow')
     exact ⟨z,by rw [← (hK r hm).2]; exact hz⟩
    ·obtain ⟨z,hz⟩:=h.roots r row hr
     exact ⟨z,hz.mono hwS hSS (fun p z b hz hbz=>(hhid r p z b hm hz hbz).1)⟩
  rootn:=fun r hr=>by
   rw [look_plus hkr] at hr
   split at hr
   ·rename_i e; subst e; rw [hΦs]; exact h2.rootn r hr
   ·rename_i e; rw [hΦn r e]; exact h.rootn r hr
  inj:=fun r p z r' p' z' b e1 e2 e3 e4=>by
   have key:∀ r p z r' p' z',r=k→r'≠k→s'.Φ r p=some z→blkOf z=some b→s'.Φ r' p'=some z'→blkOf z'=some b→False:=by
    intro r p z r' p' z' e1 e2 e3 e4 e5 e6
    subst e1
    rw [hΦs] at e3
    rw [hΦn r' e2] at e5
    have:=hnew p z b e3 e4
    have:=(h.own r' p' z' b e5 e6).2.1
    omega
   by_cases h3:r=k
   ·by_cases h4:r'=k
    ·rw [h3,hΦs] at e1
     rw [h4,hΦs] at e3
     have:=h2.inj _ _ _ _ _ _ _ e1 e2 e3 e4
     exact ⟨h3.trans h4.symm,this.2⟩
    ·exact (key r p z r' p' z' h3 h4 e1 e2 e3 e4).elim
   ·by_cases h4:r'=k
    ·exact (key r' p' z' r p z h4 h3 e3 e4 e1 e2).elim
    ·rw [hΦn r h3] at e1
     rw [hΦn r' h4] at e3
     exact h.inj _ _ _ _ _ _ _ e1 e2 e3 e4
  own:=fun r p z b e1 e2=>by
   by_cases h3:r=k
   ·rw [h3,hΦs] at e1
    have:=h2.own k p z b e1 e2
    exact ⟨this.1,this.2.1,.inr (Nat.le_trans h.grow (hnew p z b e1 e2))⟩
   ·rw [hΦn r h3] at e1
    have g:=h.own r p z b e1 e2
    refine ⟨fun f hS=>?_,by omega,g.2.2⟩
    by_cases hm:r∈keysOf x.roots
    ·exact (h2.own r p z b (by rw [(hK r hm).2]; exact e1) e2).1 f hS
    ·exact (hhid r p z b hm e1 e2).2 f hS
  slt:=h2.slt
  sown:=h2.sown
  sro:=fun b hb=>hSS .ro b (h.sro b hb)
  srn:=fun b hb=>by
   rcases h2.srn b hb with hb | hb | hb
   ·exact h.srn b hb
   ·obtain ⟨r,p,z,-,m2,m3⟩:=hO b hb
    exact .inr (h.own r p z b m2 m3).2.2
   ·exact .inr (.inr (Nat.le_trans h.grow hb))
  sbo:=fun b hb=>hSS .bo b (h.sbo b hb)
  srb:=h2.srb
  sbn:=fun b hb=>by
   rcases h2.sbn b hb with hb | hb
   ·exact (h.sbn b hb).imp id (hSS .ro b)
   ·exact .inr hb
  F:=h2.F
  os:=h2.os.trans h.os
  tape:=h2.tape.trans h.tape
  output:=h2.output.trans h.output
  grow:=Nat.le_trans h.grow hsz
  kept:=fun b e1 e2=>by
   rw [h2.kept b (Nat.lt_of_lt_of_le e1 h.grow) (fun hb=>by
    obtain ⟨r,p,z,-,m2,m3⟩:=hO b hb
    rcases (h.own r p z b m2 m3).2.2 with e5 | e5
    ·exact e2 e5
    ·omega)]
   exact h.kept b e1 e2
  glob:=h2.glob
  pins:=fun j hj=>by
   have hj:j∈y.pin:=hj
   rw [tv_put_ne hkn (fun e=>hkp (by rw [← e]; exact hj))]
   exact h.pins j hj
  locks:=fun r d0 hd0=>by
   have hd0:(r,d0)∈y.lock:=hd0
   have hrk:r≠k:=by
    intro e
    rw [e] at hd0
    have:=lockOk_spec hkl hd0
    simp [pc,pre] at this
   obtain ⟨e1,e2⟩:=h.locks r d0 hd0
   refine ⟨?_,by rw [hΦn r hrk]; exact e2⟩
   rw [← e1]
   simp only [X.at,look_plus hkr,if_neg hrk]
  dirt:=fun r hr p hp=>by
   have hrk:r≠k:=by
    intro e
    have:=hp [] (by rw [e]; exact hkd)
    simp [pre] at this
   rw [hΦn r hrk]
   exact h.dirt r hr p hp }
theorem beqN {r k:Nat} (h:r≠k):(!(Nat.beq r k))=true:=by
 cases e:Nat.beq r k with
 | true=>exact absurd (Nat.eq_of_beq_eq_true e) h
 | false=>rfl
def X.drop (x:X) (k:Nat):X:=match look x.roots k with
 | none=>{ x with env:=onlyS (fun j=>!(Nat.beq j k)) x.env,dirt:=(k,[]) :: x.dirt }
 | some _=>{ x with env:=onlyS (fun j=>!(Nat.beq j k)) (mapS (D.kill k []) x.env),roots:=onlyS (fun j=>!(Nat.beq j k)) x.roots,dirt:=(k,[]) :: x.dirt }
theorem onlyS_sub {β:Type} {l:List (Nat×β)} {g:Nat→Bool} {j:Nat} {d:β} (h:look (onlyS g l) j=some d):g j=true∧look l j=some d:=by
 rw [look_onlyS] at h
 split at h
 ·rename_i e; exact ⟨e,h⟩
 ·cases h
theorem RelW.drop (h:RelW B s x a w) {k:Nat} (hl:lockOk x k []=true):∃ s',RelW B s' (x.drop k) a w∧look (x.drop k).env k=none∧look (x.drop k).roots k=none:=by
 unfold X.drop
 split
 ·rename_i e
  refine ⟨s,{ h with
   env:=fun j d hd=>h.env j d (onlyS_sub hd).2
   dirt:=fun r hr p hp=>h.dirt r hr p (fun d hd=>hp d (List.mem_cons_of_mem _ hd)) },?_,e⟩
  simp only [look_onlyS,Nat.beq_refl,Bool.not_true,Bool.false_eq_true,if_false]
 ·rename_i row e
  have hΦ:∀ r p z,(setΦ s k noLay).Φ r p=some z→r≠k∧s.Φ r p=some z:=by
   intro r p z hz
   by_cases e:r=k
   ·subst e; rw [setΦ_same] at hz; cases hz
   ·rw [setΦ_ne s _ e] at hz; exact ⟨e,hz⟩
  refine ⟨setΦ s k noLay,{ h with
   env:=fun j d hd=>by
    obtain ⟨-,hd⟩:=onlyS_sub hd
    rw [look_mapS] at hd
    obtain ⟨d0,h1,rfl⟩:=Option.map_eq_some_iff.mp hd
    obtain ⟨v,g1,g2⟩:=h.env j d0 h1
    exact ⟨v,g1,g2.kill (fun _ _ _=>rfl) (fun _ _ h=>h) rfl (fun r' p' hn=>congrFun (setΦ_ne s _ (fun e=>hn ⟨e,by simp [pre]⟩)) p')⟩
   roots:=fun r row' hr=>by
    obtain ⟨h0,hr⟩:=onlyS_sub hr
    have hrk:r≠k:=by intro e; subst e; simp at h0
    obtain ⟨z,hz⟩:=h.roots r row' hr
    exact ⟨z,by rw [setΦ_ne s _ hrk]; exact hz⟩
   rootn:=fun r hr=>by
    by_cases hrk:r=k
    ·subst hrk; rw [setΦ_same]
    ·rw [setΦ_ne s _ hrk]
     refine h.rootn r ?_
     simp only [look_onlyS] at hr
     rw [if_pos (beqN hrk)] at hr
     exact hr
   inj:=fun r p z r' p' z' b e1 e2 e3 e4=>h.inj _ _ _ _ _ _ _ (hΦ _ _ _ e1).2 e2 (hΦ _ _ _ e3).2 e4
   own:=fun r p z b e1 e2=>h.own _ _ _ _ (hΦ _ _ _ e1).2 e2
   locks:=fun r d hd=>by
    have hrk:r≠k:=by
     intro e
     rw [e] at hd
     have:=lockOk_spec hl hd
     simp [pc,pre] at this
    obtain ⟨e1,e2⟩:=h.locks r d hd
    refine ⟨?_,by rw [setΦ_ne s _ hrk]; exact e2⟩
    rw [← e1]
    simp only [X.at,look_onlyS]
    rw [if_pos (beqN hrk)]
   dirt:=fun r hr p hp=>by
    have hrk:r≠k:=by
     intro e
     have:=hp [] (by rw [e]; exact List.mem_cons_self)
     simp [pre] at this
    rw [setΦ_ne s _ hrk]
    exact h.dirt r hr p (fun d hd=>hp d (List.mem_cons_of_mem _ hd)) },?_,?_⟩
  ·simp only [look_onlyS,Nat.beq_refl,Bool.not_true,Bool.false_eq_true,if_false]
  ·simp only [look_onlyS,Nat.beq_refl,Bool.not_true,Bool.false_eq_true,if_false]
end
end Go.V
namespace Go.V
open Go.RowKit
variable {α:Type}
def rangeFrom:Nat→Nat→List Nat
 | _,0=>[]
 | a,n+1=>a :: rangeFrom (a+1) n
theorem rangeFrom_mem {a n j:Nat} (h1:a≤j) (h2:j<a+n):j∈rangeFrom a n:=by
 induction n generalizing a with
 | zero=>omega
 | succ n ih =>
  by_cases e:j=a
  ·subst e; exact List.mem_cons_self
  ·exact List.mem_cons_of_mem _ (ih (by omega) (by omega))
def drawOk (ops:Array Oper) (m:Nat):Bool :=
 and (Nat.ble m ops.size) (and (allB (fun j=>allB (fun k=>Nat.blt k j) (deps ops j)) (rangeFrom 0 ops.size)) (allB (fun j=>allB (fun k=>before ops ops.size j k) (rangeFrom 0 j)) (rangeFrom m (ops.size - m))))
abbrev Res:=List (Nat×(Nat×(D×Option (List T))))
def selE (A:Nat→Bool):Res→List (Nat×D)
 | []=>[]
 | e :: l=>match A e.1 with
  | true=>(e.2.1,e.2.2.1) :: selE A l
  | false=>selE A l
def selR (A:Nat→Bool):Res→List (Nat×List T)
 | []=>[]
 | e :: l=>match e.2.2.2 with
  | none=>selR A l
  | some row=>match A e.1 with
   | true=>(e.2.1,row) :: selR A l
   | false=>selR A l
def withR (x:X) (A:Nat→Bool) (R:Res):X:={ x with env:=app (selE A R) x.env,roots:=app (selR A R) x.roots }
def dstsR:Res→List Nat
 | []=>[]
 | e :: l=>e.2.1 :: dstsR l
def setKnown (k:Nat) (b:Bool):Res→Res
 | []=>[]
 | e :: l=>match Nat.beq e.2.1 k with
  | true=>(e.1,(e.2.1,(scal (.bool b),e.2.2.2))) :: setKnown k b l
  | false=>e :: setKnown k b l
def isNilL {β:Type}:List β→Bool
 | []=>true
 | _ :: _=>false
def lockedB (keys:List Nat) (l:List (Nat×List Nat)):Bool:=allB (fun r=>anyL (fun e=>match Nat.beq e.1 r with | true=>isNilL e.2 | false=>false) l) keys
def stepR (cx:Ctx) (nt:Fr) (Δ:List (Nat×Fn)) (xi:X) (o:Oper) (k:Nat) (K:D→Option (List T)→Option α):Option α :=
 stepO cx nt Δ (framed xi) o fun x2=>(look x2.env k).bind fun d =>
  match and (lockedB (keysOf xi.roots) x2.lock) (allB (fun rp=>match Nat.beq rp.1 k with | true=>true | false=>mem (keysOf xi.roots) rp.1) d.ats) with
  | true=>K d (look x2.roots k)
  | false=>none
def readsK (cx:Ctx) (nt:Fr) (Δ:List (Nat×Fn)) (ops:Array Oper) (x0:X):Nat→List Oper→Res→(Res→Option α)→Option α
 | _,[],R,K=>K R
 | j,o :: rest,R,K=>match gd nt o with
  | none=>none
  | some k=>match and (inFr nt k) (and (!(mem x0.pin k)) (!(mem (dstsR R) k))) with
   | false=>none
   | true=>match o.guard with
    | none=>stepR cx nt Δ (withR x0 (before ops ops.size j) R) o k fun d row=>readsK cx nt Δ ops x0 (j+1) rest (app R [(j,(k,(d,row)))]) K
    | some (g,want)=>(guardD nt ops.toList (withR x0 (before ops ops.size j) R) g).bind fun kd=>match asB kd.2 with
     | some b=>cond (eqB b want)
      (stepR cx nt Δ (withR x0 (before ops ops.size j) (setKnown kd.1 want R)) o k fun d row=>readsK cx nt Δ ops x0 (j+1) rest (app (setKnown kd.1 want R) [(j,(k,(d,row)))]) K)
      (readsK cx nt Δ ops x0 (j+1) rest (app (setKnown kd.1 (!want) R) [(j,(k,(.tup [],none)))]) K)
     | none=>match isUndef kd.2 with
      | true=>readsK cx nt Δ ops x0 (j+1) rest (app R [(j,(k,(.tup [],none)))]) K
      | false=>none
def dstsO (nt:Fr):List Oper→List Nat
 | []=>[]
 | o :: l=>match gd nt o with
  | some k=>k :: dstsO nt l
  | none=>dstsO nt l
def dropAll:List Nat→X→Option X
 | [],x=>some x
 | k :: ks,x=>match lockOk x k [] with
  | true=>dropAll ks (x.drop k)
  | false=>none
noncomputable def drawK (cx:Ctx) (nt:Fr) (Δ:List (Nat×Fn)) (ops:Array Oper) (m:Nat) (x:X) (K:X→Option α):Option α:=match drawOk ops m with
 | true=>(takeN m ops.toList).bind fun l=>(dropAll (dstsO nt l) x).bind fun x0=>readsK cx nt Δ ops x0 0 l [] fun R =>
  match allB (fun k=>mem (dstsO nt l) k) (dstsR R) with
  | true=>opsK cx nt Δ ops.toList (dropN m ops.toList) (withR x0 (fun _=>true) R) K
  | false=>none
 | false=>none
section
variable {c:Ctx} {B:Base} {s:Sit} {x:X} {a:Act} {w:World} {nt:Fr} {Δ:List (Nat×Fn)}
def Uniq (R:Res):Prop:=∀ e∈R,∀ e'∈R,e.2.1=e'.2.1→e=e'
theorem Uniq.tail {e:Nat×(Nat×(D×Option (List T)))} {R:Res} (h:Uniq (e :: R)):Uniq R:=fun p hp q hq=>h p (List.mem_cons_of_mem _ hp) q (List.mem_cons_of_mem _ hq)
theorem mem_dstsR {R:Res} {k:Nat}:k∈dstsR R↔∃ e∈R,e.2.1=k:=by
 induction R with
 | nil=>simp [dstsR]
 | cons e R ih =>
  simp only [dstsR,List.mem_cons,ih]
  constructor
  ·rintro (rfl | ⟨e',h1,h2⟩)
   ·exact ⟨e,.inl rfl,rfl⟩
   ·exact ⟨e',.inr h1,h2⟩
  ·rintro ⟨e',h1 | h1,h2⟩
   ·subst h1; exact .inl h2.symm
   ·exact .inr ⟨e',h1,h2⟩
theorem Uniq.snoc {R:Res} (h:Uniq R) {e:Nat×(Nat×(D×Option (List T)))} (hk:e.2.1∉dstsR R):Uniq (R++[e]):=by
 have key:∀ p∈R,p.2.1≠e.2.1:=fun p hp h'=>hk (mem_dstsR.2 ⟨p,hp,h'⟩)
 intro p hp q hq he
 rcases List.mem_append.1 hp with hp1 | hp1 <;> rcases List.mem_append.1 hq with hq1 | hq1
 ·exact h p hp1 q hq1 he
 ·simp only [List.mem_singleton] at hq1; rw [hq1] at he; exact absurd he (key p hp1)
 ·simp only [List.mem_singleton] at hp1; rw [hp1] at he; exact absurd he.symm (key q hq1)
 ·simp only [List.mem_singleton] at hp1 hq1; rw [hp1,hq1]
theorem selE_iff {A:Nat→Bool}:∀ {R:Res} (_:Uniq R) {k:Nat} {d:D},look (selE A R) k=some d↔∃ i row,(i,(k,(d,row)))∈R∧A i=true
 | [],_,k,d=>by simp [selE,look]
 | e :: R,hu,k,d=>by
  obtain ⟨i0,k0,d0,row0⟩:=e
  have ih:=selE_iff (A:=A) hu.tail (k:=k) (d:=d)
  unfold selE
  cases hA:A i0 with
  | true =>
   simp only [look_cons]
   by_cases hk:k=k0
   ·subst hk
    rw [if_pos rfl]
    constructor
    ·intro h; simp only [Option.some.injEq] at h; subst h; exact ⟨i0,row0,List.mem_cons_self,hA⟩
    ·rintro ⟨i,row,h1,h2⟩
     have:=hu _ h1 _ List.mem_cons_self rfl
     simp only [Prod.mk.injEq] at this
     rw [this.2.2.1]
   ·rw [if_neg hk,ih]
    constructor
    ·rintro ⟨i,row,h1,h2⟩; exact ⟨i,row,List.mem_cons_of_mem _ h1,h2⟩
    ·rintro ⟨i,row,h1,h2⟩
     rcases List.mem_cons.1 h1 with h1 | h1
     ·simp only [Prod.mk.injEq] at h1; exact absurd h1.2.1 hk
     ·exact ⟨i,row,h1,h2⟩
  | false =>
   simp only
   rw [ih]
   constructor
   ·rintro ⟨i,row,h1,h2⟩; exact ⟨i,row,List.mem_cons_of_mem _ h1,h2⟩
   ·rintro ⟨i,row,h1,h2⟩
    rcases List.mem_cons.1 h1 with h1 | h1
    ·simp only [Prod.mk.injEq] at h1; rw [h1.1,hA] at h2; cases h2
    ·exact ⟨i,row,h1,h2⟩
theorem selR_iff {A:Nat→Bool}:∀ {R:Res} (_:Uniq R) {k:Nat} {row:List T},look (selR A R) k=some row↔∃ i d,(i,(k,(d,some row)))∈R∧A i=true
 | [],_,k,row=>by simp [selR,look]
 | e :: R,hu,k,row=>by
  obtain ⟨i0,k0,d0,row0⟩:=e
  have ih:=selR_iff (A:=A) hu.tail (k:=k) (row:=row)
  have hskip:(row0=none∨A i0=false)→((∃ i d,(i,(k,(d,some row)))∈R∧A i=true)↔∃ i d,(i,(k,(d,some row)))∈(i0,(k0,(d0,row0))) :: R∧A i=true):=by
   intro hc
   constructor
   ·rintro ⟨i,d,h1,h2⟩; exact ⟨i,d,List.mem_cons_of_mem _ h1,h2⟩
   ·rintro ⟨i,d,h1,h2⟩
    rcases List.mem_cons.1 h1 with h1 | h1
    ·simp only [Prod.mk.injEq] at h1
     rcases hc with hc | hc
     ·rw [hc] at h1; cases h1.2.2.2
     ·rw [h1.1,hc] at h2; cases h2
    ·exact ⟨i,d,h1,h2⟩
  unfold selR
  cases row0 with
  | none=>simp only; rw [ih]; exact hskip (.inl rfl)
  | some row0 =>
   cases hA:A i0 with
   | true =>
    simp only [look_cons]
    by_cases hk:k=k0
    ·subst hk
     rw [if_pos rfl]
     constructor
     ·intro h; simp only [Option.some.injEq] at h; subst h; exact ⟨i0,d0,List.mem_cons_self,hA⟩
     ·rintro ⟨i,d,h1,h2⟩
      have:=hu _ h1 _ List.mem_cons_self rfl
      simp only [Prod.mk.injEq] at this
      rw [this.2.2.2]
    ·rw [if_neg hk,ih]
     constructor
     ·rintro ⟨i,d,h1,h2⟩; exact ⟨i,d,List.mem_cons_of_mem _ h1,h2⟩
     ·rintro ⟨i,d,h1,h2⟩
      rcases List.mem_cons.1 h1 with h1 | h1
      ·simp only [Prod.mk.injEq] at h1; exact absurd h1.2.1 hk
      ·exact ⟨i,d,h1,h2⟩
   | false=>simp only; rw [ih]; exact hskip (.inr hA)
theorem look_none {β:Type} {l:List (Nat×β)} {k:Nat} (h:∀ x,look l k≠some x):look l k=none:=by
 cases e:look l k with
 | none=>rfl
 | some x=>exact absurd e (h x)
theorem setKnown_id {k:Nat} {b:Bool}:∀ {R:Res},(∀ e∈R,e.2.1=k→e.2.2.1=scal (.bool b))→setKnown k b R=R
 | [],_=>rfl
 | e :: R,h=>by
  have ih:=setKnown_id (k:=k) (b:=b) (R:=R) (fun e he=>h e (List.mem_cons_of_mem _ he))
  unfold setKnown
  split
  ·rename_i hk
   have:=h e List.mem_cons_self (Nat.eq_of_beq_eq_true hk)
   rw [ih,← this]
  ·rw [ih]
theorem lockedB_spec {keys:List Nat} {l:List (Nat×List Nat)} (h:lockedB keys l=true):∀ r∈keys,(r,[])∈l:=by
 intro r hr
 have:=(allB_iff _ _).1 h r hr
 obtain ⟨e,he,h2⟩:=(anyL_iff _ _).1 this
 obtain ⟨r',d⟩:=e
 simp only at h2
 split at h2
 ·rename_i hb
  have:=Nat.eq_of_beq_eq_true hb
  subst this
  cases d with
  | nil=>exact he
  | cons=>cases h2
 ·cases h2
theorem stepR_some {xi:X} {o:Oper} {k k0:Nat} (ho:o.dst=some k0) {K:D→Option (List T)→Option α} {q:α} (h:stepR c nt Δ xi o k K=some q) :
 ∃ x2 d,stepO c nt Δ (framed xi) o some=some x2∧look x2.env k=some d∧(∀ r∈keysOf xi.roots,(r,[])∈x2.lock)∧(∀ rp∈d.ats,rp.1=k∨rp.1∈keysOf xi.roots)∧K d (look x2.roots k)=some q:=by
 obtain ⟨x2,h1,h2⟩:=step_some (by rw [ho]; rfl) h
 obtain ⟨d,h3,h4⟩:=Option.bind_eq_some_iff.mp h2
 split at h4
 ·rename_i hb
  simp only [Bool.and_eq_true] at hb
  refine ⟨x2,d,h1,h3,lockedB_spec hb.1,fun rp hrp=>?_,h4⟩
  have:=(allB_iff _ _).1 hb.2 rp hrp
  split at this
  ·rename_i e; exact .inl (Nat.eq_of_beq_eq_true e)
  ·exact .inr ((mem_iff _ _).1 this)
 ·cases h4
inductive How (c:Ctx) (nt:Fr) (Δ:List (Nat×Fn)) (ops:Array Oper) (xi:X) (o:Oper) (k:Nat):D→Option (List T)→Prop where
 | ran (x2:X) (d:D) (hg:o.guard=none∨∃ g want kg,o.guard=some (g,want)∧guardD nt ops.toList xi g=some (kg,scal (.bool want)))
  (h1:stepO c nt Δ (framed xi) o some=some x2) (h2:look x2.env k=some d) (h3:∀ r∈keysOf xi.roots,(r,[])∈x2.lock) (h4:∀ rp∈d.ats,rp.1=k∨rp.1∈keysOf xi.roots):How c nt Δ ops xi o k d (look x2.roots k)
 | skipped (g:Nat) (want:Bool) (kg:Nat) (hg:o.guard=some (g,want)) (h1:guardD nt ops.toList xi g=some (kg,scal (.bool (!want)))∨guardD nt ops.toList xi g=some (kg,.tup [])):How c nt Δ ops xi o k (.tup []) none
def Traced (c:Ctx) (nt:Fr) (Δ:List (Nat×Fn)) (ops:Array Oper) (x0:X) (R:Res):Prop :=
 ∀ i k d row,(i,(k,(d,row)))∈R→∃ o R0,ops[i]?=some o∧gd nt o=some k∧(∀ e∈R0,e∈R)∧Uniq R0∧inFr nt k=true∧k∉x0.pin∧How c nt Δ ops (withR x0 (before ops ops.size i) R0) o k d row
theorem guardD_some {l:List Oper} {xi:X} {g:Nat} {kd:Nat×D} (h:guardD nt l xi g=some kd):(nth l g).bind (gd nt)=some kd.1∧look xi.env kd.1=some kd.2:=by
 unfold guardD at h
 obtain ⟨k,h1,h2⟩:=Option.bind_eq_some_iff.mp h
 obtain ⟨d,h3,h4⟩:=Option.map_eq_some_iff.mp h2
 subst h4
 exact ⟨h1,h3⟩
theorem reads_traced {ops:Array Oper} {x0:X} {K:Res→Option α} {q:α}:∀ (l:List Oper) (j:Nat) (R:Res),(∀ n o,l[n]?=some o→ops[j+n]?=some o)→Uniq R→(∀ k∈dstsR R,look x0.env k=none)→(∀ k∈dstsO nt l,look x0.env k=none) →
 Traced c nt Δ ops x0 R →
 readsK c nt Δ ops x0 j l R K=some q→∃ R',K R'=some q∧Uniq R'∧Traced c nt Δ ops x0 R'∧(∀ e∈R',e∈R∨(j≤e.1∧e.1<j+l.length∧e.2.1∈dstsO nt l))∧(∀ e∈R,e∈R')∧(∀ i,j≤i→i<j+l.length→∃ e∈R',e.1=i)
 | [],j,R,hl,hu,h0,h0',ht,he=>⟨R,he,hu,ht,fun e he=>.inl he,fun e he=>he,fun i h1 h2=>by simp at h2; omega⟩
 | o :: l,j,R,hl,hu,h0,h0',ht,he=>by
  unfold readsK at he
  split at he
  ·cases he
  rename_i k hk
  split at he
  ·cases he
  rename_i hb
  simp only [Bool.and_eq_true,Bool.not_eq_true'] at hb
  obtain ⟨b1,b2,b3⟩:=hb
  have b2:k∉x0.pin:=fun hm=>by rw [(mem_iff _ _).2 hm] at b2; cases b2
  have b3:k∉dstsR R:=fun hm=>by rw [(mem_iff _ _).2 hm] at b3; cases b3
  obtain ⟨kk,hkd,-⟩:=gd_some hk
  have hk0':look x0.env k=none:=h0' k (by simp [dstsO,hk])
  have hoj:ops[j]?=some o:=by have:=hl 0 o rfl; simpa using this
  -- with one more result
  have more:∀ (d:D) (row:Option (List T)),How c nt Δ ops (withR x0 (before ops ops.size j) R) o k d row→readsK c nt Δ ops x0 (j+1) l (R++[(j,(k,(d,row)))]) K=some q →
   ∃ R',K R'=some q∧Uniq R'∧Traced c nt Δ ops x0 R'∧(∀ e∈R',e∈R∨(j≤e.1∧e.1<j+(o :: l).length∧e.2.1∈dstsO nt (o :: l)))∧(∀ e∈R,e∈R')∧(∀ i,j≤i→i<j+(o :: l).length→∃ e∈R',e.1=i):=by
   intro d row hhow hnext
   have hlen:j+(o :: l).length=j+1+l.length:=by simp; omega
   rw [hlen]
   have hdst:dstsO nt (o :: l)=k :: dstsO nt l:=by simp [dstsO,hk]
   rw [hdst]
   have := reads_traced l (j + 1) (R ++ [(j, (k, (d, row)))]) (fun n o' e => by
         have:=hl (n+1) o' (by simpa using e)
         rwa [show j+(n+1)=j+1+n by omega] at this) (hu.snoc b3) (fun k' hk'=>?_) (fun k' hk'=>h0' k' (by
          simp only [dstsO,hk]; exact List.mem_cons_of_mem _ hk')) (fun i k' d' row' hm=>?_) hnext
   ·obtain ⟨R',m1,m2,m3,m4,m5,m6⟩:=this
    refine ⟨R',m1,m2,m3,fun e he=>?_,fun e he=>m5 e (List.mem_append.2 (.inl he)),fun i g1 g2=>?_⟩
    ·rcases m4 e he with g | ⟨g1,g2,g3⟩
     ·rcases List.mem_append.1 g with g | g
      ·exact .inl g
      ·simp only [List.mem_singleton] at g
       subst g
       exact .inr ⟨Nat.le_refl _,by simp; omega,List.mem_cons_self⟩
     ·exact .inr ⟨by omega,g2,List.mem_cons_of_mem _ g3⟩
    ·by_cases e:i=j
     ·exact ⟨(j,(k,(d,row))),m5 _ (by simp),e.symm⟩
     ·exact m6 i (by omega) g2
   ·obtain ⟨e,he,rfl⟩:=mem_dstsR.1 hk'
    rcases List.mem_append.1 he with he | he
    ·exact h0 _ (mem_dstsR.2 ⟨e,he,rfl⟩)
    ·simp only [List.mem_singleton] at he; subst he; exact hk0'
   ·rcases List.mem_append.1 hm with hm | hm
    ·obtain ⟨o',R0,f1,f2,f3,f4,f5⟩:=ht i k' d' row' hm
     exact ⟨o',R0,f1,f2,fun e he=>List.mem_append.2 (.inl (f3 e he)),f4,f5⟩
    ·simp only [List.mem_singleton,Prod.mk.injEq] at hm
     obtain ⟨rfl,rfl,rfl,rfl⟩:=hm
     exact ⟨o,R,hoj,hk,fun e he=>List.mem_append.2 (.inl he),hu,b1,b2,hhow⟩
  split at he
  ·rename_i hg
   obtain ⟨x2,d,g1,g2,g3,g4,g5⟩:=stepR_some hkd he
   rw [app_eq] at g5
   exact more d _ (.ran x2 d (.inl hg) g1 g2 g3 g4) g5
  ·rename_i g want hg
   obtain ⟨⟨kg,dg⟩,e1,he1⟩:=Option.bind_eq_some_iff.mp he
   obtain ⟨e2,e3⟩:=guardD_some e1
   simp only at e2 e3 he1
   split at he1
   ·rename_i b hb
    have hdg:=asB_some hb
    have hkn:setKnown kg b R=R:=by
     refine setKnown_id (fun e he' hek=>?_)
     simp only [withR,look_app] at e3
     split at e3
     ·rename_i d1 hd1
      simp only [Option.some.injEq] at e3
      subst e3
      obtain ⟨i,row,m1,-⟩:=(selE_iff hu).1 hd1
      have:=hu e he' _ m1 hek
      rw [this]; exact hdg
     ·have:kg∈dstsR R:=mem_dstsR.2 ⟨e,he',hek⟩
      rw [h0 kg this] at e3; cases e3
    rcases cond_some he1 with ⟨hbw,he2⟩ | ⟨hbw,he2⟩
    ·have hbe:want=b:=by cases want <;> cases b <;> simp [eqB] at hbw ⊢
     subst hbe
     rw [hkn] at he2
     obtain ⟨x2,d,g1,g2,g3,g4,g5⟩:=stepR_some hkd he2
     rw [app_eq] at g5
     exact more d _ (.ran x2 d (.inr ⟨g,want,kg,hg,by rw [e1,hdg]⟩) g1 g2 g3 g4) g5
    ·have hbe:(!want)=b:=by cases want <;> cases b <;> simp [eqB] at hbw ⊢
     subst hbe
     rw [hkn,app_eq] at he2
     exact more _ _ (.skipped g want kg hg (.inl (by rw [e1,hdg]))) he2
   ·split at he1
    ·rename_i hund
     have hd:=isUndef_eq hund
     rw [app_eq] at he1
     exact more _ _ (.skipped g want kg hg (.inr (by rw [e1,hd]))) he1
    ·cases he1
theorem withR_le {x0:X} {A L:Nat→Bool} {R0 R:Res} (hu0:Uniq R0) (hu:Uniq R) (hsub:∀ e∈R0,e∈R) (hAL:∀ e∈R0,A e.1=true→L e.1=true) (h0:∀ k∈dstsR R,look x0.env k=none∧look x0.roots k=none):LeX (withR x0 A R0) (withR x0 L R):=by
 constructor
 ·intro k d h
  simp only [withR,look_app] at h ⊢
  split at h
  ·rename_i d' hd'
   simp only [Option.some.injEq] at h
   subst h
   obtain ⟨i,row,h1,h2⟩:=(selE_iff hu0).1 hd'
   rw [(selE_iff hu).2 ⟨i,row,hsub _ h1,hAL _ h1 h2⟩]
  ·rw [look_none (l:=selE L R) (fun d' hd'=>by
    obtain ⟨i,row,h1,h2⟩:=(selE_iff hu).1 hd'
    have:=(h0 k (mem_dstsR.2 ⟨_,h1,rfl⟩)).1
    rw [this] at h; cases h)]
   exact h
 ·intro k d h
  simp only [withR,look_app] at h ⊢
  split at h
  ·rename_i d' hd'
   simp only [Option.some.injEq] at h
   subst h
   obtain ⟨i,row,h1,h2⟩:=(selR_iff hu0).1 hd'
   rw [(selR_iff hu).2 ⟨i,row,hsub _ h1,hAL _ h1 h2⟩]
  ·rw [look_none (l:=selR L R) (fun d' hd'=>by
    obtain ⟨i,row,h1,h2⟩:=(selR_iff hu).1 hd'
    have:=(h0 k (mem_dstsR.2 ⟨_,h1,rfl⟩)).2
    rw [this] at h; cases h)]
   exact h
theorem RelW.same (h:RelW B s x a w) {E:List (Nat×D)} {Rt:List (Nat×List T)} (hE:∀ k d,look E k=some d→look x.env k=some d) (hR:∀ r,look Rt r=look x.roots r):RelW B s { x with env:=E,roots:=Rt } a w :=
 { h with
  env:=fun k d hd=>h.env k d (hE k d hd)
  roots:=fun r row hr=>h.roots r row (by rw [← hR]; exact hr)
  rootn:=fun r hr=>h.rootn r (by rw [← hR]; exact hr)
  locks:=fun r d hd=>by
   have:=h.locks r d hd
   simp only [X.at,hR] at this ⊢
   exact this }
theorem wanted_of (hnt:B.nt=nt) {ops:Array Oper} {o:Oper} {xi y:X} (h:RelW B s y a w) (hle:LeX xi y) {g:Nat} {want:Bool} (hg:o.guard=some (g,want)) {kg:Nat} {d:D} (he:guardD nt ops.toList xi g=some (kg,d)) :
 (d=scal (.bool want)→Region.wanted o (yielded ops a.tmps)=true)∧((d=scal (.bool (!want))∨d = .tup [])→Region.wanted o (yielded ops a.tmps)=false):=by
 obtain ⟨h1,h2⟩:=guardD_some he
 simp only at h1 h2
 obtain ⟨v,g1',g2⟩:=h.env kg d (hle.env kg d h2)
 rw [← hnt] at h1
 obtain ⟨k0,h1',g1⟩:=gd_tv h1 g1'
 have hk':(ops[g]?).bind (·.dst)=some k0:=by rw [nth_eq] at h1'; simpa using h1'
 constructor
 ·intro hd
  subst hd
  have hv:=asB_sound g2 (b:=want) rfl
  subst hv
  simp [Region.wanted,hg,yielded,hk',g1]
 ·rintro (hd | hd)
  ·subst hd
   have hv:=asB_sound g2 (b:=!want) rfl
   subst hv
   cases want <;> simp [Region.wanted,hg,yielded,hk',g1]
  ·subst hd
   have hv:v = .tuple #[]:=by
    cases g2 with
    | tup _ arr hs _ => have : arr = #[] := by apply Array.eq_empty_of_size_eq_zero; simpa using hs
                        rw [this]
   subst hv
   simp [Region.wanted,hg,yielded,hk',g1]
theorem draw_step (hΔ:Known c.P c.G Δ) (hG:Fit B c) (hnt:B.nt=nt) {ops:Array Oper} {x0:X} {R:Res} (hu:Uniq R) (h0:∀ k∈dstsR R,look x0.env k=none∧look x0.roots k=none∧lockOk x0 k []=true∧(k,[])∈x0.dirt)
 (ht:Traced c nt Δ ops x0 R) {listed:Array Bool} (hc:Closed ops listed) {i k:Nat} {d:D} {row:Option (List T)} (hi:(i,(k,(d,row)))∈R) (hr:i∈Region.ready .any ops listed) (hsz:i<listed.size)
 (h:∃ s,RelW B s (withR x0 (fun j=>listed.getD j false) R) a w) {Q:Exit→Act→World→Prop} {Kp:Act→World→Prop}
 (hK:∀ a' w',(∃ s',RelW B s' (withR x0 (fun j=>(listed.setIfInBounds i true).getD j false) R) a' w')→Kp a' w'):wpOp c.P ops Q i Kp a w:=by
 obtain ⟨s,h⟩:=h
 obtain ⟨o,R0,f1,f2,f3,f3u,f4,f5,f6⟩:=ht i k d row hi
 have hle:LeX (withR x0 (before ops ops.size i) R0) (withR x0 (fun j=>listed.getD j false) R) :=
  withR_le f3u hu f3 (fun e _ hb=>before_listed _ hc (ready_deps hr) hb) (fun k hk=>⟨(h0 k hk).1,(h0 k hk).2.1⟩)
 obtain ⟨k1,k2,k3,k4⟩:=h0 k (mem_dstsR.2 ⟨_,hi,rfl⟩)
 have hun:listed.getD i false=false:=by
  have:=(mem_ready.1 hr).1
  rw [← getD_tf hsz true]; exact this
 have huk:∀ {i' d' row'},(i',(k,(d',row')))∈R→i'=i:=by
  intro i' d' row' hm
  have:=hu _ hm _ hi rfl
  simp only [Prod.mk.injEq] at this
  exact this.1
 have hkroot:look (withR x0 (fun j=>listed.getD j false) R).roots k=none:=by
  simp only [withR,look_app]
  rw [look_none (l:=selR _ R) (fun row' hd'=>by
   obtain ⟨i',d',h1,h2⟩:=(selR_iff hu).1 hd'
   rw [huk h1] at h2
   simp only [hun] at h2; cases h2)]
  exact k2
 -- the state after it
 have hafter:∀ {s':Sit} {a':Act} {w':World},RelW B s' ((withR x0 (fun j=>listed.getD j false) R).plus k d row) a' w'→Kp a' w':=by
  intro s' a' w' hrel
  refine hK a' w' ⟨s',?_⟩
  refine hrel.same (E:=(withR x0 (fun j=>(listed.setIfInBounds i true).getD j false) R).env) (Rt:=(withR x0 (fun j=>(listed.setIfInBounds i true).getD j false) R).roots) (fun k' d' hd'=>?_) (fun r=>?_)
  ·show look ((k,d) :: (withR x0 (fun j=>listed.getD j false) R).env) k'=some d'
   rw [look_cons]
   simp only [withR,look_app] at hd'
   split at hd'
   ·rename_i d1 hd1
    simp only [Option.some.injEq] at hd'
    subst hd'
    obtain ⟨i',row',m1,m2⟩:=(selE_iff hu).1 hd1
    by_cases e:k'=k
    ·rw [if_pos e]
     subst e
     have:=hu _ m1 _ hi rfl
     simp only [Prod.mk.injEq] at this
     rw [this.2.2.1]
    ·rw [if_neg e]
     have hne:i'≠i:=by
      intro e2
      subst e2
      obtain ⟨o2,R2,q1,q2,_⟩:=ht i' k' _ _ m1
      rw [f1,Option.some.injEq] at q1
      subst q1
      rw [f2,Option.some.injEq] at q2
      exact e q2.symm
     have m2':listed.getD i' false=true:=by
      have m2:(listed.setIfInBounds i true).getD i' false=true:=m2
      rwa [getD_set_ne false (fun e=>hne e.symm)] at m2
     simp only [withR,look_app]
     rw [(selE_iff (A:=fun j=>listed.getD j false) hu).2 ⟨i',row',m1,m2'⟩]
   ·have hk':k'≠k:=by
     intro e
     rw [e] at hd'
     rw [k1] at hd'; cases hd'
    rw [if_neg hk']
    simp only [withR,look_app]
    rw [look_none (l:=selE _ R) (fun d1 hd1=>by
     obtain ⟨i',row',m1,m2⟩:=(selE_iff hu).1 hd1
     have:=(h0 k' (mem_dstsR.2 ⟨_,m1,rfl⟩)).1
     rw [this] at hd'; cases hd')]
    exact hd'
  ·rw [look_plus hkroot]
   by_cases e:r=k
   ·rw [if_pos e]
    subst e
    simp only [withR,look_app]
    cases row with
    | some row =>
     rw [(selR_iff (A:=fun j=>(listed.setIfInBounds i true).getD j false) hu).2 ⟨i,d,hi,by simp [hsz]⟩]
    | none =>
     rw [look_none (l:=selR _ R) (fun row' hd'=>by
      obtain ⟨i',d',m1,m2⟩:=(selR_iff hu).1 hd'
      have:=hu _ m1 _ hi rfl
      simp at this)]
     exact k2
   ·rw [if_neg e]
    simp only [withR,look_app]
    have hsel:look (selR (fun j=>(listed.setIfInBounds i true).getD j false) R) r=look (selR (fun j=>listed.getD j false) R) r:=by
     have hiff:∀ row',look (selR (fun j=>(listed.setIfInBounds i true).getD j false) R) r=some row'↔look (selR (fun j=>listed.getD j false) R) r=some row':=by
      intro row'
      rw [selR_iff hu,selR_iff hu]
      have hne:∀ i' d',(i',(r,(d',some row')))∈R→i'≠i:=by
       intro i' d' m1 e2
       subst e2
       obtain ⟨o2,R2,q1,q2,_⟩:=ht i' r _ _ m1
       rw [f1,Option.some.injEq] at q1
       subst q1
       rw [f2,Option.some.injEq] at q2
       exact e q2.symm
      constructor
      ·rintro ⟨i',d',m1,m2⟩
       exact ⟨i',d',m1,by rwa [getD_set_ne false (fun e=>hne i' d' m1 e.symm)] at m2⟩
      ·rintro ⟨i',d',m1,m2⟩
       exact ⟨i',d',m1,by rw [getD_set_ne false (fun e=>hne i' d' m1 e.symm)]; exact m2⟩
     cases e1:look (selR (fun j=>listed.getD j false) R) r with
     | some row'=>exact (hiff row').2 e1
     | none=>exact look_none (fun row' hr'=>by rw [(hiff row').1 hr'] at e1; cases e1)
    rw [hsel]
 unfold wpOp
 rw [f1]
 cases f6 with
 | ran x2 _ hg g1 g2 g3 g4 =>
  have hw:Region.wanted o (yielded ops a.tmps)=true:=by
   rcases hg with hg | ⟨g,want,kg,hg,he⟩
   ·simp [Region.wanted,hg]
   ·exact (wanted_of hnt h hle hg he).1 rfl
  simp only [hw,if_true]
  refine .inl ?_
  have hfr:=h.framed hle
  refine step_sound hΔ (B:=B.frame s _ a w) ⟨hG.g,hG.off⟩ hnt hfr g1 (fun s2 v w2 h2=>?_)
  rw [← hnt] at f2
  have e1:a.put o.dst v=a.gput B k v:=gd_put f2 a v
  rw [e1] at h2 ⊢
  obtain ⟨s',hs'⟩:=h.unframed hle (by rw [hnt]; exact f4) f5 hkroot k3 k4 h2 g3 g2 g4
  exact hafter hs'
 | skipped g want kg hg he =>
  have hw:Region.wanted o (yielded ops a.tmps)=false:=by
   rcases he with he | he
   ·exact (wanted_of hnt h hle hg he).2 (.inl rfl)
   ·exact (wanted_of hnt h hle hg he).2 (.inr rfl)
  simp only [hw]
  show Kp (a.put o.dst undef) w
  rw [← hnt] at f2
  rw [gd_put (B:=B) f2]
  refine hafter (s':=s) ?_
  have hput:=h.put (v:=undef) (d:=.tup []) (by rw [hnt]; exact f4) f5 (.tup [] #[] rfl (fun j x e=>by simp at e))
  exact hput
theorem ops_step (hΔ:Known c.P c.G Δ) (hG:Fit B c) (hnt:B.nt=nt) {ops:Array Oper} {Q:Exit→Act→World→Prop} {K:X→Option α} {q:α} {o:Oper} {l:List Oper} (h:RelW B s x a w)
 (he:opsK c nt Δ ops.toList (o :: l) x K=some q) {K':Act→World→Prop} (hnext:∀ x' s' a' w',opsK c nt Δ ops.toList l x' K=some q→RelW B s' x' a' w'→K' a' w') :
 if Region.wanted o (yielded ops a.tmps) then o.wp c.P a w K' Q else K' (a.put o.dst undef) w:=by
 unfold opsK at he
 split at he
 ·rename_i hg
  rw [if_pos (by simp [Region.wanted,hg])]
  exact stepN_sound hΔ hG hnt h he hnext
 ·rename_i j want hg
  obtain ⟨⟨k,d⟩,h1,he1⟩:=Option.bind_eq_some_iff.mp he
  obtain ⟨k',h2,h3⟩:=Option.bind_eq_some_iff.mp h1
  obtain ⟨d',h4,h5⟩:=Option.map_eq_some_iff.mp h3
  simp only [Prod.mk.injEq] at h5
  obtain ⟨rfl,rfl⟩:=h5
  obtain ⟨v,h6',h7⟩:=h.env _ _ h4
  rw [← hnt] at h2
  obtain ⟨k0,h2',h6⟩:=gd_tv h2 h6'
  have hk':(ops[j]?).bind (·.dst)=some k0:=by rw [nth_eq] at h2'; simpa using h2'
  split at he1
  ·rename_i b hb
   have hv:=asB_sound h7 hb
   subst hv
   have hy:yielded ops a.tmps j=some b:=by simp [yielded,hk',h6]
   have hkn:∀ b',b'=b→RelW B s (known x k' b') a w:=fun b' e=>by subst e; exact h.reput h6' (scal_rep _ rfl)
   rcases cond_some he1 with ⟨hbw,he2⟩ | ⟨hbw,he2⟩
   ·have hbe:want=b:=by cases want <;> cases b <;> simp [eqB] at hbw ⊢
    rw [if_pos (by simp [Region.wanted,hg,hy,hbe])]
    exact stepN_sound hΔ hG hnt (hkn want hbe) he2 hnext
   ·have hbe:(!want)=b:=by cases want <;> cases b <;> simp [eqB] at hbw ⊢
    rw [if_neg (by subst hbe; cases want <;> simp [Region.wanted,hg,hy])]
    obtain ⟨x',k1,k2⟩:=skip_sound hnt (hkn _ hbe) he2
    exact hnext _ _ _ _ k1 k2
  ·split at he1
   ·rename_i hu
    have hd:=isUndef_eq hu
    simp only at hd
    subst hd
    have hv:v = .tuple #[]:=by
     cases h7 with
     | tup _ arr hs _ => have : arr = #[] := by apply Array.eq_empty_of_size_eq_zero; simpa using hs
                         rw [this]
    subst hv
    have hy:yielded ops a.tmps j=none:=by simp [yielded,hk',h6]
    rw [if_neg (by simp [Region.wanted,hg,hy])]
    obtain ⟨x',k1,k2⟩:=skip_sound hnt h he1
    exact hnext _ _ _ _ k1 k2
   ·cases he1
theorem dropAll_sound:∀ (ks:List Nat) {x x0:X} {s:Sit},RelW B s x a w→dropAll ks x=some x0→∃ s',RelW B s' x0 a w∧x0.pin=x.pin∧x0.lock=x.lock∧(∀ e∈x.dirt,e∈x0.dirt) ∧
 (∀ k,look x.env k=none→look x0.env k=none)∧(∀ k,look x.roots k=none→look x0.roots k=none) ∧
 ∀ k∈ks,look x0.env k=none∧look x0.roots k=none∧lockOk x0 k []=true∧(k,[])∈x0.dirt
 | [],x,x0,s,h,he=>by
  simp only [dropAll,Option.some.injEq] at he
  subst he
  exact ⟨s,h,rfl,rfl,fun _ h=>h,fun _ h=>h,fun _ h=>h,fun k hk=>by simp at hk⟩
 | k :: ks,x,x0,s,h,he=>by
  unfold dropAll at he
  split at he
  ·rename_i hl
   obtain ⟨s1,h1,e1,e2⟩:=h.drop hl
   have hp:(x.drop k).pin=x.pin:=by unfold X.drop; split <;> rfl
   have hlk:(x.drop k).lock=x.lock:=by unfold X.drop; split <;> rfl
   have hd:(x.drop k).dirt=(k,[]) :: x.dirt:=by unfold X.drop; split <;> rfl
   have hen:∀ k',look x.env k'=none→look (x.drop k).env k'=none:=by
    intro k' hk'
    refine look_none (fun d hd=>?_)
    unfold X.drop at hd
    split at hd
    ·rw [(onlyS_sub hd).2] at hk'; cases hk'
    ·have:=(onlyS_sub hd).2
     rw [look_mapS,hk'] at this; cases this
   have hrn:∀ k',look x.roots k'=none→look (x.drop k).roots k'=none:=by
    intro k' hk'
    refine look_none (fun d hd=>?_)
    unfold X.drop at hd
    split at hd
    ·rw [hd] at hk'; cases hk'
    ·rw [(onlyS_sub hd).2] at hk'; cases hk'
   obtain ⟨s2,g1,g2,g3,g4,g5,g6,g7⟩:=dropAll_sound ks h1 he
   refine ⟨s2,g1,g2.trans hp,g3.trans hlk,fun e he=>g4 e (by rw [hd]; exact List.mem_cons_of_mem _ he),fun k' hk'=>g5 k' (hen k' hk'),fun k' hk'=>g6 k' (hrn k' hk'),fun k' hk'=>?_⟩
   rcases List.mem_cons.1 hk' with hk' | hk'
   ·subst hk'
    refine ⟨g5 _ e1,g6 _ e2,?_,g4 _ (by rw [hd]; exact List.mem_cons_self)⟩
    unfold lockOk at hl ⊢
    rw [g3,hlk]; exact hl
   ·exact g7 k' hk'
  ·cases he
theorem draw_sound (hΔ:Known c.P c.G Δ) {B:Base} (hG:Fit B c) (hnt:B.nt=nt) {id:Nat} {ops:Array Oper} {m:Nat} {Q:Exit→Act→World→Prop} {K:X→Option α} {q:α}
 (hK:∀ x s a w,RelW B s x a w→K x=some q→Q .normal a w) {x:X} {s:Sit} {a:Act} {w:World} (h:RelW B s x a w) (he:drawK c nt Δ ops m x K=some q):(Code.region id ops true).wp c.P Q a w:=by
 unfold drawK at he
 split at he
 rotate_left
 ·cases he
 rename_i hok
 simp only [drawOk,Bool.and_eq_true] at hok
 obtain ⟨o1,o2,o3⟩:=hok
 have o1:=Nat.le_of_ble_eq_true o1
 obtain ⟨l,e1,he1⟩:=Option.bind_eq_some_iff.mp he
 obtain ⟨x0,e0,he2⟩:=Option.bind_eq_some_iff.mp he1
 obtain ⟨e2,e3⟩:=takeN_some e1
 obtain ⟨s0,d1,d2,-,-,-,-,d7⟩:=dropAll_sound _ h e0
 obtain ⟨R,r1,hu,r2,r3⟩:=reads_traced l 0 [] (fun n o e=>by
  subst e2
  rw [List.getElem?_take] at e
  split at e
  ·rw [Nat.zero_add,← Array.getElem?_toList]; exact e
  ·cases e) (fun e he=>by simp at he) (fun k hk=>by simp [dstsR] at hk) (fun k hk=>(d7 k hk).1) (fun i k d row hm=>by simp at hm) he2
 have hl:l.length=m:=by subst e2; simp; omega
 obtain ⟨r3,-,r4⟩:=r3
 have r3:∀ e∈R,e.1<m:=fun e he=>by
  rcases r3 e he with g | g
  ·simp at g
  ·omega
 have r4:∀ i,i<m→∃ e∈R,e.1=i:=fun i hi=>r4 i (Nat.zero_le _) (by omega)
 split at r1
 rotate_left
 ·cases r1
 rename_i b2
 have h0:∀ k∈dstsR R,look x0.env k=none∧look x0.roots k=none∧lockOk x0 k []=true∧(k,[])∈x0.dirt:=fun k hk=>d7 k ((mem_iff _ _).1 ((allB_iff _ _).1 b2 k hk))
 have hf:RelW B s0 x0 a { w with drawn:=w.drawn+1 }:=d1.world (w':={ w with drawn:=w.drawn+1 }) (fun _ _=>rfl) (Nat.le_refl _) rfl rfl rfl
 refine wp_region_any c.mix ?_
 refine any_two (m:=m) (I:=fun listed a1 w1=>listed.size=ops.size∧∃ s1,RelW B s1 (withR x0 (fun j=>listed.getD j false) R) a1 w1)
  (J:=fun t a1 w1=>∃ x1 s1,RelW B s1 x1 a1 w1∧opsK c nt Δ ops.toList (dropN t ops.toList) x1 K=some q) o1 (fun j k hk=>?_) (fun j hj hjs k hk=>?_) (fun listed a1 w1 i hi hc hr him=>?_) (fun listed a1 w1 hi hall=>?_)
  (fun t a1 w1 hmt hts hj=>?_) (fun a1 w1 hj=>?_) ops.size _ a _ ?_ ?_ (by simp) ?_ ⟨by simp,s0,?_⟩
 ·by_cases hjs:j<ops.size
  ·have:=(allB_iff _ _).1 ((allB_iff _ _).1 o2 j (rangeFrom_mem (Nat.zero_le _) (by omega))) k hk
   simpa [Nat.blt_eq] using this
  ·obtain ⟨o,ho,_⟩:=deps_mem.1 hk
   exact absurd (Array.getElem?_eq_some_iff.mp ho).1 hjs
 ·exact ⟨_,(allB_iff _ _).1 ((allB_iff _ _).1 o3 j (rangeFrom_mem hj (by omega))) k (rangeFrom_mem (Nat.zero_le _) (by omega))⟩
 ·obtain ⟨⟨i',k,d,row⟩,m1,m2⟩:=r4 i him
  simp only at m2
  subst m2
  have hin:i'<listed.size:=by rw [hi.1]; omega
  exact draw_step hΔ hG hnt hu h0 r2 hc m1 hr hin hi.2 (fun a' w' hr'=>⟨by simpa using hi.1,hr'⟩)
 ·obtain ⟨s1,hi2⟩:=hi.2
  refine ⟨_,s1,?_,r1⟩
  refine hi2.same (E:=(withR x0 (fun _=>true) R).env) (Rt:=(withR x0 (fun _=>true) R).roots) (fun k d hd=>?_) (fun r=>?_)
  ·simp only [withR,look_app] at hd ⊢
   split at hd
   ·rename_i d1 hd1
    simp only [Option.some.injEq] at hd
    subst hd
    obtain ⟨i,row,m1,-⟩:=(selE_iff hu).1 hd1
    have hli:listed.getD i false=true:=hall i (r3 _ m1)
    rw [(selE_iff (A:=fun j=>listed.getD j false) hu).2 ⟨i,row,m1,hli⟩]
   ·rw [look_none (l:=selE _ R) (fun d1 hd1=>by
     obtain ⟨i,row,m1,m2⟩:=(selE_iff hu).1 hd1
     rw [(h0 k (mem_dstsR.2 ⟨_,m1,rfl⟩)).1] at hd; cases hd)]
    exact hd
  ·simp only [withR,look_app]
   have:look (selR (fun _=>true) R) r=look (selR (fun j=>listed.getD j false) R) r:=by
    cases e4:look (selR (fun j=>listed.getD j false) R) r with
    | some row =>
     obtain ⟨i,d,m1,-⟩:=(selR_iff hu).1 e4
     exact (selR_iff hu).2 ⟨i,d,m1,rfl⟩
    | none=>exact look_none (fun row hr=>by
     obtain ⟨i,d,m1,-⟩:=(selR_iff hu).1 hr
     rw [(selR_iff (A:=fun j=>listed.getD j false) hu).2 ⟨i,d,m1,hall i (r3 _ m1)⟩] at e4; cases e4)
   rw [this]
 ·obtain ⟨x1,s1,g1,g2⟩:=hj
  unfold wpOp
  rw [Array.getElem?_eq_getElem hts]
  have hd:dropN t ops.toList=ops[t] :: dropN (t+1) ops.toList:=by
   rw [dropN_eq,dropN_eq,List.drop_eq_getElem_cons (by simpa using hts)]; simp
  rw [hd] at g2
  have hstep:=ops_step hΔ hG hnt (Q:=Q) g1 g2 (K':=fun a1 w1=>∃ x1 s1,RelW B s1 x1 a1 w1∧opsK c nt Δ ops.toList (dropN (t+1) ops.toList) x1 K=some q) (fun x' s' a' w' k1 k2=>⟨x',s',k2,k1⟩)
  split at hstep
  ·rename_i hwt; simp only [hwt,if_true]; exact .inl hstep
  ·rename_i hwt; simp only [hwt]; exact hstep
 ·obtain ⟨x1,s1,g1,g2⟩:=hj
  have:dropN ops.size ops.toList=[]:=by rw [dropN_eq]; simp
  rw [this] at g2
  exact hK x1 s1 a1 w1 g1 g2
 ·intro j hj
  simp only [Array.getD_eq_getD_getElem?,Array.getElem?_replicate] at hj
  split at hj <;> simp at hj
 ·intro j hj
  simp only [Array.getD_eq_getD_getElem?,Array.getElem?_replicate]
  split <;> simp
 ·have:=unl_split (m:=0) (l:=Array.replicate ops.size false) (fun j hj=>by omega) (fun j _=>by
   simp only [Array.getD_eq_getD_getElem?,Array.getElem?_replicate]
   split <;> simp) ops.size
  omega
 ·have hfalse:∀ i,(Array.replicate ops.size false).getD i false=false:=by
   intro i
   simp only [Array.getD_eq_getD_getElem?,Array.getElem?_replicate]
   split <;> simp
  refine hf.same (E:=(withR x0 (fun j=>(Array.replicate ops.size false).getD j false) R).env) (Rt:=(withR x0 (fun j=>(Array.replicate ops.size false).getD j false) R).roots) (fun k d hd=>?_) (fun r=>?_)
  ·simp only [withR,look_app] at hd
   rw [look_none (l:=selE _ R) (fun d1 hd1=>by
    obtain ⟨i,row,m1,m2⟩:=(selE_iff hu).1 hd1
    simp only [hfalse] at m2; cases m2)] at hd
   exact hd
  ·simp only [withR,look_app]
   rw [look_none (l:=selR _ R) (fun d1 hd1=>by
    obtain ⟨i,row,m1,m2⟩:=(selR_iff hu).1 hd1
    simp only [hfalse] at m2; cases m2)]
end
end Go.V
