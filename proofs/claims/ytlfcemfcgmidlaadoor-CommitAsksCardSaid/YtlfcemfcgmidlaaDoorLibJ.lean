import Derived.Test.YtlfcemfcgmidlaaDoorLibI
namespace Go.V
open Go.RowKit
variable {α:Type}
def fnD:D→Option (FuncId×List (Nat×Path))
 | .v (.c (.fnp f caps))=>some (f,caps)
 | _=>none
theorem fnD_some {d:D} {fc:FuncId×List (Nat×Path)} (h:fnD d=some fc):d = .v (.c (.fnp fc.1 fc.2)):=by
 unfold fnD at h
 split at h
 ·simp only [Option.some.injEq] at h; subst h; rfl
 ·cases h
def capD (e:Nat×Path):D:=.v (.c (.pt e.1 e.2 0 0 0))
def evalDs (cx:Ctx) (x:X):List Operand→Option (List D)
 | []=>some []
 | o :: l=>(evalD cx x o).bind fun d=>(evalDs cx x l).map fun ds=>d :: ds
section
variable {c:Ctx} {w:World}
def readVar (tmps:Array Value):ResultVar→Sem Value
 | .tmp t=>pure (tmps.getD t undef)
 | .cell a t=>do loadVar t (← asAddr (tmps.getD a undef))
def ReadsTo (P:Program) (w:World) (tmps:Array Value):List ResultVar→List Value→Prop
 | [],L=>L=[]
 | r :: l,L=>∃ v L',L=v :: L'∧(readVar tmps r).run P w = .ok v w∧ReadsTo P w tmps l L'
theorem ReadsTo.mapM {P:Program} {w:World} {tmps:Array Value}:∀ {l:List ResultVar} {L:List Value},ReadsTo P w tmps l L→(l.mapM (readVar tmps)).run P w = .ok L w
 | [],L,h=>by have h:L=[]:=h; subst h; simp
 | r :: l,L,h=>by
  obtain ⟨v,L',rfl,h1,h2⟩:=h
  simp [List.mapM_cons,h1,h2.mapM]
theorem ReadsTo.split {P:Program} {w:World} {tmps:Array Value}:∀ {l m:List ResultVar} {L:List Value},ReadsTo P w tmps (l++m) L→∃ L1 L2,L=L1++L2∧L1.length=l.length∧ReadsTo P w tmps l L1∧ReadsTo P w tmps m L2
 | [],m,L,h=>⟨[],L,rfl,rfl,rfl,h⟩
 | r :: l,m,L,h=>by
  obtain ⟨v,L',rfl,h1,h2⟩:=h
  obtain ⟨L1,L2,rfl,g0,g1,g2⟩:=h2.split
  exact ⟨v :: L1,L2,rfl,by simp [g0],⟨v,L1,rfl,h1,g1⟩,g2⟩
def lstV (l:List Value):Value:=match l with | [v]=>v | _=>.tuple l.toArray
theorem results_list (fn:Func) (tmps:Array Value) {l:List Value} (h:(fn.results.toList.mapM (readVar tmps)).run c.P w = .ok l w) :
 (results fn tmps).run c.P w = .ok (lstV l) w:=by
 unfold lstV
 have e:results fn tmps=(do let vs ← fn.results.mapM (readVar tmps); pure (if h:vs.size=1 then vs[0] else .tuple vs)):=rfl
 rw [e,Array.mapM_eq_mapM_toList]
 simp only [Sem.run_bind,Sem.run_map,h,Result.andThen_ok]
 match l with
 | [v]=>simp
 | []=>simp
 | a :: b :: l=>simp
def startEnv:Nat→List D→List (Nat×D)
 | _,[]=>[]
 | k,d :: l=>(k,d) :: startEnv (k+1) l
def X.start (ds:List D):X:={ env:=startEnv 0 ds,roots:=[],lock:=[],pin:=[],dirt:=[] }
theorem startEnv_some:∀ {l:List D} {m k:Nat} {d:D},look (startEnv m l) k=some d→m≤k∧l[k - m]?=some d
 | [],m,k,d,h=>by cases h
 | d0 :: l,m,k,d,h=>by
  unfold startEnv at h
  rw [look_cons] at h
  by_cases e:k=m
  ·rw [if_pos e,Option.some.injEq] at h
   subst e h
   exact ⟨Nat.le_refl _,by simp⟩
  ·rw [if_neg e] at h
   obtain ⟨h1,h2⟩:=startEnv_some h
   refine ⟨by omega,?_⟩
   have:k - m=(k - (m+1))+1:=by omega
   rw [this]; simpa using h2
end
def belowE (n:Nat):List (Nat×D)→List (Nat×D)
 | []=>[]
 | e :: l=>match Nat.blt e.1 n with
  | true=>e :: belowE n l
  | false=>belowE n l
def argE (off:Nat):List D→List (Nat×D)
 | []=>[]
 | d :: l=>(off,d) :: argE (off+1) l
def X.into (x:X) (off:Nat) (ds:List D):X:={ x with env:=app (argE off ds) (belowE off x.env) }
def X.outof (x:X) (off:Nat):X:={ x with env:=belowE off x.env }
def pinB (x:X) (off:Nat):Bool:=allB (fun k=>Nat.blt k off) x.pin
def calleeD (cx:Ctx) (x:X) (o:Oper):Option (List Operand×(FuncId×List (Nat×Path))):=match o.op with
 | .call cl=>match cl.callee with
  | .value f=>(evalD cx x f).bind fun d=>(fnD d).map fun fc=>(cl.args.toList,fc)
  | _=>none
 | _=>none
def oneV (d:D):Option V:=match d with
 | .v x=>some x
 | _=>none
def resVsK (cx:Ctx) (x:X):List ResultVar→(List V→Option α)→Option α
 | [],K=>K []
 | rv :: rvs,K=>(match rv with
  | .tmp t=>look x.env (cx.off+t)
  | .cell ad t=>(look x.env (cx.off+ad)).bind fun d=>loadK cx x t d some).bind fun d=>(oneV d).bind fun v=>resVsK cx x rvs fun vs=>K (v :: vs)
def tupD:List V→D
 | [v]=>.v v
 | l=>.tup l
def putOK (nt:Fr) (x:X) (dst:Option Nat) (d:D) (K:X→Option α):Option α:=match dst with
 | some k=>putK nt x (nt.off+k) d K
 | none=>K x
def guardedK (nt:Fr) (all:List Oper) (x:X) (o:Oper) (run skip:X→Option α):Option α:=match o.guard with
 | none=>run x
 | some (j,want)=>(guardD nt all x j).bind fun kd=>match asB kd.2 with
  | some b=>cond (eqB b want) (run (known x kd.1 want)) (skip (known x kd.1 (!want)))
  | none=>match isUndef kd.2 with
   | true=>skip x
   | false=>none
def enterK (cx:Ctx) (nt:Fr) (off:Nat) (x:X) (o:Oper) (body:Ctx→Fr→Code→X→(Exit→X→Option α)→Option α) (K:X→Option α):Option α :=
 (calleeD cx x o).bind fun af=>(evalDs cx x af.1).bind fun ds=>(look cx.I af.2.1).bind fun fn=>(fn.body).bind fun code =>
  match and (pinB x off) (Nat.ble (app ds (mapL capD af.2.2)).length fn.ntmps) with
  | true=>body { cx with off:=off } ⟨off,fn.ntmps⟩ code (x.into off (app ds (mapL capD af.2.2))) fun e x2=>match (match e with | .normal=>true | .ret=>true | _=>false) with
   | true=>resVsK { cx with off:=off } x2 fn.results.toList fun vs=>match pinB x2 off with
    | true=>putOK nt (x2.outof off) o.dst (tupD vs) K
    | false=>none
   | false=>none
  | false=>none
theorem belowE_look {n:Nat}:∀ {l:List (Nat×D)} {k:Nat} {d:D},look (belowE n l) k=some d→k<n∧look l k=some d
 | [],k,d,h=>by cases h
 | e :: l,k,d,h=>by
  obtain ⟨k0,d0⟩:=e
  unfold belowE at h
  split at h
  ·rename_i hb
   have hb:k0<n:=by simpa [Nat.blt_eq] using hb
   rw [look_cons] at h ⊢
   by_cases e:k=k0
   ·rw [if_pos e] at h ⊢; exact ⟨by omega,h⟩
   ·rw [if_neg e] at h ⊢; exact belowE_look h
  ·rename_i hb
   have hb : ¬ k0<n:=by
    intro hlt
    have:Nat.blt k0 n=true:=by simpa [Nat.blt_eq] using hlt
    simp only [this] at hb
    cases hb
   have:=belowE_look h
   rw [look_cons,if_neg (by omega)]
   exact this
theorem argE_look:∀ {ds:List D} {off k:Nat} {d:D},look (argE off ds) k=some d→off≤k∧ds[k - off]?=some d
 | [],off,k,d,h=>by cases h
 | d0 :: l,off,k,d,h=>by
  unfold argE at h
  rw [look_cons] at h
  by_cases e:k=off
  ·rw [if_pos e] at h
   subst e
   exact ⟨Nat.le_refl _,by simpa using h⟩
  ·rw [if_neg e] at h
   obtain ⟨h1,h2⟩:=argE_look h
   refine ⟨by omega,?_⟩
   rw [show k - off=(k - (off+1))+1 by omega]
   simpa using h2
section
variable {c:Ctx} {B:Base} {s:Sit} {x:X} {a:Act} {w:World} {nt:Fr}
def Base.into (B:Base) (a:Act) (off n:Nat):Base:={ B with nt:=⟨off,n⟩,out:=B.tv a }
theorem into_tv {a2:Act} {off n k:Nat} (h:k<off):(B.into a off n).tv a2 k=B.tv a k:=by
 unfold Base.tv Base.into
 simp only
 rw [if_pos h]
 rfl
theorem into_fit (hG:Fit B c) {off n:Nat}:Fit (B.into a off n) { c with off:=off }:=⟨hG.g,rfl⟩
theorem evalDs_sound (hG:Fit B c) (h:RelW B s x a w):∀ {os:List Operand} {ds:List D},evalDs c x os=some ds→ds.length=os.length∧∀ (j:Nat) d,ds[j]?=some d→∃ v,(os.map a.eval)[j]?=some v∧RepD w s d v
 | [],ds,e=>by
  simp only [evalDs,Option.some.injEq] at e
  subst e
  exact ⟨rfl,fun j d e=>by simp at e⟩
 | o :: l,ds,e=>by
  obtain ⟨d0,h1,h2⟩:=Option.bind_eq_some_iff.mp e
  obtain ⟨ds',h3,rfl⟩:=Option.map_eq_some_iff.mp h2
  obtain ⟨k1,k2⟩:=evalDs_sound hG h h3
  refine ⟨by simp [k1],fun j d e=>?_⟩
  cases j with
  | zero =>
   simp only [List.getElem?_cons_zero,Option.some.injEq] at e
   subst e
   exact ⟨_,rfl,evalD_sound hG h h1⟩
  | succ j=>simpa using k2 j d (by simpa using e)
theorem into_sound (h:RelW B s x a w) {off n:Nat} (hp:pinB x off=true) {ds:List D} {vs:List Value} (hn:ds.length≤n) (hl:vs.length=ds.length)
 (hv:∀ (j:Nat) d,ds[j]?=some d→∃ v,vs[j]?=some v∧RepD w s d v) :
 RelW (B.into a off n) s (x.into off ds) { tmps:=vs.toArray++Array.replicate (n - vs.toArray.size) undef,defers:=[] } w :=
 { h with
  defers:=rfl
  size:=by simp only [Base.into]; simp; omega
  env:=fun k d hd=>by
   simp only [X.into,look_app] at hd
   split at hd
   ·rename_i d' hd'
    simp only [Option.some.injEq] at hd
    subst hd
    obtain ⟨h1,h2⟩:=argE_look hd'
    obtain ⟨v,h3,h4⟩:=hv _ _ h2
    refine ⟨v,?_,h4⟩
    have hlt:k - off<vs.length:=(List.getElem?_eq_some_iff.mp h3).1
    unfold Base.tv Base.into
    simp only
    rw [if_neg (by omega),Array.getElem?_append_left (by simpa using hlt)]
    simpa using h3
   ·obtain ⟨h1,h2⟩:=belowE_look hd
    obtain ⟨v,h3,h4⟩:=h.env k d h2
    exact ⟨v,by rw [into_tv h1]; exact h3,h4⟩
  pins:=fun k hk=>by
   have:k<off:=by
    have:=(allB_iff _ _).1 hp k hk
    simpa [Nat.blt_eq] using this
   rw [into_tv this]
   exact h.pins k hk }
theorem outof_sound (h:RelW B s x a w) {off n:Nat} {s2:Sit} {x2:X} {a2:Act} {w2:World} (h2:RelW (B.into a off n) s2 x2 a2 w2) (hp:pinB x2 off=true):RelW B s2 (x2.outof off) a w2 :=
 { h2 with
  defers:=h.defers
  size:=h.size
  env:=fun k d hd=>by
   obtain ⟨h1,h3⟩:=belowE_look hd
   obtain ⟨v,h4,h5⟩:=h2.env k d h3
   rw [into_tv h1] at h4
   exact ⟨v,h4,h5⟩
  pins:=fun k hk=>by
   have:k<off:=by
    have:=(allB_iff _ _).1 hp k hk
    simpa [Nat.blt_eq] using this
   have h3:=h2.pins k hk
   rw [into_tv this] at h3
   exact h3 }
theorem capD_sound {f:FuncId} {caps:List (Nat×Path)} {v:Value} (h:RepD w s (.v (.c (.fnp f caps))) v):∃ cap:Array Value,v = .func (.func f) #[] cap∧cap.size=caps.length ∧
 ∀ (j:Nat) d,(mapL capD caps)[j]?=some d→∃ u,cap[j]?=some u∧RepD w s d u:=by
 cases h with
 | v _ _ h=>cases h with
  | c _ _ h=>cases h with
   | fnp _ _ cap hs hc =>
    refine ⟨cap,rfl,hs,fun j d e=>?_⟩
    rw [mapL_eq,List.getElem?_map] at e
    obtain ⟨⟨r,p⟩,e1,rfl⟩:=Option.map_eq_some_iff.mp e
    obtain ⟨b,h1,h2⟩:=hc j r p e1
    refine ⟨_,h2,.v _ _ (.c _ _ ?_)⟩
    have:=RepC.pt (w:=w) (s:=s) r p 0 0 0 _ b h1 rfl
    simpa [offOf] using this
theorem resVs_sound (h:RelW B s x a w) (hG:Fit B c):∀ (rvs:List ResultVar) {K:List V→Option α} {q:α},resVsK c x rvs K=some q →
 ∃ vs L,K vs=some q∧L.length=vs.length∧ReadsTo c.P w a.tmps rvs L∧∀ (j:Nat) V,vs[j]?=some V→∃ v,L[j]?=some v∧RepV w s V v
 | [],K,q,he=>⟨[],[],he,rfl,rfl,fun j V e=>by simp at e⟩
 | rv :: rvs,K,q,he=>by
  obtain ⟨d,h1,he1⟩:=Option.bind_eq_some_iff.mp he
  obtain ⟨V0,h2,h3⟩:=Option.bind_eq_some_iff.mp he1
  obtain ⟨vs,L,k1,k2,k3,k4⟩:=resVs_sound h hG rvs h3
  have hd:d = .v V0:=by
   unfold oneV at h2
   split at h2
   ·simp only [Option.some.injEq] at h2; subst h2; rfl
   ·cases h2
  have hrv:∃ v,(readVar a.tmps rv).run c.P w = .ok v w∧RepD w s d v:=by
   cases rv with
   | tmp t =>
    obtain ⟨v,g1,g2⟩:=h.env _ d h1
    rw [← hG.off,tv_local] at g1
    exact ⟨v,by simp [readVar,g1],g2⟩
   | cell ad t =>
    obtain ⟨d0,h4,h5⟩:=Option.bind_eq_some_iff.mp h1
    obtain ⟨v,g1,g2⟩:=h.env _ _ h4
    rw [← hG.off,tv_local] at g1
    obtain ⟨e,u,m1,m2,m3⟩:=load_sound h g2 h5
    simp only [Option.some.injEq] at m1
    subst m1
    refine ⟨u,?_,m3⟩
    have hv:a.tmps.getD ad undef=v:=by simp [g1]
    simp only [readVar,hv]
    cases v with
    | pointer ad=>cases ad with
     | some ad=>rw [← m2]; rfl
     | none=>simp [Instr.loadAt,Instr.sureAddr] at m2
    | _=>simp [Instr.loadAt,Instr.sureAddr] at m2
  obtain ⟨v,g1,g2⟩:=hrv
  subst hd
  refine ⟨V0 :: vs,v :: L,k1,by simp [k2],⟨v,L,rfl,g1,k3⟩,fun j V e=>?_⟩
  cases j with
  | zero =>
   simp only [List.getElem?_cons_zero,Option.some.injEq] at e
   subst e
   cases g2 with
   | v _ _ g2=>exact ⟨v,rfl,g2⟩
  | succ j=>simpa using k4 j V (by simpa using e)
theorem tupD_rep {vs:List V} {L:List Value} (hl:L.length=vs.length) (h:∀ (j:Nat) V,vs[j]?=some V→∃ v,L[j]?=some v∧RepV w s V v) :
 RepD w s (tupD vs) (lstV L):=by
 match vs,L,hl with
 | [],[],_=>exact .tup _ _ rfl (fun j V e=>by simp at e)
 | [V],[v],_ =>
  obtain ⟨v',f1,f2⟩:=h 0 V rfl
  simp only [List.getElem?_cons_zero,Option.some.injEq] at f1
  subst f1
  exact .v _ _ f2
 | V1 :: V2 :: Vs, v1 :: v2 :: L, hl => exact .tup _ _ (by simpa using hl) (fun j V e => by
       obtain ⟨v',f1,f2⟩:=h j V e
       exact ⟨v',by simpa using f1,f2⟩)
theorem guarded_sound (hnt:B.nt=nt) {ops:Array Oper} (h:RelW B s x a w) {o:Oper} {run skip:X→Option α} {q:α} (he:guardedK nt ops.toList x o run skip=some q) :
 ∃ x',RelW B s x' a w∧((Region.wanted o (yielded ops a.tmps)=true∧run x'=some q)∨(Region.wanted o (yielded ops a.tmps)=false∧skip x'=some q)):=by
 unfold guardedK at he
 split at he
 ·rename_i hg
  exact ⟨x,h,.inl ⟨by simp [Region.wanted,hg],he⟩⟩
 ·rename_i j want hg
  obtain ⟨⟨k,d⟩,h1,he1⟩:=Option.bind_eq_some_iff.mp he
  obtain ⟨k',h2,h3⟩:=Option.bind_eq_some_iff.mp h1
  obtain ⟨d',h4,h5⟩:=Option.map_eq_some_iff.mp h3
  simp only [Prod.mk.injEq] at h5
  obtain ⟨rfl,rfl⟩:=h5
  obtain ⟨v,h6',h7⟩:=h.env _ _ h4
  rw [← hnt] at h2
  obtain ⟨k0,h2',h6⟩:=gd_tv h2 h6'
  have hk':(ops[j]?).bind (·.dst)=some k0:=by rw [nth_eq] at h2'; simpa using h2'
  split at he1
  ·rename_i b hb
   have hv:=asB_sound h7 hb
   subst hv
   have hy:yielded ops a.tmps j=some b:=by simp [yielded,hk',h6]
   have hkn:∀ b',b'=b→RelW B s (known x k' b') a w:=fun b' e=>by subst e; exact h.reput h6' (scal_rep _ rfl)
   rcases cond_some he1 with ⟨hbw,he2⟩ | ⟨hbw,he2⟩
   ·have hbe:want=b:=by cases want <;> cases b <;> simp [eqB] at hbw ⊢
    exact ⟨_,hkn want hbe,.inl ⟨by simp [Region.wanted,hg,hy,hbe],he2⟩⟩
   ·have hbe:(!want)=b:=by cases want <;> cases b <;> simp [eqB] at hbw ⊢
    exact ⟨_,hkn _ hbe,.inr ⟨by subst hbe; cases want <;> simp [Region.wanted,hg,hy],he2⟩⟩
  ·split at he1
   ·rename_i hu
    have hd:=isUndef_eq hu
    simp only at hd
    subst hd
    have hv:v = .tuple #[]:=by
     cases h7 with
     | tup _ arr hs _ => have : arr = #[] := by apply Array.eq_empty_of_size_eq_zero; simpa using hs
                         rw [this]
    subst hv
    have hy:yielded ops a.tmps j=none:=by simp [yielded,hk',h6]
    exact ⟨x,h,.inr ⟨by simp [Region.wanted,hg,hy],he1⟩⟩
   ·cases he1
theorem enter_sound (hG:Fit B c) (hnt:B.nt=nt) (h:RelW B s x a w) {off:Nat} {o:Oper} {body:Ctx→Fr→Code→X→(Exit→X→Option α)→Option α} {K:X→Option α} {q:α}
 (he:enterK c nt off x o body K=some q) {Kp:Act→World→Prop} {Q:Exit→Act→World→Prop}
 (hbody:∀ (code:Code) (n:Nat) (x':X) (a':Act) (K':Exit→X→Option α) (Q':Exit→Act→World→Prop),RelW (B.into a off n) s x' a' w→body { c with off:=off } ⟨off,n⟩ code x' K'=some q →
  (∀ e x2 s2 a2 w2,RelW (B.into a off n) s2 x2 a2 w2→K' e x2=some q→Q' e a2 w2)→code.wp c.P Q' a' w)
 (hK:∀ x' s' a' w',K x'=some q→RelW B s' x' a' w'→Kp a' w'):o.wp c.P a w Kp Q:=by
 unfold enterK at he
 obtain ⟨⟨args,f,caps⟩,h1,he1⟩:=Option.bind_eq_some_iff.mp he
 obtain ⟨ds,h2,he2⟩:=Option.bind_eq_some_iff.mp he1
 obtain ⟨fn,h3,he3⟩:=Option.bind_eq_some_iff.mp he2
 obtain ⟨code,h4,he4⟩:=Option.bind_eq_some_iff.mp he3
 simp only at h2 h3 he4
 split at he4
 rotate_left
 ·cases he4
 rename_i hb
 simp only [Bool.and_eq_true] at hb
 obtain ⟨hp,hn⟩:=hb
 have hn:=Nat.le_of_ble_eq_true hn
 obtain ⟨hf,hname⟩:=c.hI f fn h3
 obtain ⟨l1,l2⟩:=evalDs_sound hG h h2
 -- what is called
 have hcall:∃ cl cap,o.op = .call cl∧cl.args.toList=args∧cap.size=caps.length∧(∀ (j:Nat) d,(mapL capD caps)[j]?=some d→∃ u,cap[j]?=some u∧RepD w s d u) ∧
  (execOp a.eval o).run c.P w = .ok (.enter f (cl.args.map a.eval++cap)) w:=by
  unfold calleeD at h1
  split at h1
  ·rename_i cl hop
   split at h1
   ·rename_i fo hcal
    obtain ⟨d,e1,e2⟩:=Option.bind_eq_some_iff.mp h1
    obtain ⟨fc,e3,e4⟩:=Option.map_eq_some_iff.mp e2
    simp only [Prod.mk.injEq] at e4
    obtain ⟨rfl,rfl⟩:=e4
    have e3:=fnD_some e3
    subst e3
    obtain ⟨cap,g1,g2,g3⟩:=capD_sound (evalD_sound hG h e1)
    refine ⟨cl,cap,hop,rfl,g2,g3,?_⟩
    have hbn : ¬ fn.body=none:=by rw [h4]; simp
    have hname' : ¬ fn.name = "runtime.NumGoroutine" := by simpa using hname
    obtain ⟨callee,args,ats⟩:=cl
    simp only at hcal
    subst hcal
    simp [execOp,hop,resolve,g1,Deferred.ofValue,invoke,callFunc,hf,hname',hbn]
   ·cases h1
  ·cases h1
 obtain ⟨cl,cap,hop,hargs,hcs,hcap,hrun⟩:=hcall
 unfold Oper.wp
 rw [hrun,Oper.upon_enter]
 have hvs:∀ (j:Nat) d,(app ds (mapL capD caps))[j]?=some d→∃ v,((args.map a.eval)++cap.toList)[j]?=some v∧RepD w s d v:=by
  intro j d e
  rw [app_eq] at e
  by_cases hj:j<ds.length
  ·rw [List.getElem?_append_left hj] at e
   obtain ⟨v,g1,g2⟩:=l2 j d e
   exact ⟨v,by rw [List.getElem?_append_left (by simp; omega)]; exact g1,g2⟩
  ·rw [List.getElem?_append_right (by omega)] at e
   obtain ⟨v,g1,g2⟩:=hcap _ d e
   exact ⟨v,by rw [List.getElem?_append_right (by simp; omega)]; simp only [List.length_map]; rw [← l1]; simpa using g1,g2⟩
 have hlen:((args.map a.eval)++cap.toList).length=(app ds (mapL capD caps)).length:=by rw [app_eq,mapL_eq]; simp [l1,hcs]
 have hin:=into_sound h (off:=off) (n:=fn.ntmps) hp hn hlen hvs
 have harr:((args.map a.eval)++cap.toList).toArray=cl.args.map a.eval++cap:=by
  apply Array.ext'
  simp [← hargs]
 rw [harr] at hin
 refine calls_of_wp hf h4 (hbody code fn.ntmps _ _ _ _ hin he4 (fun e x2 s2 a2 w2 hr hq=>?_))
 split at hq
 rotate_left
 ·cases hq
 rename_i hex
 have hG2:Fit (B.into a off fn.ntmps) { c with off:=off }:=into_fit hG
 obtain ⟨vs,L,k1,k2,k3,k4⟩:=resVs_sound (c:={ c with off:=off }) hr hG2 fn.results.toList hq
 split at k1
 rotate_left
 ·cases k1
 rename_i hp2
 have hout:=outof_sound h hr hp2
 have hres:=results_list (c:={ c with off:=off }) fn a2.tmps k3.mapM
 have hrep:=tupD_rep (w:=w2) (s:=s2) k2 k4
 generalize lstV L=R at hres hrep
 have hfin:Kp (a.put o.dst R) w2:=by
  unfold putOK at k1
  split at k1
  ·rename_i k hk
   obtain ⟨x',m1,m2⟩:=put_sound hnt hout k1 hrep
   rw [← hnt,gput_local] at m2
   rw [hk]
   exact hK _ _ _ _ m1 m2
  ·rename_i hk
   rw [hk]
   exact hK _ _ _ _ k1 hout
 cases e with
 | normal=>exact ⟨hr.defers,_,hres,hfin⟩
 | ret=>exact ⟨hr.defers,_,hres,hfin⟩
 | _=>cases hex
end
end Go.V
namespace Go.V
open Go.RowKit
variable {α:Type}
abbrev RunO (α:Type):=Nat→Oper→X→(X→Option α)→Option α
def depOn (ops:Array Oper) (ch:List Nat) (k:Nat):Bool:=anyL (fun j=>before ops ops.size k j) ch
def actA (ops:Array Oper) (ch A:List Nat):List Nat:=filtB (fun k=>!(depOn ops ch k)) A
def latA (ops:Array Oper) (ch A:List Nat):List Nat:=filtB (depOn ops ch) A
def waitA (ops:Array Oper) (r:Nat) (l:List Nat):List Nat:=filtB (fun k=>!(before ops ops.size r k)) l
theorem filtB_filtB {f g:Nat→Bool}:∀ {l:List Nat},(∀ x∈l,f x=true→g x=true)→filtB f (filtB g l)=filtB f l
 | [],_=>rfl
 | x :: l,h=>by
  have ih:=filtB_filtB (f:=f) (g:=g) (l:=l) fun y hy=>h y (List.mem_cons_of_mem _ hy)
  have hx:=h x List.mem_cons_self
  cases hf:f x with
  | true =>
   rw [show filtB g (x :: l)=x :: filtB g l by simp [filtB,hx hf]]
   simp only [filtB,hf,ih]
  | false =>
   rw [show filtB f (x :: l)=filtB f l by simp [filtB,hf]]
   cases hg:g x with
   | true =>
    rw [show filtB g (x :: l)=x :: filtB g l by simp [filtB,hg]]
    simp only [filtB,hf,ih]
   | false =>
    rw [show filtB g (x :: l)=filtB g l by simp [filtB,hg]]
    exact ih
noncomputable def stageK (run:RunO α) (cx:Ctx) (nt:Fr) (Δ:List (Nat×Fn)) (ops:Array Oper):(chain:List Nat)→(A:List Nat)→X→(X→Option α)→Option α
 | [],A,x,K=>(dropAll (dstsA nt ops A) x).bind fun x0=>readsA cx nt Δ ops x0 A [] fun R =>
  match allB (fun k=>mem (dstsA nt ops A) k) (dstsR R) with
  | true=>K (withR x0 (fun _=>true) R)
  | false=>none
 | r :: chain,A,x,K=>(dropAll (dstsA nt ops A) x).bind fun x0=>readsA cx nt Δ ops x0 (actA ops (r :: chain) A) [] fun R =>
  match and (allB (fun k=>mem (dstsA nt ops A) k) (dstsR R)) (and (!(mem A r)) (allB (fun j=>before ops ops.size j r) chain)) with
  | true=>sameL (fun S=>match nth ops.toList r with
   | some o=>run r o (withR x0 (fun i=>!(mem S i)) R) fun x'=>stageK run cx nt Δ ops chain (app S (latA ops (r :: chain) A)) x' K
   | none=>none) (filtB (fun S=>and (upOk ops (actA ops (r :: chain) A) S) (allB (fun k=>!(mem S k)) (deps ops r))) (subs (waitA ops r (actA ops (r :: chain) A))))
  | false=>none
section
variable {c:Ctx} {nt:Fr} {Δ:List (Nat×Fn)}
theorem stage_core (hΔ:Known c.P c.G Δ) {B:Base} (hG:Fit B c) (hnt:B.nt=nt) {ops:Array Oper} (hdep:∀ j k,k∈deps ops j→k<j) {Q:Exit→Act→World→Prop} {A:List Nat} {x0:X} {R:Res}
 (hu:Uniq R) (h0:∀ k∈dstsR R,look x0.env k=none∧look x0.roots k=none∧lockOk x0 k []=true∧(k,[])∈x0.dirt) (ht:Traced c nt Δ ops x0 R) (_hA:∀ i∈A,i<ops.size) (hin:∀ i∈A,∃ e∈R,e.1=i)
 {C:Nat→Prop} (hfin:∀ (listed:Array Bool) (a:Act) (w:World),(∀ j,j<ops.size→listed.getD j false=true)→(∀ j,C j→listed.getD j false=false)→(∃ s,RelW B s (withR x0 (fun j=>listed.getD j false) R) a w)→Q .normal a w)
 (hnext:∀ (n:Nat) (listed:Array Bool) (a:Act) (w:World) (i:Nat),(∃ s,RelW B s (withR x0 (fun j=>listed.getD j false) R) a w)→listed.size=ops.size→Closed ops listed→(∀ j,j<ops.size→j∉A→¬ C j→listed.getD j false=true)→(∀ j,C j→listed.getD j false=false) →
  i∈Region.ready .any ops listed→i∉A→unl ops.size listed≤n+1→wpOp c.P ops Q i (fun a' w'=>wpAny c.P .any ops Q n (listed.setIfInBounds i true) a' w') a w) :
 ∀ (n:Nat) (listed:Array Bool) (a:Act) (w:World),(∃ s,RelW B s (withR x0 (fun j=>listed.getD j false) R) a w)→listed.size=ops.size→Closed ops listed→(∀ j,j<ops.size→j∉A→¬ C j→listed.getD j false=true)→(∀ j,C j→j∉A∧listed.getD j false=false) →
  unl ops.size listed≤n→wpAny c.P .any ops Q n listed a w:=by
 intro n
 induction n with
 | zero =>
  intro listed a w hi hs hc h1 h2 hn
  have hall:=unl_zero (l:=listed) (k:=ops.size) (by omega)
  have hr:Region.ready .any ops listed=[]:=by
   cases hr:Region.ready .any ops listed with
   | nil=>rfl
   | cons i l =>
    obtain ⟨g1,g2⟩:=ready_un hs (by rw [hr]; exact List.mem_cons_self:i∈Region.ready .any ops listed)
    rw [hall i g1] at g2; cases g2
  exact ⟨hr,hfin listed a w hall (fun j hj=>(h2 j hj).2) hi⟩
 | succ n ih =>
  intro listed a w hi hs hc h1 h2 hn
  refine ⟨fun hr=>hfin listed a w (fun j hj=>?_) (fun j hj=>(h2 j hj).2) hi,fun i hii=>?_⟩
  ·-- nothing is ready: all is done
   refine Classical.byContradiction fun hno=>?_
   have hmin:∃ j,j<ops.size∧listed.getD j false=false∧∀ k,k<j→listed.getD k false=true:=by
    have key:∀ b,b≤ops.size→(∀ k,k<b→listed.getD k false=true)∨∃ j,j<b∧listed.getD j false=false∧∀ k,k<j→listed.getD k false=true:=by
     intro b
     induction b with
     | zero=>exact fun _=>.inl (fun k hk=>by omega)
     | succ b ihb =>
      intro hb
      rcases ihb (by omega) with h | ⟨j,hj,h⟩
      ·cases hbb:listed.getD b false with
       | true=>exact .inl (fun k hk=>by
        by_cases e:k=b
        ·subst e; exact hbb
        ·exact h k (by omega))
       | false=>exact .inr ⟨b,by omega,hbb,h⟩
      ·exact .inr ⟨j,by omega,h⟩
    rcases key ops.size (Nat.le_refl _) with h | ⟨j,hj,h⟩
    ·exact absurd (h j hj) hno
    ·exact ⟨j,hj,h⟩
   obtain ⟨j0,hj0,hu0,hlt0⟩:=hmin
   have hr0:=ready_of (j:=j0) hs hj0 hu0 (fun k hk=>hlt0 k (hdep j0 k hk))
   rw [hr] at hr0; cases hr0
  ·obtain ⟨g1,g2⟩:=ready_un hs hii
   by_cases him:i∈A
   ·obtain ⟨⟨i',k,d,row⟩,m1,m2⟩:=hin i him
    simp only at m2
    subst m2
    refine draw_step hΔ hG hnt hu h0 ht hc m1 hii (by omega) hi (fun a' w' hr'=>ih _ a' w' hr' (by simpa using hs) (hc.set hii) (fun j hj hjA hjC=>?_) (fun j hj=>⟨(h2 j hj).1,?_⟩) ?_)
    ·rw [getD_set_ne false (fun e=>hjA (by rw [← e]; exact him))]; exact h1 j hj hjA hjC
    ·rw [getD_set_ne false (fun e=>(h2 j hj).1 (by rw [← e]; exact him))]; exact (h2 j hj).2
    ·have:=unl_set (l:=listed) (i:=i') (by omega) g2 ops.size
     rw [if_pos g1] at this
     omega
   ·exact hnext n listed a w i hi hs hc h1 (fun j hj=>(h2 j hj).2) hii him hn
theorem dstsA_sub {nt:Fr} {ops:Array Oper}:∀ {A A':List Nat},(∀ j∈A,j∈A')→∀ {k:Nat},k∈dstsA nt ops A→k∈dstsA nt ops A':=by
 have key:∀ (A:List Nat) (k:Nat),k∈dstsA nt ops A↔∃ j∈A,∃ o,nth ops.toList j=some o∧k∈dstsO nt [o]:=by
  intro A k
  induction A with
  | nil=>simp [dstsA]
  | cons i A ih =>
   unfold dstsA
   constructor
   ·intro h
    split at h
    ·rename_i o ho
     rw [app_eq,List.mem_append] at h
     rcases h with h | h
     ·exact ⟨i,List.mem_cons_self,o,ho,h⟩
     ·obtain ⟨j,j1,j2⟩:=ih.1 h
      exact ⟨j,List.mem_cons_of_mem _ j1,j2⟩
    ·obtain ⟨j,j1,j2⟩:=ih.1 h
     exact ⟨j,List.mem_cons_of_mem _ j1,j2⟩
   ·rintro ⟨j,j1,o,j2,j3⟩
    rcases List.mem_cons.1 j1 with e | e
    ·subst e
     rw [j2]
     simp only [app_eq,List.mem_append]
     exact .inl j3
    ·have:=ih.2 ⟨j,e,o,j2,j3⟩
     split
     ·rw [app_eq,List.mem_append]; exact .inr this
     ·exact this
 intro A A' h k hk
 obtain ⟨j,j1,j2⟩:=(key A k).1 hk
 exact (key A' k).2 ⟨j,h j j1,j2⟩
def RunOk (c:Ctx) (B:Base) (ops:Array Oper) (Q:Exit→Act→World→Prop) (q:α) (run:RunO α):Prop :=
 ∀ (r:Nat) (o:Oper) (K:X→Option α) (s:Sit) (x:X) (a:Act) (w:World),RelW B s x a w→run r o x K=some q→∀ K':Act→World→Prop,(∀ x' s' a' w',K x'=some q→RelW B s' x' a' w'→K' a' w') →
  if Region.wanted o (yielded ops a.tmps) then o.wp c.P a w K' Q else K' (a.put o.dst undef) w
noncomputable def runOps (cx:Ctx) (nt:Fr) (Δ:List (Nat×Fn)) (ops:Array Oper):RunO α:=fun _ o x K=>opsK cx nt Δ ops.toList [o] x K
theorem runOps_ok (hΔ:Known c.P c.G Δ) {B:Base} (hG:Fit B c) (hnt:B.nt=nt) {ops:Array Oper} {Q:Exit→Act→World→Prop} {q:α}:RunOk c B ops Q q (runOps c nt Δ ops) :=
 fun _ _ _ _ _ _ _ h he _ hn=>ops_step hΔ hG hnt h he (fun x' s' a' w' k1 k2=>by
  simp only [opsK] at k1
  exact hn x' s' a' w' k1 k2)
theorem RelW.withNone {B:Base} {s:Sit} {x0:X} {a:Act} {w:World} {R:Res} {L:Nat→Bool} (hf:RelW B s x0 a w) (hu:Uniq R) (hL:∀ e∈R,L e.1=false):RelW B s (withR x0 L R) a w:=by
 refine hf.same (E:=(withR x0 L R).env) (Rt:=(withR x0 L R).roots) (fun k d hd=>?_) (fun r=>?_)
 ·simp only [withR,look_app] at hd
  rw [look_none (l:=selE _ R) (fun d1 hd1=>by
   obtain ⟨i,row,m1,m2⟩:=(selE_iff hu).1 hd1
   rw [hL _ m1] at m2; cases m2)] at hd
  exact hd
 ·simp only [withR,look_app]
  rw [look_none (l:=selR _ R) (fun d1 hd1=>by
   obtain ⟨i,d,m1,m2⟩:=(selR_iff hu).1 hd1
   rw [hL _ m1] at m2; cases m2)]
theorem stage_sound (hΔ:Known c.P c.G Δ) {B:Base} (hG:Fit B c) (hnt:B.nt=nt) {ops:Array Oper} (hdep:∀ j k,k∈deps ops j→k<j) {Q:Exit→Act→World→Prop} {K:X→Option α} {q:α} {run:RunO α} (hrun:RunOk c B ops Q q run)
 (hK:∀ x s a w,RelW B s x a w→K x=some q→Q .normal a w):∀ (chain A:List Nat) (x:X) (s:Sit) (a:Act) (w:World) (listed:Array Bool) (n:Nat),RelW B s x a w→listed.size=ops.size→Closed ops listed→chain.Nodup →
  (∀ j,j<ops.size→j∉A→j∉chain→listed.getD j false=true)→(∀ j∈A,j<ops.size∧listed.getD j false=false)→(∀ j∈chain,j∉A∧listed.getD j false=false)→(∀ j∈chain,j<ops.size)→unl ops.size listed≤n→stageK run c nt Δ ops chain A x K=some q→wpAny c.P .any ops Q n listed a w
 | [],A,x,s,a,w,listed,n,h,hs,hc,hnd,h1,h2,h3,h4,hn,he=>by
  unfold stageK at he
  obtain ⟨x0,e0,he2⟩:=Option.bind_eq_some_iff.mp he
  obtain ⟨s0,d1,d2,-,-,-,-,d7⟩:=dropAll_sound _ h e0
  obtain ⟨R,r1,hu,r2,r3,-,r4⟩:=readsA_traced A [] (fun e he=>by simp at he) (fun k hk=>by simp [dstsR] at hk) (fun k hk=>(d7 k hk).1) (fun i k d row hm=>by simp at hm) he2
  have r3:∀ e∈R,e.1∈A:=fun e he=>(r3 e he).elim (fun g=>by simp at g) id
  split at r1
  rotate_left
  ·cases r1
  rename_i b2
  have h0:∀ k∈dstsR R,look x0.env k=none∧look x0.roots k=none∧lockOk x0 k []=true∧(k,[])∈x0.dirt:=fun k hk=>d7 k ((mem_iff _ _).1 ((allB_iff _ _).1 b2 k hk))
  refine stage_core hΔ hG hnt hdep (A:=A) (C:=fun _=>False) hu h0 r2 (fun i hi=>(h2 i hi).1) r4 (fun listed' a' w' hall hC' hi=>?_) (fun n' listed' a' w' i hi hs' hc' g1 _ hii hiA _=>?_) n listed a w ⟨s0,d1.withNone hu (fun e he=>(h2 _ (r3 e he)).2)⟩ hs hc
   (fun j hj hjA _=>h1 j hj hjA (by simp)) (fun j hj=>hj.elim) hn
  ·obtain ⟨s1,hi⟩:=hi
   have:withR x0 (fun _=>true) R=withR x0 (fun j=>listed'.getD j false) R:=withR_same (fun e he=>(hall _ (h2 _ (r3 e he)).1).symm)
   rw [this] at r1
   exact hK _ _ _ _ hi r1
  ·obtain ⟨f1,f2⟩:=ready_un hs' hii
   rw [g1 i f1 hiA (fun h=>h)] at f2; cases f2
 | r :: chain,A,x,s,a,w,listed,n,h,hs,hc,hnd,h1,h2,h3,h4,hn,he=>by
  unfold stageK at he
  obtain ⟨x0,e0,he2⟩:=Option.bind_eq_some_iff.mp he
  obtain ⟨s0,d1,d2,-,-,-,-,d7⟩:=dropAll_sound _ h e0
  have hact:∀ j,j∈actA ops (r :: chain) A↔j∈A∧depOn ops (r :: chain) j=false:=fun j=>by
   unfold actA
   rw [mem_filtB]; simp
  have hlat:∀ j,j∈latA ops (r :: chain) A↔j∈A∧depOn ops (r :: chain) j=true:=fun j=>by
   unfold latA
   rw [mem_filtB]
  have hdst:∀ k∈dstsA nt ops (actA ops (r :: chain) A),k∈dstsA nt ops A:=fun k hk=>dstsA_sub (fun j hj=>((hact j).1 hj).1) hk
  obtain ⟨R,r1,hu,r2,r3,-,r4⟩:=readsA_traced (actA ops (r :: chain) A) [] (fun e he=>by simp at he) (fun k hk=>by simp [dstsR] at hk) (fun k hk=>(d7 k (hdst k hk)).1) (fun i k d row hm=>by simp at hm) he2
  have r3:∀ e∈R,e.1∈actA ops (r :: chain) A:=fun e he=>(r3 e he).elim (fun g=>by simp at g) id
  split at r1
  rotate_left
  ·cases r1
  rename_i hb
  simp only [Bool.and_eq_true] at hb
  obtain ⟨b2,b3,b4⟩:=hb
  have h0:∀ k∈dstsR R,look x0.env k=none∧look x0.roots k=none∧lockOk x0 k []=true∧(k,[])∈x0.dirt:=fun k hk=>d7 k ((mem_iff _ _).1 ((allB_iff _ _).1 b2 k hk))
  rw [List.nodup_cons] at hnd
  refine stage_core hΔ hG hnt hdep (A:=actA ops (r :: chain) A) (C:=fun j=>j∈r :: chain∨j∈latA ops (r :: chain) A) hu h0 r2 (fun i hi=>(h2 i ((hact i).1 hi).1).1) r4 (fun listed' a' w' hall hC' hi=>?_) (fun n' listed' a' w' i hi hs' hc' g1 g2 hii hiA hn'=>?_) n listed a w ⟨s0,d1.withNone hu (fun e he=>(h2 _ ((hact _).1 (r3 e he)).1).2)⟩ hs hc
   (fun j hj hjA hjC=>h1 j hj (fun hm=>by
    cases e:depOn ops (r :: chain) j with
    | false=>exact hjA ((hact j).2 ⟨hm,e⟩)
    | true=>exact hjC (.inr ((hlat j).2 ⟨hm,e⟩))) (fun hm=>hjC (.inl hm))) (fun j hj=>by
    rcases hj with hj | hj
    ·exact ⟨fun hm=>(h3 j hj).1 ((hact j).1 hm).1,(h3 j hj).2⟩
    ·refine ⟨fun hm=>?_,(h2 j ((hlat j).1 hj).1).2⟩
     have e1:=((hact j).1 hm).2
     rw [((hlat j).1 hj).2] at e1; cases e1) hn
  ·have:=hC' r (.inl List.mem_cons_self)
   rw [hall r (h4 r List.mem_cons_self)] at this; cases this
  ·obtain ⟨f1,f2⟩:=ready_un hs' hii
   have hiC:i∈r :: chain:=by
    refine Classical.byContradiction fun hno=>?_
    by_cases hil:i∈latA ops (r :: chain) A
    ·obtain ⟨j,j1,j2⟩:=(anyL_iff _ _).1 ((hlat i).1 hil).2
     have:=before_listed _ hc' (ready_deps hii) j2
     rw [g2 j (.inl j1)] at this; cases this
    ·rw [g1 i f1 hiA (fun h=>h.elim hno hil)] at f2; cases f2
   have hir:i=r:=by
    rcases List.mem_cons.1 hiC with e | e
    ·exact e
    ·have:=before_listed _ hc' (ready_deps hii) ((allB_iff _ _).1 b4 i e)
     rw [g2 r (.inl List.mem_cons_self)] at this; cases this
   subst hir
   obtain ⟨s1,hi⟩:=hi
   let S:=filtB (fun k=>!(listed'.getD k false)) (actA ops (i :: chain) A)
   have hSm:∀ j,j∈S↔j∈actA ops (i :: chain) A∧listed'.getD j false=false:=by
    intro j
    have:j∈S↔j∈actA ops (i :: chain) A∧(!(listed'.getD j false))=true:=mem_filtB
    rw [this]; simp
   have hup:upOk ops (actA ops (i :: chain) A) S=true:=by
    refine (allB_iff _ _).2 fun j hj=>?_
    cases e:mem S j with
    | true=>rfl
    | false =>
     refine (allB_iff _ _).2 fun k hk=>?_
     cases e2:mem S k with
     | false=>rfl
     | true =>
      have hlj:listed'.getD j false=true:=by
       cases e3:listed'.getD j false with
       | true=>rfl
       | false=>rw [(mem_iff _ _).2 ((hSm j).2 ⟨hj,e3⟩)] at e; cases e
      have:=hc' j hlj k hk
      rw [((hSm k).1 ((mem_iff _ _).1 e2)).2] at this; cases this
   have hde:allB (fun k=>!(mem S k)) (deps ops i)=true:=by
    refine (allB_iff _ _).2 fun k hk=>?_
    cases e2:mem S k with
    | false=>rfl
    | true =>
     have:=ready_deps hii k hk
     rw [((hSm k).1 ((mem_iff _ _).1 e2)).2] at this; cases this
   have hin:S∈filtB (fun S=>and (upOk ops (actA ops (i :: chain) A) S) (allB (fun k=>!(mem S k)) (deps ops i))) (subs (waitA ops i (actA ops (i :: chain) A))):=by
    refine mem_filtB.2 ⟨?_,by rw [hup,hde]; rfl⟩
    have hw:filtB (fun k=>!(listed'.getD k false)) (waitA ops i (actA ops (i :: chain) A))=S:=filtB_filtB fun x _ hx=>by
     cases e:before ops ops.size i x with
     | false=>rfl
     | true=>rw [before_listed _ hc' (ready_deps hii) e] at hx; cases hx
    rw [← hw]
    exact filt_subs _ _
   have hk1:=sameL_some r1 S hin
   have hsame:withR x0 (fun i=>!(mem S i)) R=withR x0 (fun j=>listed'.getD j false) R:=by
    refine withR_same fun e he=>?_
    have hem:=r3 e he
    cases e4:listed'.getD e.1 false with
    | false=>rw [(mem_iff _ _).2 ((hSm _).2 ⟨hem,e4⟩)]; rfl
    | true =>
     cases e5:mem S e.1 with
     | false=>rfl
     | true=>rw [((hSm _).1 ((mem_iff _ _).1 e5)).2] at e4; cases e4
   rw [hsame,nth_eq,Array.getElem?_toList,Array.getElem?_eq_getElem f1] at hk1
   simp only at hk1
   unfold wpOp
   rw [Array.getElem?_eq_getElem f1]
   have hSl:∀ j,j∈app S (latA ops (i :: chain) A)↔j∈S∨j∈latA ops (i :: chain) A:=fun j=>by rw [app_eq,List.mem_append]
   have hst:=hrun i _ _ _ _ _ _ hi hk1 (wpAny c.P .any ops Q n' (listed'.setIfInBounds i true)) (fun x' s' a2 w2 k1 k2=>by
    refine stage_sound hΔ hG hnt hdep hrun hK chain (app S (latA ops (i :: chain) A)) x' s' a2 w2 (listed'.setIfInBounds i true) n' k2 (by simpa using hs') (hc'.set hii) hnd.2 (fun j hj hjS hjC=>?_) (fun j hj=>?_) (fun j hj=>?_) (fun j hj=>h4 j (List.mem_cons_of_mem _ hj)) ?_ k1
    ·by_cases e:j=i
     ·subst e; simp [show j<listed'.size by omega]
     ·rw [getD_set_ne false (fun e'=>e e'.symm)]
      rw [hSl] at hjS
      by_cases hjA:j∈actA ops (i :: chain) A
      ·cases e3:listed'.getD j false with
       | true=>rfl
       | false=>exact absurd (.inl ((hSm j).2 ⟨hjA,e3⟩)) hjS
      ·exact g1 j hj hjA (fun hm=>by
        rcases hm with hm | hm
        ·rcases List.mem_cons.1 hm with e' | e'
         ·exact e e'
         ·exact hjC e'
        ·exact hjS (.inr hm))
    ·rcases (hSl j).1 hj with hj | hj
     ·obtain ⟨m1,m2⟩:=(hSm j).1 hj
      refine ⟨(h2 j ((hact j).1 m1).1).1,?_⟩
      rw [getD_set_ne false (fun e'=>hiA (by rw [← e'] at m1; exact m1))]; exact m2
     ·refine ⟨(h2 j ((hlat j).1 hj).1).1,?_⟩
      rw [getD_set_ne false (fun e'=>(h3 i List.mem_cons_self).1 (by rw [e']; exact ((hlat j).1 hj).1))]; exact g2 j (.inr hj)
    ·refine ⟨fun hm=>?_,?_⟩
     ·have hjA:j∈A:=by
       rcases (hSl j).1 hm with hm | hm
       ·exact ((hact j).1 ((hSm j).1 hm).1).1
       ·exact ((hlat j).1 hm).1
      exact (h3 j (List.mem_cons_of_mem _ hj)).1 hjA
     ·rw [getD_set_ne false (fun e'=>hnd.1 (by rw [e']; exact hj))]
      exact g2 j (.inl (List.mem_cons_of_mem _ hj))
    ·have:=unl_set (l:=listed') (i:=i) (by omega) f2 ops.size
     rw [if_pos f1] at this
     omega)
   split at hst
   ·rename_i hwt; simp only [hwt,if_true]; exact .inl hst
   ·rename_i hwt; simp only [hwt]; exact hst
def stagesOk (ops:Array Oper) (A:List Nat):Bool:=and (allB (fun k=>Nat.blt k ops.size) A) (allB (fun j=>allB (fun k=>Nat.blt k j) (deps ops j)) (rangeFrom 0 ops.size))
noncomputable def stagesK (run:RunO α) (cx:Ctx) (nt:Fr) (Δ:List (Nat×Fn)) (ops:Array Oper) (A:List Nat) (x:X) (K:X→Option α):Option α:=match stagesOk ops A with
 | true=>stageK run cx nt Δ ops (restA A (rangeFrom 0 ops.size)) A x K
 | false=>none
theorem rangeFrom_nodup:∀ (n a:Nat),(rangeFrom a n).Nodup
 | 0,a=>by simp [rangeFrom]
 | n+1,a=>by
  simp only [rangeFrom,List.nodup_cons]
  refine ⟨fun h=>?_,rangeFrom_nodup n (a+1)⟩
  have:=(rangeFrom_iff.1 h).1
  omega
theorem restA_nodup {A:List Nat}:∀ {l:List Nat},l.Nodup→(restA A l).Nodup
 | [],_=>by simp [restA]
 | j :: l,h=>by
  rw [List.nodup_cons] at h
  unfold restA
  split
  ·exact restA_nodup h.2
  ·rw [List.nodup_cons]
   exact ⟨fun hm=>h.1 (mem_restA.1 hm).1,restA_nodup h.2⟩
theorem stages_sound (hΔ:Known c.P c.G Δ) {B:Base} (hG:Fit B c) (hnt:B.nt=nt) {id:Nat} {ops:Array Oper} {A:List Nat} {Q:Exit→Act→World→Prop} {K:X→Option α} {q:α} {run:RunO α} (hrun:RunOk c B ops Q q run)
 (hK:∀ x s a w,RelW B s x a w→K x=some q→Q .normal a w) {x:X} {s:Sit} {a:Act} {w:World} (h:RelW B s x a w) (he:stagesK run c nt Δ ops A x K=some q):(Code.region id ops true).wp c.P Q a w:=by
 unfold stagesK at he
 split at he
 rotate_left
 ·cases he
 rename_i hok
 simp only [stagesOk,Bool.and_eq_true] at hok
 obtain ⟨o1,o2⟩:=hok
 have o1:∀ k∈A,k<ops.size:=fun k hk=>by simpa [Nat.blt_eq] using (allB_iff _ _).1 o1 k hk
 have hdep:∀ j k,k∈deps ops j→k<j:=by
  intro j k hk
  by_cases hjs:j<ops.size
  ·have:=(allB_iff _ _).1 ((allB_iff _ _).1 o2 j (rangeFrom_mem (Nat.zero_le _) (by omega))) k hk
   simpa [Nat.blt_eq] using this
  ·obtain ⟨o,ho,_⟩:=deps_mem.1 hk
   exact absurd (Array.getElem?_eq_some_iff.mp ho).1 hjs
 have hf:RelW B s x a { w with drawn:=w.drawn+1 }:=h.world (w':={ w with drawn:=w.drawn+1 }) (fun _ _=>rfl) (Nat.le_refl _) rfl rfl rfl
 have hfalse:∀ i,(Array.replicate ops.size false).getD i false=false:=by
  intro i
  simp only [Array.getD_eq_getD_getElem?,Array.getElem?_replicate]
  split <;> simp
 refine wp_region_any c.mix ?_
 refine stage_sound hΔ hG hnt hdep hrun hK _ A x s a _ (Array.replicate ops.size false) ops.size hf (by simp) ?_ (restA_nodup (rangeFrom_nodup _ _)) (fun j hj hjA hjC=>?_) (fun j hj=>⟨o1 j hj,hfalse j⟩) (fun j hj=>⟨(mem_restA.1 hj).2,hfalse j⟩) (fun j hj=>?_) ?_ he
 ·intro j hj
  rw [hfalse j] at hj; cases hj
 ·exact absurd (mem_restA.2 ⟨rangeFrom_iff.2 ⟨Nat.zero_le _,by omega⟩,hjA⟩) hjC
 ·have:=rangeFrom_iff.1 (mem_restA.1 hj).1
  omega
 ·have:=unl_split (m:=0) (l:=Array.replicate ops.size false) (fun j hj=>by omega) (fun j _=>by
   simp only [Array.getD_eq_getD_getElem?,Array.getElem?_replicate]
   split <;> simp) ops.size
  omega
end
end Go.V
namespace Go.V
open Go.RowKit
variable {α:Type}
def tmpsL:List Operand→List Nat
 | []=>[]
 | x :: l=>match x with
  | .tmp t=>t :: tmpsL l
  | _=>tmpsL l
def guardL (ops:Array Oper) (o:Oper):List Nat:=match o.guard with
 | some p=>match nth ops.toList p.1 with
  | some q=>match q.dst with
   | some d=>[d]
   | none=>[]
  | none=>[]
 | none=>[]
def looksL (ops:Array Oper) (o:Oper):List Nat:=app (tmpsL o.op.operands.toList) (guardL ops o)
theorem mem_tmpsL {l:List Operand} {t:Nat}:t∈l.filterMap (fun x=>match x with | .tmp t=>some t | _=>none)↔t∈tmpsL l:=by
 induction l with
 | nil=>simp [tmpsL]
 | cons x l ih =>
  rw [List.filterMap_cons]
  cases x <;> simp only [tmpsL,List.mem_cons,ih]
theorem looksL_iff {ops:Array Oper} {o:Oper} {t:Nat}:t∈o.looksAt ops↔t∈looksL ops o:=by
 unfold Oper.looksAt looksL guardL
 rw [List.mem_append,app_eq,List.mem_append]
 refine or_congr mem_tmpsL ?_
 cases o.guard with
 | none=>rfl
 | some p =>
  simp only [nth_eq,Array.getElem?_toList]
  cases ops[p.1]? with
  | none=>rfl
  | some q=>cases q with | mk d=>cases d <;> simp
def apartL (ops:Array Oper) (x y:Oper):Bool :=
 and (match x.dst with
  | some d=>and (!(mem (looksL ops y) d)) (match y.dst with
   | some e=>!(Nat.beq e d)
   | none=>true)
  | none=>true)
 (match y.dst with
  | some d=>!(mem (looksL ops x) d)
  | none=>true)
theorem apartL_spec {ops:Array Oper} {x y:Oper} (h:apartL ops x y=true):x.apart ops y=true:=by
 have hm:∀ (o:Oper) (d:Nat),(!(mem (looksL ops o) d))=true→((o.looksAt ops).contains d)=false:=fun o d hd=>by
  cases e:(o.looksAt ops).contains d with
  | false=>rfl
  | true =>
   rw [List.contains_iff_mem] at e
   rw [(mem_iff _ _).2 (looksL_iff.1 e)] at hd
   cases hd
 unfold apartL at h
 unfold Oper.apart
 simp only [Bool.and_eq_true] at h ⊢
 obtain ⟨h1,h2⟩:=h
 refine ⟨?_,?_⟩
 ·cases hx:x.dst with
  | none=>rfl
  | some d =>
   rw [hx] at h1
   simp only [Bool.and_eq_true] at h1 ⊢
   obtain ⟨h3,h4⟩:=h1
   refine ⟨by rw [hm _ _ h3]; rfl,?_⟩
   cases hy:y.dst with
   | none=>rfl
   | some e =>
    rw [hy] at h4
    have:e≠d:=by
     intro hed
     subst hed
     simp [Nat.beq_refl] at h4
    simpa using this
 ·cases hy:y.dst with
  | none=>rfl
  | some d =>
   rw [hy] at h2
   simp only
   rw [hm _ _ h2]; rfl
def freeL (ops:Array Oper) (done:List Nat) (i:Nat) (o:Oper):Bool :=
 allB (fun j=>match Nat.beq j i with
  | true=>true
  | false=>match mem done j with
   | true=>true
   | false=>match mem (deps ops j) i with
    | true=>true
    | false=>match nth ops.toList j with
     | some oj=>apartL ops o oj
     | none=>true) (rangeFrom 0 ops.size)
def noSelB:List Oper→Bool
 | []=>true
 | o :: l=>match o.op with
  | .select _ _=>false
  | _=>noSelB l
theorem noSelB_spec:∀ {l:List Oper},noSelB l=true→∀ o∈l,∀ cs b,o.op≠.select cs b
 | [],_,o,ho,_,_=>by simp at ho
 | o' :: l,h,o,ho,cs,b=>by
  unfold noSelB at h
  split at h
  ·cases h
  ·rename_i hn
   rcases List.mem_cons.1 ho with e | e
   ·subst e; exact fun e=>hn _ _ e
   ·exact noSelB_spec h o e cs b
def pureK (cx:Ctx) (nt:Fr) (x:X) (o:Oper) (K:X→Option α):Option α:=match o.guard with
 | some _=>none
 | none=>match o.dst with
  | none=>none
  | some k=>match o.op with
   | .move e=>(evalD cx x e).bind fun d=>putK nt x (nt.off+k) d K
   | .assign e=>(evalD cx x e).bind fun d=>putK nt x (nt.off+k) d K
   | .nilCheck e=>((evalD cx x e).bind nilD).bind fun d=>putK nt x (nt.off+k) d K
   | .fieldAddr t p f=>(evalD cx x p).bind fun d=>(fieldAddrD cx t f d).bind fun d'=>putK nt x (nt.off+k) d' K
   | _=>none
def preK (cx:Ctx) (nt:Fr) (ops:Array Oper):List Nat→List Nat→X→(List Nat→X→Option α)→Option α
 | [],done,x,K=>K done x
 | i :: is,done,x,K=>match nth ops.toList i with
  | none=>none
  | some o=>match and (freeL ops done i o) (and (!(mem done i)) (allB (fun k=>mem done k) (deps ops i))) with
   | true=>pureK cx nt x o fun x'=>preK cx nt ops is (i :: done) x' K
   | false=>none
section
variable {c:Ctx} {nt:Fr} {Δ:List (Nat×Fn)}
theorem pure_sound {B:Base} (hG:Fit B c) (hnt:B.nt=nt) {s:Sit} {x:X} {a:Act} {w:World} {ops:Array Oper} (h:RelW B s x a w) {o:Oper} {K:X→Option α} {q:α} (he:pureK c nt x o K=some q) :
 ∃ v x',Yields c.P ops o v a∧K x'=some q∧RelW B s x' (a.put o.dst v) w:=by
 unfold pureK at he
 split at he
 ·cases he
 rename_i hg
 split at he
 ·cases he
 rename_i k hk
 have hw:Region.wanted o (yielded ops a.tmps)=true:=by simp [Region.wanted,hg]
 have fin:∀ {d:D} {v:Value},RepD w s d v→putK nt x (nt.off+k) d K=some q→(∀ w',(execOp a.eval o).run c.P w' = .ok (.value v) w')→∃ v x',Yields c.P ops o v a∧K x'=some q∧RelW B s x' (a.put o.dst v) w:=fun hd hp hr=>by
  obtain ⟨x',k4,k5⟩:=put_sound hnt h hp hd
  rw [← hnt,gput_local] at k5
  exact ⟨_,x',.inl ⟨hw,hr⟩,k4,by rw [hk]; exact k5⟩
 split at he
 ·rename_i e hop
  obtain ⟨d,hd,he⟩:=Option.bind_eq_some_iff.mp he
  exact fin (evalD_sound hG h hd) he (fun w'=>by simp only [execOp,hop]; rfl)
 ·rename_i e hop
  obtain ⟨d,hd,he⟩:=Option.bind_eq_some_iff.mp he
  exact fin (evalD_sound hG h hd) he (fun w'=>by simp only [execOp,hop]; rfl)
 ·rename_i e hop
  obtain ⟨d,hd,he⟩:=Option.bind_eq_some_iff.mp he
  obtain ⟨d0,h0,h1⟩:=Option.bind_eq_some_iff.mp hd
  have hr:=evalD_sound hG h h0
  obtain ⟨rfl,ad,h2⟩:=nilD_sound hr h1
  have h2:a.eval e = .pointer (some ad):=h2
  exact fin hr he (fun w'=>by simp only [execOp,hop,h2]; rfl)
 ·rename_i t p f hop
  obtain ⟨d,hd,he⟩:=Option.bind_eq_some_iff.mp he
  obtain ⟨e,h4,he⟩:=Option.bind_eq_some_iff.mp he
  obtain ⟨z,h1,h2⟩:=fieldAddr_sound (evalD_sound hG h hd) h4
  exact fin h2 he (fun w'=>by simp only [execOp,hop]; rw [Sem.run_bind,h1 w']; rfl)
 ·cases he
theorem pre_sound {B:Base} (hG:Fit B c) (hnt:B.nt=nt) {ops:Array Oper} (hsel:noSelB ops.toList=true) {Q:Exit→Act→World→Prop} (hQ:∀ c a w,¬ Q (.panic c) a w) {K:List Nat→X→Option α} {q:α}
 (hK:∀ (done:List Nat) (x:X) (s:Sit) (a:Act) (w:World) (listed:Array Bool) (n:Nat),RelW B s x a w→listed.size=ops.size→Closed ops listed→(∀ j,listed.getD j false=true↔j∈done)→unl ops.size listed≤n→K done x=some q→wpAny c.P .any ops Q n listed a w) :
 ∀ (is done:List Nat) (x:X) (s:Sit) (a:Act) (w:World) (listed:Array Bool) (n:Nat),RelW B s x a w→listed.size=ops.size→Closed ops listed→(∀ j,listed.getD j false=true↔j∈done)→unl ops.size listed≤n→preK c nt ops is done x K=some q→wpAny c.P .any ops Q n listed a w
 | [],done,x,s,a,w,listed,n,h,hs,hc,hl,hn,he=>hK done x s a w listed n h hs hc hl hn he
 | i :: is,done,x,s,a,w,listed,n,h,hs,hc,hl,hn,he=>by
  unfold preK at he
  split at he
  ·cases he
  rename_i o ho
  split at he
  rotate_left
  ·cases he
  rename_i hb
  simp only [Bool.and_eq_true] at hb
  obtain ⟨b1,b2,b3⟩:=hb
  rw [nth_eq,Array.getElem?_toList] at ho
  have hi:i<ops.size:=(Array.getElem?_eq_some_iff.mp ho).1
  have hun:listed.getD i false=false:=by
   cases e:listed.getD i false with
   | false=>rfl
   | true=>rw [(mem_iff _ _).2 ((hl i).1 e)] at b2; cases b2
  have hready:i∈Region.ready .any ops listed:=ready_of hs hi hun fun k hk=>(hl k).2 ((mem_iff _ _).1 ((allB_iff _ _).1 b3 k hk))
  obtain ⟨v,x',hy,k1,k2⟩:=pure_sound (ops:=ops) hG hnt h he
  have hun1:=unl_set (l:=listed) (i:=i) (by omega) hun ops.size
  rw [if_pos hi] at hun1
  cases n with
  | zero=>omega
  | succ n =>
   refine wpAny_first ho (fun j oj cs b hj=>noSelB_spec hsel oj (by
    have:=Array.mem_of_getElem? hj
    exact Array.mem_toList_iff.2 this) cs b) (fun cc a w hp=>absurd hp (hQ _ _ _)) n listed a w (fun j oj hj hne hunj hno=>?_) hready hy ?_
   ·have hjs:j<ops.size:=(Array.getElem?_eq_some_iff.mp hj).1
    have h1:=(allB_iff _ _).1 b1 j (rangeFrom_mem (Nat.zero_le _) (by omega))
    split at h1
    ·rename_i e; exact absurd (Nat.eq_of_beq_eq_true e) hne
    split at h1
    ·rename_i e
     have:=(hl j).2 ((mem_iff _ _).1 e)
     rw [Array.getD_eq_getD_getElem?] at this hunj
     rw [Array.getElem?_eq_getElem (show j<listed.size by omega)] at this hunj
     simp only [Option.getD_some] at this hunj
     rw [this] at hunj; cases hunj
    split at h1
    ·rename_i e
     obtain ⟨o2,g1,e2,g2,g3,g4⟩:=deps_mem.1 ((mem_iff _ _).1 e)
     rw [hj] at g1
     cases g1
     exact absurd g4 (hno e2 g2 g3)
    rw [nth_eq,Array.getElem?_toList,hj] at h1
    exact apartL_spec h1
   ·refine pre_sound hG hnt hsel hQ hK is (i :: done) x' s _ w _ n k2 (by simpa using hs) (hc.set hready) (fun j=>?_) (by omega) k1
    by_cases e:j=i
    ·subst e
     simp [show j<listed.size by omega]
    ·rw [getD_set_ne false (fun e'=>e e'.symm),hl j,List.mem_cons]
     simp [e]
def disjL (A P:List Nat):Bool:=allB (fun k=>!(mem P k)) A
noncomputable def stagesPK (run:RunO α) (cx:Ctx) (nt:Fr) (Δ:List (Nat×Fn)) (ops:Array Oper) (P A:List Nat) (x:X) (K:X→Option α):Option α:=match and (stagesOk ops A) (and (noSelB ops.toList) (disjL A P)) with
 | true=>preK cx nt ops P [] x fun done x'=>match allB (fun k=>mem P k) done with
  | true=>stageK run cx nt Δ ops (restA A (restA done (rangeFrom 0 ops.size))) A x' K
  | false=>none
 | false=>none
theorem stagesP_sound (hΔ:Known c.P c.G Δ) {B:Base} (hG:Fit B c) (hnt:B.nt=nt) {id:Nat} {ops:Array Oper} {P A:List Nat} {Q:Exit→Act→World→Prop} {K:X→Option α} {q:α} {run:RunO α} (hrun:∀ Q,RunOk c B ops Q q run)
 (hK:∀ x s a w,RelW B s x a w→K x=some q→Q .normal a w) {x:X} {s:Sit} {a:Act} {w:World} (h:RelW B s x a w) (he:stagesPK run c nt Δ ops P A x K=some q):(Code.region id ops true).wp c.P Q a w:=by
 unfold stagesPK at he
 split at he
 rotate_left
 ·cases he
 rename_i hok
 simp only [stagesOk,Bool.and_eq_true] at hok
 obtain ⟨⟨o1,o2⟩,o3,o4⟩:=hok
 have o1:∀ k∈A,k<ops.size:=fun k hk=>by simpa [Nat.blt_eq] using (allB_iff _ _).1 o1 k hk
 have hdep:∀ j k,k∈deps ops j→k<j:=by
  intro j k hk
  by_cases hjs:j<ops.size
  ·have:=(allB_iff _ _).1 ((allB_iff _ _).1 o2 j (rangeFrom_mem (Nat.zero_le _) (by omega))) k hk
   simpa [Nat.blt_eq] using this
  ·obtain ⟨o,ho,_⟩:=deps_mem.1 hk
   exact absurd (Array.getElem?_eq_some_iff.mp ho).1 hjs
 have hf:RelW B s x a { w with drawn:=w.drawn+1 }:=h.world (w':={ w with drawn:=w.drawn+1 }) (fun _ _=>rfl) (Nat.le_refl _) rfl rfl rfl
 have hfalse:∀ i,(Array.replicate ops.size false).getD i false=false:=by
  intro i
  simp only [Array.getD_eq_getD_getElem?,Array.getElem?_replicate]
  split <;> simp
 refine Code.wp_mono (Q:=fun e a w=>e = .normal∧Q .normal a w) (fun e a w hq=>by obtain ⟨rfl,hq⟩:=hq; exact hq) ?_
 refine wp_region_any c.mix ?_
 refine pre_sound hG hnt o3 (fun cc a w hp=>by have:=hp.1; cases this) (fun done x s a w listed n h hs hc hl hn hk=>?_) P [] x s a _ (Array.replicate ops.size false) ops.size hf (by simp) (fun j hj=>?_) (fun j=>?_) ?_ he
 ·split at hk
  rotate_left
  ·cases hk
  rename_i hsub
  have hdone:∀ j∈done,j∈P:=fun j hj=>(mem_iff _ _).1 ((allB_iff _ _).1 hsub j hj)
  have hfd:∀ j,j∉done→listed.getD j false=false:=fun j hj=>by
   cases e:listed.getD j false with
   | false=>rfl
   | true=>exact absurd ((hl j).1 e) hj
  refine stage_sound hΔ hG hnt hdep (hrun _) (fun x s a w hr hk=>⟨rfl,hK x s a w hr hk⟩) _ A x s a w listed n h hs hc (restA_nodup (restA_nodup (rangeFrom_nodup _ _))) (fun j hj hjA hjC=>?_) (fun j hj=>⟨o1 j hj,hfd j fun hd=>?_⟩) (fun j hj=>?_) (fun j hj=>?_) hn hk
  ·refine (hl j).2 (Classical.byContradiction fun hd=>hjC (mem_restA.2 ⟨mem_restA.2 ⟨rangeFrom_iff.2 ⟨Nat.zero_le _,by omega⟩,hd⟩,hjA⟩))
  ·have:=(allB_iff _ _).1 o4 j hj
   rw [(mem_iff _ _).2 (hdone j hd)] at this; cases this
  ·obtain ⟨m1,m2⟩:=mem_restA.1 hj
   exact ⟨m2,hfd j (mem_restA.1 m1).2⟩
  ·have:=rangeFrom_iff.1 (mem_restA.1 (mem_restA.1 hj).1).1
   omega
 ·rw [hfalse j] at hj; cases hj
 ·rw [hfalse j]; simp
 ·have:=unl_split (m:=0) (l:=Array.replicate ops.size false) (fun j hj=>by omega) (fun j _=>by
   simp only [Array.getD_eq_getD_getElem?,Array.getElem?_replicate]
   split <;> simp) ops.size
  omega
end
end Go.V
namespace Go.V
open Go.RowKit
variable {α:Type}
inductive Weak:T→T→Prop where
 | same (t:T):Weak t t
 | sl (e:Ty) (xs:List (den e)):Weak (.sl .ro e xs) (.sl .bo e xs)
 | pt (e:Ty) (d:den e):Weak (.pt .ro e d) (.pt .bo e d)
theorem cells_weak:∀ (e:Ty) (d:den e) (j:Nat) (t':T),(cells .bo e d)[j]?=some t'→∃ t,(cells .ro e d)[j]?=some t∧Weak t t':=by
 intro e
 induction e with
 | pair a b iha ihb =>
  intro d j t' h
  simp only [cells,app_eq] at h ⊢
  by_cases hj:j<(cells .bo a d.1).length
  ·rw [List.getElem?_append_left hj] at h
   obtain ⟨t,h1,h2⟩:=iha _ _ _ h
   exact ⟨t,by rw [List.getElem?_append_left (List.getElem?_eq_some_iff.mp h1).1]; exact h1,h2⟩
  ·rw [List.getElem?_append_right (by omega)] at h
   obtain ⟨t,h1,h2⟩:=ihb _ _ _ h
   refine ⟨t,?_,h2⟩
   rw [List.getElem?_append_right (by rw [length_cells] at hj ⊢; omega)]
   rw [length_cells] at h1 ⊢; exact h1
 | sl e =>
  intro d j t' h
  cases j with
  | zero=>simp only [cells,List.getElem?_cons_zero,Option.some.injEq] at h; subst h; exact ⟨_,rfl,.sl _ _⟩
  | succ j=>simp [cells] at h
 | ptr e =>
  intro d j t' h
  cases j with
  | zero=>simp only [cells,List.getElem?_cons_zero,Option.some.injEq] at h; subst h; exact ⟨_,rfl,.pt _ _⟩
  | succ j=>simp [cells] at h
 | _=>intro d j t' h; exact ⟨t',h,.same _⟩
section
variable {w:World} {S:Fl→Nat→Prop}
theorem rows_weak {e:Ty} {xs:List (den e)} {i j:Nat} {t':T} (h:cellOf (rows .bo e xs) i j=some t'):∃ t,cellOf (rows .ro e xs) i j=some t∧Weak t t':=by
 rw [cellOf_rows] at h
 obtain ⟨d,h1,h2⟩:=Option.bind_eq_some_iff.mp h
 rw [nth_eq] at h2
 obtain ⟨t,h3,h4⟩:=cells_weak e d j t' h2
 refine ⟨t,?_,h4⟩
 rw [cellOf_rows,h1,Option.bind_some,nth_eq]
 exact h3
theorem RepR.weak (hS:∀ b,S .ro b→S .bo b) {t:T} {v:Value} (h:RepR w S t v):∀ {t':T},Weak t t'→RepR w S t' v:=by
 induction h with
 | v x h1=>intro t' hw; cases hw; exact .v x h1
 | dead x=>intro t' hw; cases hw; exact .dead x
 | ifcN=>intro t' hw; cases hw; exact .ifcN
 | ifcS u y=>intro t' hw; cases hw; exact .ifcS u y
 | nil f e a c =>
  intro t' hw
  cases hw with
  | same=>exact .nil f e a c
  | sl=>exact .nil .bo e a c
 | sl f e xs b off cap vs hR hcap hc hr ih =>
  intro t' hw
  cases hw with
  | same=>exact .sl f e xs b off cap vs hR hcap hc hr
  | sl =>
   refine .sl .bo e xs b off cap vs (hS b hR) hcap (fun i j t' ht=>?_) (fun i j t' ht=>?_)
   ·obtain ⟨t,h1,_⟩:=rows_weak ht
    exact hc i j t h1
   ·obtain ⟨t,h1,h2⟩:=rows_weak ht
    exact ih i j t h1 h2
 | box t f cs hb b off vs hR hc hr ih =>
  intro t' hw
  cases hw with
  | same=>exact .box t f cs hb b off vs hR hc hr
  | sl=>simp [T.shBox?] at hb
  | pt e d =>
   simp only [T.shBox?,Option.some.injEq,Prod.mk.injEq] at hb
   obtain ⟨rfl,rfl⟩:=hb
   refine .box (.pt .bo e d) .bo (cells .bo e d) rfl b off vs (hS b hR) (fun j t' ht=>?_) (fun j t' ht=>?_)
   ·obtain ⟨t,h1,_⟩:=cells_weak e d j t' ht
    exact hc j t h1
   ·obtain ⟨t,h1,h2⟩:=cells_weak e d j t' ht
    exact ih j t h1 h2
 | ga e xs b off vs hR hwb hc hr ih=>intro t' hw; cases hw; exact .ga e xs b off vs hR hwb hc hr
end
def borRoK (x:X) (r:Nat) (p:Path) (K:X→Option α):Option α:=match x.at r p with
 | some t=>match t with
  | .sl f e xs=>match f with
   | .ro=>match p with
    | []=>none
    | _ :: _=>setAtK x r p (.sl .bo e xs) fun _ x2=>K x2
   | _=>K x
  | _=>K x
 | none=>K x
def borK (x:X) (r:Nat) (p:Path) (K:X→Option α):Option α:=match x.at r p with
 | some t=>match t with
  | .sl f _ _=>match f with
   | .own=>freezeK x r p fun _ x1=>borRoK x1 r p K
   | .ro=>borRoK x r p K
   | .bo=>K x
  | _=>K x
 | none=>K x
def borsK:List (Nat×Path)→X→(X→Option α)→Option α
 | [],x,K=>K x
 | e :: l,x,K=>borK x e.1 e.2 fun x1=>borsK l x1 K
section
variable {c:Ctx} {B:Base} {s:Sit} {x:X} {a:Act} {w:World}
theorem borRo_sound (h:RelW B s x a w) {r:Nat} {p:Path} {K:X→Option α} {q:α} (he:borRoK x r p K=some q):∃ x' s',K x'=some q∧RelW B s' x' a w:=by
 unfold borRoK at he
 split at he
 rotate_left
 ·exact ⟨x,s,he,h⟩
 rename_i t hat
 split at he
 rotate_left
 ·exact ⟨x,s,he,h⟩
 rename_i f e xs
 split at he
 rotate_left
 ·exact ⟨x,s,he,h⟩
 split at he
 ·cases he
 rename_i c0 p0
 obtain ⟨old,x',h1,h2,h3⟩:=setAtK_some he
 rw [hat,Option.some.injEq] at h1
 subst h1
 obtain ⟨q0,i,j,hp⟩:=last_split (p:=c0 :: p0) (by simp)
 rw [hp] at hat h2
 obtain ⟨rowR,k1,k2⟩:=Option.bind_eq_some_iff.mp hat
 obtain ⟨y0,hy0⟩:=h.roots r rowR k1
 obtain ⟨rw1,y,hrw,hch,hu,hblk,hcell⟩:=place_cell hy0 k2
 have hrep:RepR w s.S (.sl .ro e xs) y:=by
  generalize (s.Φ r).under (q0++[(i,j)])=φ at hu
  cases hu with
  | sh _ _ h1 _=>exact h1
  | box _ cs ht=>simp [T.box?] at ht
 have hbo:=hrep.weak h.srb (.sl e xs)
 exact ⟨x',_,h3,h.setAt (w':=w) (ψ:=noLay) (y:=y) hat h2 (.sh _ _ hbo rfl) (OwnOut.none _ _ _) (Same.refl w) (fun _ _=>rfl) (fun row' hr'=>by
  have hrw':x.at r q0=some rw1:=by simp only [X.at,k1,Option.bind_some]; exact hrw
  rw [hrw',Option.some.injEq] at hr'
  subst hr'
  exact hblk)⟩
theorem bor_sound (h:RelW B s x a w) {r:Nat} {p:Path} {K:X→Option α} {q:α} (he:borK x r p K=some q):∃ x' s',K x'=some q∧RelW B s' x' a w:=by
 unfold borK at he
 split at he
 rotate_left
 ·exact ⟨x,s,he,h⟩
 split at he
 rotate_left
 ·exact ⟨x,s,he,h⟩
 split at he
 ·obtain ⟨t,x2,s2,h1,h2⟩:=freeze_sound h he
  exact borRo_sound h2.rel h1
 ·exact borRo_sound h he
 ·exact ⟨x,s,he,h⟩
theorem bors_sound:∀ (l:List (Nat×Path)) {s:Sit} {x:X} {K:X→Option α} {q:α},RelW B s x a w→borsK l x K=some q→∃ x' s',K x'=some q∧RelW B s' x' a w
 | [],s,x,K,q,h,he=>⟨x,s,he,h⟩
 | e :: l,s,x,K,q,h,he=>by
  obtain ⟨x1,s1,h1,h2⟩:=bor_sound h he
  exact bors_sound l h2 h1
end
end Go.V
namespace Go.V
open Go.RowKit
variable {α:Type}
def vrOf:T→Option (List T)
 | .vr row=>some row
 | _=>none
def isNilP:Path→Bool
 | []=>true
 | _=>false
def clsK (x:X) (r:Nat) (p:Path) (e:Ty) (K:X→Option α):Option α:=match lockOk x r [] with
 | true=>match look x.roots r with
  | some row=>match getT p (.vr row) with
   | some t=>match t with
    | .pp f cs=>match f with
     | .own=>match packAll .own e cs with
      | some d=>match isNilP p with
       | true=>none
       | false=>((setT p (.vr row) (.pt .own e d)).bind vrOf).bind fun row'=>K { x with roots:=(r,row') :: x.roots }
      | none=>K x
     | _=>K x
    | _=>K x
   | none=>K x
  | none=>K x
 | false=>K x
def clssK:List (Nat×(Path×Ty))→X→(X→Option α)→Option α
 | [],x,K=>K x
 | e :: l,x,K=>clsK x e.1 e.2.1 e.2.2 fun x1=>clssK l x1 K
section
variable {c:Ctx} {B:Base} {s:Sit} {x:X} {a:Act} {w:World}
theorem RelW.reroot (h:RelW B s x a w) {r:Nat} {row row':List T} (hr:look x.roots r=some row) (hl:lockOk x r []=true) {y:Value} (hy:RepO w s.S (.vr row') y (s.Φ r)) :
 RelW B s { x with roots:=(r,row') :: x.roots } a w :=
 { h with
  roots:=fun r' row1 e=>by
   have e1:look ((r,row') :: x.roots) r'=some row1:=e
   rw [look_cons] at e1
   by_cases hrr:r'=r
   ·subst hrr
    rw [if_pos rfl,Option.some.injEq] at e1
    rw [← e1]
    exact ⟨y,hy⟩
   ·rw [if_neg hrr] at e1
    exact h.roots r' row1 e1
  rootn:=fun r' e=>by
   have e:look ((r,row') :: x.roots) r'=none:=e
   rw [look_cons] at e
   split at e
   ·cases e
   ·exact h.rootn r' e
  locks:=fun r' d hm=>by
   have hne:r'≠r:=fun e=>by
    subst e
    have:=lockOk_spec hl hm
    simp [pc,pre] at this
   have:=h.locks r' d hm
   refine ⟨?_,this.2⟩
   rw [← this.1]
   simp only [X.at,look_cons,if_neg hne] }
theorem cls_sound (h:RelW B s x a w) {r:Nat} {p:Path} {e:Ty} {K:X→Option α} {q:α} (he:clsK x r p e K=some q):∃ x',K x'=some q∧RelW B s x' a w:=by
 unfold clsK at he
 split at he
 rotate_left
 ·exact ⟨x,he,h⟩
 rename_i hl
 split at he
 rotate_left
 ·exact ⟨x,he,h⟩
 rename_i row hrow
 split at he
 rotate_left
 ·exact ⟨x,he,h⟩
 rename_i t hget
 split at he
 rotate_left
 ·exact ⟨x,he,h⟩
 rename_i f cs
 split at he
 rotate_left
 ·exact ⟨x,he,h⟩
 split at he
 rotate_left
 ·exact ⟨x,he,h⟩
 rename_i d hd
 split at he
 ·cases he
 rename_i hp
 obtain ⟨row',h1,h2⟩:=Option.bind_eq_some_iff.mp he
 obtain ⟨t',h3,h4⟩:=Option.bind_eq_some_iff.mp h1
 have ht':t' = .vr row':=by
  cases t' <;> simp only [vrOf,Option.some.injEq,reduceCtorEq] at h4
  rw [h4]
 subst ht'
 have hcs:=packAll_some hd
 have hpne:p≠[]:=fun e=>by subst e; cases hp
 obtain ⟨q0,i,j,rfl⟩:=last_split hpne
 obtain ⟨y0,hy0⟩:=h.roots r row hrow
 obtain ⟨rw1,y,hrw,hch,hu,hblk,hcell⟩:=place_cell hy0 hget
 have hn:RepO w s.S (.pt .own e d) y ((s.Φ r).under (q0++[(i,j)])):=by
  generalize (s.Φ r).under (q0++[(i,j)])=φ at hu
  cases hu with
  | sh _ _ _ ht=>simp [T.isSh] at ht
  | box _ cs1 ht b arr el vs φ hb hsz hc hr h0 hn =>
   simp only [T.box?,Option.some.injEq] at ht
   subst ht
   exact .box _ cs (by simp only [T.box?,hcs]) b arr el vs φ hb hsz hc hr h0 hn
 have hnew:=setT_own hn (fun _ _ _=>rfl) q0 i j hy0 (h.injR r) h3 (fun _ _=>rfl) (fun row2 e2=>by
  rw [hrw,Option.some.injEq] at e2
  subst e2
  exact hblk)
 rw [graft_same rfl] at hnew
 exact ⟨_,h2,h.reroot hrow hl hnew⟩
theorem clss_sound:∀ (l:List (Nat×(Path×Ty))) {x:X} {K:X→Option α} {q:α},RelW B s x a w→clssK l x K=some q→∃ x',K x'=some q∧RelW B s x' a w
 | [],x,K,q,h,he=>⟨x,he,h⟩
 | e :: l,x,K,q,h,he=>by
  obtain ⟨x1,h1,h2⟩:=cls_sound h he
  exact clss_sound l h2 h1
end
end Go.V
namespace Go.V
open Go.RowKit
variable {α:Type}
inductive Ann where
 | leaf
 | draw (m:Nat)
 | drawT (l fl:List Nat)
 | stages (l:List Nat)
 | one (a:Ann)
 | two (a b:Ann)
 | loop (kt kr:List Nat) (ad:List (Nat×Ty)) (sh:List Slot) (outs:List Out) (a:Ann)
 | join (kt kr:List Nat) (outs:List Out) (a:Ann)
 | frz (l:List (Nat×Path)) (a:Ann)
 | segs (l:List (Nat×(List Nat×(List Nat×List Slot))))
 | no
 | inl (n off:Nat) (a b:Ann)
 | stagesI (l:List Nat) (j off:Nat) (a:Ann)
 | bor (l:List (Nat×Path)) (a:Ann)
 | cls (l:List (Nat×(Path×Ty))) (a:Ann)
 | clsPre (l:List (Nat×(Path×Ty))) (a:Ann)
 | has (k:Nat) (a b:Ann)
 | nilp (k:Nat) (a:Ann)
 | stagesP (p l:List Nat)
def isNilQ (d:Option D):Bool:=match d with
 | none=>false
 | some d=>match d with
  | .v v=>match v with
   | .c y=>match y with
    | .k t=>match t with
     | .v z=>match z with
      | .pointer a=>match a with
       | none=>true
       | some _=>false
      | _=>false
     | _=>false
    | _=>false
   | _=>false
  | _=>false
inductive Tgt where
 | code (p:Code)
 | ops (all:Array Oper) (rest:List Oper)
def Tgt.wp (P:Program) (t:Tgt) (Q:Exit→Act→World→Prop) (a:Act) (w:World):Prop:=match t with
 | .code p=>p.wp P Q a w
 | .ops all l=>wpList P all Q l a w
def Tgt.ops? (t:Tgt):Option (Array Oper×List Oper):=match t with
 | .code p=>match p with
  | .region _ os draw=>match draw with
   | false=>some (os,os.toList)
   | true=>none
  | _=>none
 | .ops all l=>some (all,l)
theorem ops?_wp {t:Tgt} {al:Array Oper×List Oper} (h:t.ops?=some al) {P:Program} {Q:Exit→Act→World→Prop} {a:Act} {w:World} (hw:wpList P al.1 Q al.2 a w):t.wp P Q a w:=by
 unfold Tgt.ops? at h
 split at h
 ·split at h
  ·split at h
   ·simp only [Option.some.injEq] at h; subst h; exact wp_region_list hw
   ·cases h
  ·cases h
 ·simp only [Option.some.injEq] at h; subst h; exact hw
def iterR {σ ρ:Type} (body:σ→Option (σ ⊕ ρ)):Nat→σ→Option ρ
 | 0,_=>none
 | n+1,d=>(body d).bind fun r=>match r with
  | .inl d'=>iterR body n d'
  | .inr r=>some r
open Classical in
noncomputable def loopR {σ ρ:Type} (body:σ→Option (σ ⊕ ρ)) (d:σ):Option ρ:=if h:∃ n r,iterR body n d=some r then some (Classical.choose (Classical.choose_spec h)) else none
theorem iterR_mono {σ ρ:Type} {body:σ→Option (σ ⊕ ρ)}:∀ {n m:Nat} {d:σ} {r:ρ},n≤m→iterR body n d=some r→iterR body m d=some r
 | 0,m,d,r,_,h=>by cases h
 | n+1,0,d,r,hm,h=>by omega
 | n+1,m+1,d,r,hm,h=>by
  simp only [iterR] at h ⊢
  obtain ⟨y,h1,h2⟩:=Option.bind_eq_some_iff.mp h
  rw [h1,Option.bind_some]
  cases y with
  | inl d'=>exact iterR_mono (by omega) h2
  | inr r'=>exact h2
theorem loopR_iff {σ ρ:Type} {body:σ→Option (σ ⊕ ρ)} {d:σ} {r:ρ}:loopR body d=some r↔∃ n,iterR body n d=some r:=by
 constructor
 ·intro h
  unfold loopR at h
  split at h
  ·rename_i hh
   simp only [Option.some.injEq] at h
   have:=Classical.choose_spec (Classical.choose_spec hh)
   rw [h] at this
   exact ⟨_,this⟩
  ·cases h
 ·rintro ⟨n,hn⟩
  have hh:∃ n r,iterR body n d=some r:=⟨n,r,hn⟩
  unfold loopR
  rw [dif_pos hh]
  have h2:=Classical.choose_spec (Classical.choose_spec hh)
  congr 1
  have h3:=iterR_mono (Nat.le_max_left n (Classical.choose hh)) hn
  have h4:=iterR_mono (Nat.le_max_right n (Classical.choose hh)) h2
  rw [h3] at h4
  exact (Option.some.inj h4).symm
theorem loopR_step {σ ρ:Type} (body:σ→Option (σ ⊕ ρ)) (d:σ):loopR body d=(body d).bind fun r=>match r with
 | .inl d'=>loopR body d'
 | .inr r=>some r:=by
 apply Option.ext
 intro r
 rw [loopR_iff]
 constructor
 ·rintro ⟨n,hn⟩
  cases n with
  | zero=>cases hn
  | succ n =>
   simp only [iterR] at hn
   obtain ⟨y,h1,h2⟩:=Option.bind_eq_some_iff.mp hn
   rw [h1,Option.bind_some]
   cases y with
   | inl d'=>exact loopR_iff.2 ⟨n,h2⟩
   | inr r'=>exact h2
 ·intro h
  obtain ⟨y,h1,h2⟩:=Option.bind_eq_some_iff.mp h
  cases y with
  | inl d' =>
   obtain ⟨n,hn⟩:=loopR_iff.1 h2
   exact ⟨n+1,by simp only [iterR,h1,Option.bind_some]; exact hn⟩
  | inr r'=>exact ⟨1,by simp only [iterR,h1,Option.bind_some]; exact h2⟩
def X.head (x:X) (mu kt kr:List Nat) (sh:List Slot) (d:den (shTy sh)):X:=(x.leave mu kt kr (fillE sh d) (fillR sh d)).enter kt kr
def kOk (x:X) (kt:List Nat):Bool:=allB (fun k=>isSomeB (look x.env k)) kt
noncomputable def segsK (cx:Ctx) (nt:Fr) (Δ:List (Nat×Fn)) (mu:List Nat) (all:List Oper):List (Nat×(List Nat×(List Nat×List Slot)))→List Oper→X→(X→Option α)→Option α
 | [],ops,x,K=>opsK cx nt Δ all ops x K
 | g :: l,ops,x,K=>match kOk x g.2.1 with
  | true=>(takeN g.1 ops).bind fun o1=>(opsK cx nt Δ all o1 (x.enter g.2.1 g.2.2.1) (pack1 x g.2.1 g.2.2.1 ⟨.normal,[],g.2.2.2⟩ .normal)).bind fun d =>
   segsK cx nt Δ mu all l (dropN g.1 ops) (x.leave mu g.2.1 g.2.2.1 (fillE g.2.2.2 d) (fillR g.2.2.2 d)) K
  | false=>none
noncomputable def runInl (cx:Ctx) (nt:Fr) (Δ:List (Nat×Fn)) (ops:Array Oper) (j off:Nat) (body:Ctx→Fr→Code→X→(Exit→X→Option α)→Option α):RunO α:=fun r o x K=>match Nat.beq r j with
 | true=>guardedK nt ops.toList x o (fun x2=>enterK cx nt off x2 o body K) (fun x2=>skipK nt x2 o K)
 | false=>opsK cx nt Δ ops.toList [o] x K
noncomputable def denC (Δ:List (Nat×Fn)):Ann→(α:Type)→Ctx→Fr→List Nat→Tgt→X→(Exit→X→Option α)→Option α
 | .leaf,_,cx,nt,_,t,x,K=>match t with
  | .code p=>match p with
   | .skip=>K .normal x
   | .region _ ops draw=>match draw with
    | false=>opsK cx nt Δ ops.toList ops.toList x (K .normal)
    | true=>none
   | .exit id=>K (.exit id) x
   | .label _=>K .normal x
   | .ret=>K .ret x
   | _=>none
  | .ops all l=>opsK cx nt Δ all.toList l x (K .normal)
 | .no,_,_,_,_,_,_,_=>none
 | .draw m,_,cx,nt,_,t,x,K=>match t with
  | .code p=>match p with
   | .region _ ops draw=>match draw with
    | true=>drawK cx nt Δ ops m x (K .normal)
    | false=>none
   | _=>none
  | .ops _ _=>none
 | .drawT l fl,_,cx,nt,_,t,x,K=>match t with
  | .code p=>match p with
   | .region _ ops draw=>match draw with
    | true=>drawTK cx nt Δ ops l fl x (K .normal)
    | false=>none
   | _=>none
  | .ops _ _=>none
 | .stages l,_,cx,nt,_,t,x,K=>match t with
  | .code p=>match p with
   | .region _ ops draw=>match draw with
    | true=>stagesK (runOps cx nt Δ ops) cx nt Δ ops l x (K .normal)
    | false=>none
   | _=>none
  | .ops _ _=>none
 | .stagesP p0 l,_,cx,nt,_,t,x,K=>match t with
  | .code p=>match p with
   | .region _ ops draw=>match draw with
    | true=>stagesPK (runOps cx nt Δ ops) cx nt Δ ops p0 l x (K .normal)
    | false=>none
   | _=>none
  | .ops _ _=>none
 | .one a,α,cx,nt,mu,t,x,K=>match t with
  | .code p=>match p with
   | .block id p=>denC Δ a α cx nt mu (.code p) x fun e x'=>match e with
    | .exit id'=>match Nat.beq id' id with
     | true=>K .normal x'
     | false=>K (.exit id') x'
    | e=>K e x'
   | _=>none
  | .ops _ _=>none
 | .two a b,α,cx,nt,mu,t,x,K=>match t with
  | .code p=>match p with
   | .seq p q=>denC Δ a α cx nt mu (.code p) x fun e x'=>match e with
    | .normal=>denC Δ b α cx nt mu (.code q) x' K
    | e=>K e x'
   | .cond o p q=>((evalD cx x o).bind asB).bind fun v=>cond v (denC Δ a α cx nt mu (.code p) x K) (denC Δ b α cx nt mu (.code q) x K)
   | _=>none
  | .ops _ _=>none
 | .loop kt kr ad sh outs a,_,cx,nt,mu,t,x,K=>match t with
  | .code p=>match p with
   | .loop p=>match kOk x kt with
    | true=>(pack1 x kt kr ⟨.normal,ad,sh⟩ .normal (x.enter kt kr)).bind fun d0 =>
     (loopR (fun d:den (shTy sh)=>denC Δ a (den (shTy sh) ⊕ den (outTy outs)) cx nt [] (.code p) (x.head mu kt kr sh d) fun e x2=>match e with
      | .normal=>(pack1 x kt kr ⟨.normal,ad,sh⟩ .normal x2).map Sum.inl
      | e=>(packK x kt kr outs e x2).map Sum.inr) d0).bind fun r=>unpackK x mu kt kr outs r K
    | false=>none
   | _=>none
  | .ops _ _=>none
 | .join kt kr outs a,_,cx,nt,mu,t,x,K=>match kOk x kt with
  | true=>(denC Δ a (den (outTy outs)) cx nt [] t (x.enter kt kr) (packK x kt kr outs)).bind fun d=>unpackK x mu kt kr outs d K
  | false=>none
 | .segs l,_,cx,nt,mu,t,x,K=>(t.ops?).bind fun al=>segsK cx nt Δ mu al.1.toList l al.2 x (K .normal)
 | .frz l a,α,cx,nt,mu,t,x,K=>freezesK l x fun x1=>denC Δ a α cx nt mu t x1 K
 | .inl n off a b,α,cx,nt,mu,t,x,K=>(t.ops?).bind fun al=>(takeN n al.2).bind fun l1=>opsK cx nt Δ al.1.toList l1 x fun x1 =>
  (nth al.2 n).bind fun o=>guardedK nt al.1.toList x1 o
   (fun x2=>enterK cx nt off x2 o (fun cx' nt' code x' K'=>denC Δ a α cx' nt' mu (.code code) x' K') fun x3=>denC Δ b α cx nt mu (.ops al.1 (dropN (Nat.succ n) al.2)) x3 K)
   (fun x2=>skipK nt x2 o fun x3=>denC Δ b α cx nt mu (.ops al.1 (dropN (Nat.succ n) al.2)) x3 K)
 | .cls l a,α,cx,nt,mu,t,x,K=>denC Δ a α cx nt mu t x fun e x1=>clssK l x1 (K e)
 | .clsPre l a,α,cx,nt,mu,t,x,K=>clssK l x fun x1=>denC Δ a α cx nt mu t x1 K
 | .has k a b,α,cx,nt,mu,t,x,K=>match look x.env k with
  | some _=>denC Δ a α cx nt mu t x K
  | none=>denC Δ b α cx nt mu t x K
 | .nilp k a,α,cx,nt,mu,t,x,K=>match isNilQ (look x.env k) with
  | true=>none
  | false=>denC Δ a α cx nt mu t x K
 | .bor l a,α,cx,nt,mu,t,x,K=>denC Δ a α cx nt mu t x fun e x1=>borsK l x1 (K e)
 | .stagesI l j off a,α,cx,nt,mu,t,x,K=>match t with
  | .code p=>match p with
   | .region _ ops draw=>match draw with
    | true=>stagesK (runInl cx nt Δ ops j off fun cx' nt' code x' K'=>denC Δ a α cx' nt' mu (.code code) x' K') cx nt Δ ops l x (K .normal)
    | false=>none
   | _=>none
  | .ops _ _=>none
section
variable {c:Ctx} {nt:Fr} {Δ:List (Nat×Fn)}
theorem segs_sound (hΔ:Known c.P c.G Δ) {B:Base} (hG:Fit B c) (hnt:B.nt=nt) {mu:List Nat} (hmu:B.muts=mu) {ops:Array Oper} {Q:Exit→Act→World→Prop} {K:X→Option α} {q:α}
 (hK:∀ x s a w,RelW B s x a w→K x=some q→Q .normal a w):∀ (l:List (Nat×(List Nat×(List Nat×List Slot)))) (os:List Oper) (x:X) (s:Sit) (a:Act) (w:World),RelW B s x a w→segsK c nt Δ mu ops.toList l os x K=some q→wpList c.P ops Q os a w
 | [],os,x,s,a,w,h,he=>ops_sound hΔ hG hnt hK os x s a w h he
 | g :: l,os,x,s,a,w,h,he=>by
  unfold segsK at he
  split at he
  rotate_left
  ·cases he
  rename_i hk
  obtain ⟨o1,h1,he1⟩:=Option.bind_eq_some_iff.mp he
  obtain ⟨d,h2,he2⟩:=Option.bind_eq_some_iff.mp he1
  obtain ⟨e1,-⟩:=takeN_some h1
  have hcut:os=o1++dropN g.1 os:=by rw [e1,dropN_eq,List.take_append_drop]
  rw [hcut]
  refine ops_sound_to hΔ (B:=B.inner s x a w) ⟨hG.g,hG.off⟩ hnt (fun x2 s2 a2 w2 hr2 hq=>?_) o1 _ s a w (h.enter (kr:=g.2.2.1) hk) h2
  obtain ⟨-,s',hs',-⟩:=pack1_sound h hmu hr2 hq
  exact segs_sound hΔ hG hnt hmu hK l _ _ s' a2 w2 hs' he2
theorem denC_sound (hΔ:Known c.P c.G Δ):∀ (an:Ann) (α:Type) (c':Ctx) (nt:Fr) (mu:List Nat) (t:Tgt) {B:Base} {s:Sit} {x:X} {a:Act} {w:World} {K:Exit→X→Option α} {q:α} {Q:Exit→Act→World→Prop},c'.P=c.P→c'.G=c.G→Fit B c'→B.nt=nt→B.muts=mu →
 (∀ e x s a w,RelW B s x a w→K e x=some q→Q e a w)→RelW B s x a w→denC Δ an α c' nt mu t x K=some q→t.wp c.P Q a w:=by
 intro an
 induction an with
 | leaf =>
  intro α c' nt mu t B s x a w K q Q hP hGG hG hnt hmu hQ h he
  have hΔ':Known c'.P c'.G Δ:=by rw [hP,hGG]; exact hΔ
  rw [← hP]
  unfold denC at he
  split at he
  ·split at he
   ·exact wp_skip (hQ _ _ _ _ _ h he)
   ·split at he
    ·exact wp_region_list (ops_sound hΔ' hG hnt (fun x s a w hr hk=>hQ _ _ _ _ _ hr hk) _ x s a w h he)
    ·cases he
   ·exact wp_exit (hQ _ _ _ _ _ h he)
   ·exact wp_label (hQ _ _ _ _ _ h he)
   ·exact wp_ret (hQ _ _ _ _ _ h he)
   ·cases he
  ·exact ops_sound hΔ' hG hnt (fun x s a w hr hk=>hQ _ _ _ _ _ hr hk) _ x s a w h he
 | no =>
  intro α c' nt mu t B s x a w K q Q hP hGG hG hnt hmu hQ h he
  unfold denC at he
  cases he
 | draw m =>
  intro α c' nt mu t B s x a w K q Q hP hGG hG hnt hmu hQ h he
  have hΔ':Known c'.P c'.G Δ:=by rw [hP,hGG]; exact hΔ
  rw [← hP]
  unfold denC at he
  split at he
  ·split at he
   ·split at he
    ·exact draw_sound hΔ' hG hnt (fun x s a w hr hk=>hQ _ _ _ _ _ hr hk) h he
    ·cases he
   ·cases he
  ·cases he
 | drawT l fl =>
  intro α c' nt mu t B s x a w K q Q hP hGG hG hnt hmu hQ h he
  have hΔ':Known c'.P c'.G Δ:=by rw [hP,hGG]; exact hΔ
  rw [← hP]
  unfold denC at he
  split at he
  ·split at he
   ·split at he
    ·exact drawT_sound hΔ' hG hnt (fun x s a w hr hk=>hQ _ _ _ _ _ hr hk) h he
    ·cases he
   ·cases he
  ·cases he
 | stages l =>
  intro α c' nt mu t B s x a w K q Q hP hGG hG hnt hmu hQ h he
  have hΔ':Known c'.P c'.G Δ:=by rw [hP,hGG]; exact hΔ
  rw [← hP]
  unfold denC at he
  split at he
  ·split at he
   ·split at he
    ·exact stages_sound hΔ' hG hnt (runOps_ok hΔ' hG hnt) (fun x s a w hr hk=>hQ _ _ _ _ _ hr hk) h he
    ·cases he
   ·cases he
  ·cases he
 | stagesP p0 l =>
  intro α c' nt mu t B s x a w K q Q hP hGG hG hnt hmu hQ h he
  have hΔ':Known c'.P c'.G Δ:=by rw [hP,hGG]; exact hΔ
  rw [← hP]
  unfold denC at he
  split at he
  ·split at he
   ·split at he
    ·exact stagesP_sound hΔ' hG hnt (fun _=>runOps_ok hΔ' hG hnt) (fun x s a w hr hk=>hQ _ _ _ _ _ hr hk) h he
    ·cases he
   ·cases he
  ·cases he
 | one a ih =>
  intro α c' nt mu t B s x a' w K q Q hP hGG hG hnt hmu hQ h he
  unfold denC at he
  split at he
  rotate_left
  ·cases he
  split at he
  ·rename_i id p
   refine wp_block (ih α c' nt mu (.code p) hP hGG hG hnt hmu (fun e x s a w hr hq=>?_) h he)
   cases e with
   | exit id' =>
    simp only at hq
    show (if id'=id then Q .normal a w else Q (.exit id') a w)
    split at hq
    ·rename_i e; rw [if_pos (Nat.eq_of_beq_eq_true e)]; exact hQ _ _ _ _ _ hr hq
    ·rename_i e; rw [if_neg (Nat.ne_of_beq_eq_false e)]; exact hQ _ _ _ _ _ hr hq
   | _=>exact hQ _ _ _ _ _ hr hq
  ·cases he
 | two a b iha ihb =>
  intro α c' nt mu t B s x a' w K q Q hP hGG hG hnt hmu hQ h he
  unfold denC at he
  split at he
  rotate_left
  ·cases he
  split at he
  ·rename_i p p'
   refine wp_seq (iha α c' nt mu (.code p) hP hGG hG hnt hmu (fun e x s a w hr hq=>?_) h he)
   cases e <;> first | exact ihb α c' nt mu (.code p') hP hGG hG hnt hmu hQ hr hq | exact hQ _ _ _ _ _ hr hq
  ·rename_i o p p'
   obtain ⟨v,h1,he1⟩:=Option.bind_eq_some_iff.mp he
   obtain ⟨d,hd,hv⟩:=Option.bind_eq_some_iff.mp h1
   have e0:=asB_sound (evalD_sound hG h hd) hv
   refine wp_cond e0 ?_
   rcases cond_some he1 with ⟨hb,he2⟩ | ⟨hb,he2⟩
   ·rw [if_pos hb]; exact iha α c' nt mu (.code p) hP hGG hG hnt hmu hQ h he2
   ·rw [if_neg (by rw [hb]; decide)]; exact ihb α c' nt mu (.code p') hP hGG hG hnt hmu hQ h he2
  ·cases he
 | loop kt kr ad sh outs a ih =>
  intro α c' nt mu t B s x a' w K q Q hP hGG hG hnt hmu hQ h he
  unfold denC at he
  split at he
  rotate_left
  ·cases he
  split at he
  rotate_left
  ·cases he
  rename_i p
  split at he
  rotate_left
  ·cases he
  rename_i hk
  obtain ⟨d0,h1,he1⟩:=Option.bind_eq_some_iff.mp he
  obtain ⟨r0,h2,he2⟩:=Option.bind_eq_some_iff.mp he1
  obtain ⟨n0,hn0⟩:=loopR_iff.1 h2
  have hent:=h.enter (kr:=kr) hk
  obtain ⟨-,s0,-,hs0⟩:=pack1_sound h hmu hent h1
  generalize hbody : (fun d : den (shTy sh) => denC Δ a (den (shTy sh) ⊕ den (outTy outs)) c' nt [] (.code p) (x.head mu kt kr sh d) fun e x2 => match e with
        | .normal=>(pack1 x kt kr ⟨.normal,ad,sh⟩ .normal x2).map Sum.inl
        | e=>(packK x kt kr outs e x2).map Sum.inr)=body at h2 hn0
  let I:Nat→Act→World→Prop:=fun n a1 w1=>∃ d s1,RelW (B.inner s x a' w) s1 (x.head mu kt kr sh d) a1 w1∧iterR body n d=some r0
  have hI0:∃ n,I n a' w:=⟨n0,d0,s0,hs0,hn0⟩
  have hmin:∀ (p:Nat→Prop),(∃ n,p n)→∃ n,p n∧∀ m,p m→n≤m:=by
   intro p ⟨n,hn⟩
   induction n using Nat.strongRecOn with
   | _ n ih =>
    by_cases hm:∃ m,m<n∧p m
    ·obtain ⟨m,h1,h2⟩:=hm; exact ih m h1 h2
    ·refine ⟨n,hn,fun m hpm=>?_⟩
     by_cases hlt:m<n
     ·exact absurd ⟨m,hlt,hpm⟩ hm
     ·omega
  classical
  refine wp_loop (fun a w=>∃ n,I n a w) (fun a w=>if hh:∃ n,I n a w then Classical.choose (hmin _ hh) else 0) hI0 (fun a1 w1 hI=>?_)
  have hspec:=(Classical.choose_spec (hmin _ hI)).1
  have hμ:(if hh:∃ n,I n a1 w1 then Classical.choose (hmin _ hh) else 0)=Classical.choose (hmin _ hI):=by rw [dif_pos hI]
  rw [hμ]
  generalize hkk:Classical.choose (hmin _ hI)=k at hspec
  obtain ⟨d,s1,hr1,hl1⟩:=hspec
  cases k with
  | zero=>cases hl1
  | succ k =>
   simp only [iterR] at hl1
   obtain ⟨y,hy,hl2⟩:=Option.bind_eq_some_iff.mp hl1
   rw [← hbody] at hy
   refine ih _ c' nt [] (.code p) (B:=B.inner s x a' w) hP hGG ⟨hG.g,hG.off⟩ hnt rfl (fun e x2 s2 a2 w2 hr2 hq=>?_) hr1 hy
   cases e with
   | normal =>
    simp only at hq
    obtain ⟨d',h3,h4⟩:=Option.map_eq_some_iff.mp hq
    subst h4
    obtain ⟨-,s3,-,hs3⟩:=pack1_sound h hmu hr2 h3
    have hI':∃ n,I n a2 w2:=⟨k,d',s3,hs3,hl2⟩
    refine ⟨hI',?_⟩
    rw [dif_pos hI']
    exact Nat.lt_succ_of_le ((Classical.choose_spec (hmin _ hI')).2 _ ⟨d',s3,hs3,hl2⟩)
   | _ =>
    simp only at hq
    obtain ⟨r',h3,h4⟩:=Option.map_eq_some_iff.mp hq
    subst h4
    simp only [Option.some.injEq] at hl2
    subst hl2
    obtain ⟨x',s',k1,k2⟩:=out_sound h hmu hr2 outs h3 he2
    exact hQ _ _ _ _ _ k2 k1
 | join kt kr outs a ih =>
  intro α c' nt mu t B s x a' w K q Q hP hGG hG hnt hmu hQ h he
  unfold denC at he
  split at he
  rotate_left
  ·cases he
  rename_i hk
  obtain ⟨d,h1,he1⟩:=Option.bind_eq_some_iff.mp he
  refine ih _ c' nt [] t (B:=B.inner s x a' w) hP hGG ⟨hG.g,hG.off⟩ hnt rfl (fun e x2 s2 a2 w2 hr2 hq=>?_) (h.enter (kr:=kr) hk) h1
  obtain ⟨x',s',k1,k2⟩:=out_sound h hmu hr2 outs hq he1
  exact hQ _ _ _ _ _ k2 k1
 | segs l =>
  intro α c' nt mu t B s x a w K q Q hP hGG hG hnt hmu hQ h he
  have hΔ':Known c'.P c'.G Δ:=by rw [hP,hGG]; exact hΔ
  rw [← hP]
  unfold denC at he
  obtain ⟨al,h1,he1⟩:=Option.bind_eq_some_iff.mp he
  exact ops?_wp h1 (segs_sound hΔ' hG hnt hmu (fun x s a w hr hk=>hQ _ _ _ _ _ hr hk) l _ x s a w h he1)
 | frz l a ih =>
  intro α c' nt mu t B s x a' w K q Q hP hGG hG hnt hmu hQ h he
  unfold denC at he
  obtain ⟨x1,s1,h1,h2⟩:=freezes_sound l h he
  exact ih α c' nt mu t hP hGG hG hnt hmu hQ h2 h1
 | inl n off a b iha ihb =>
  intro α c' nt mu t B s x a' w K q Q hP hGG hG hnt hmu hQ h he
  have hΔ':Known c'.P c'.G Δ:=by rw [hP,hGG]; exact hΔ
  unfold denC at he
  obtain ⟨⟨all,l⟩,h1,he1⟩:=Option.bind_eq_some_iff.mp he
  obtain ⟨l1,h2,he2⟩:=Option.bind_eq_some_iff.mp he1
  refine ops?_wp h1 ?_
  obtain ⟨e1,-⟩:=takeN_some h2
  simp only at he2 e1 ⊢
  have hcut:l=l1++dropN n l:=by rw [e1,dropN_eq,List.take_append_drop]
  have hops:=ops_sound_to hΔ' hG hnt (ops:=all) (Q:=Q) (l2:=dropN n l) (fun x1 s1 a1 w1 hr1 hk1=>by
   obtain ⟨o,h3,he3⟩:=Option.bind_eq_some_iff.mp hk1
   have hd:dropN n l=o :: dropN (Nat.succ n) l:=by
    rw [nth_eq] at h3
    obtain ⟨hlt,hget⟩:=List.getElem?_eq_some_iff.mp h3
    rw [dropN_eq,dropN_eq,List.drop_eq_getElem_cons hlt,hget]
   rw [hd]
   refine wpList_step (fun K' hK'=>?_)
   have hnext:∀ x3 s3 a3 w3,denC Δ b α c' nt mu (.ops all (dropN (Nat.succ n) l)) x3 K=some q→RelW B s3 x3 a3 w3→K' a3 w3:=fun x3 s3 a3 w3 e2 hr3 =>
    hK' _ _ (by rw [hP]; exact ihb α c' nt mu (.ops all (dropN (Nat.succ n) l)) hP hGG hG hnt hmu hQ hr3 e2)
   obtain ⟨x2,hr2,hcase⟩:=guarded_sound hnt hr1 he3
   rcases hcase with ⟨hw,he4⟩ | ⟨hw,he4⟩
   ·rw [if_pos hw]
    refine enter_sound hG hnt hr2 he4 (fun code m x' act K'' Q'' hr' hb hq''=>?_) hnext
    have:=iha α { c' with off:=off } ⟨off,m⟩ mu (.code code) (B:=B.into a1 off m) hP hGG (into_fit hG) rfl hmu hq'' hr' hb
    rw [hP]
    exact this
   ·rw [if_neg (by rw [hw]; decide)]
    obtain ⟨x3,k1,k2⟩:=skip_sound hnt hr2 he4
    exact hnext _ _ _ _ k1 k2) l1 x s a' w h he2
  rw [← hP,hcut]
  exact hops
 | cls l a ih =>
  intro α c' nt mu t B s x a' w K q Q hP hGG hG hnt hmu hQ h he
  unfold denC at he
  refine ih α c' nt mu t hP hGG hG hnt hmu (fun e x1 s1 a1 w1 hr hk=>?_) h he
  obtain ⟨x2,k1,k2⟩:=clss_sound l hr hk
  exact hQ _ _ _ _ _ k2 k1
 | clsPre l a ih =>
  intro α c' nt mu t B s x a' w K q Q hP hGG hG hnt hmu hQ h he
  unfold denC at he
  obtain ⟨x1,k1,k2⟩:=clss_sound l h he
  exact ih α c' nt mu t hP hGG hG hnt hmu hQ k2 k1
 | has k a b iha ihb =>
  intro α c' nt mu t B s x a' w K q Q hP hGG hG hnt hmu hQ h he
  unfold denC at he
  split at he
  ·exact iha α c' nt mu t hP hGG hG hnt hmu hQ h he
  ·exact ihb α c' nt mu t hP hGG hG hnt hmu hQ h he
 | nilp k a iha =>
  intro α c' nt mu t B s x a' w K q Q hP hGG hG hnt hmu hQ h he
  unfold denC at he
  split at he
  ·cases he
  ·exact iha α c' nt mu t hP hGG hG hnt hmu hQ h he
 | bor l a ih =>
  intro α c' nt mu t B s x a' w K q Q hP hGG hG hnt hmu hQ h he
  unfold denC at he
  refine ih α c' nt mu t hP hGG hG hnt hmu (fun e x1 s1 a1 w1 hr hk=>?_) h he
  obtain ⟨x2,s2,k1,k2⟩:=bors_sound l hr hk
  exact hQ _ _ _ _ _ k2 k1
 | stagesI l j off a iha =>
  intro α c' nt mu t B s x a' w K q Q hP hGG hG hnt hmu hQ h he
  have hΔ':Known c'.P c'.G Δ:=by rw [hP,hGG]; exact hΔ
  rw [← hP]
  unfold denC at he
  split at he
  ·split at he
   ·split at he
    ·refine stages_sound hΔ' hG hnt (fun r o K2 s2 x2 a2 w2 hr2 he2 K' hn=>?_) (fun x s a w hr hk=>hQ _ _ _ _ _ hr hk) h he
     unfold runInl at he2
     split at he2
     ·obtain ⟨x3,hr3,hcase⟩:=guarded_sound hnt hr2 he2
      rcases hcase with ⟨hw,he4⟩ | ⟨hw,he4⟩
      ·rw [if_pos hw]
       refine enter_sound hG hnt hr3 he4 (fun code m x' act K'' Q'' hr' hb hq''=>?_) hn
       have:=iha α { c' with off:=off } ⟨off,m⟩ mu (.code code) (B:=B.into a2 off m) hP hGG (into_fit hG) rfl hmu hq'' hr' hb
       rw [hP]
       exact this
      ·rw [if_neg (by rw [hw]; decide)]
       obtain ⟨x4,k1,k2⟩:=skip_sound hnt hr3 he4
       exact hn _ _ _ _ k1 k2
     ·exact runOps_ok hΔ' hG hnt r o K2 s2 x2 a2 w2 hr2 he2 K' hn
    ·cases he
   ·cases he
  ·cases he
end
end Go.V
