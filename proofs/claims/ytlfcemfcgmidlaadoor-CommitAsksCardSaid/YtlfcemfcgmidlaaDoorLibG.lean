import Derived.Test.YtlfcemfcgmidlaaDoorLibF
import Derived.Calls
import Derived.Laws.BytesArg
import Derived.Laws.Cover3
import Derived.Stop.IfaceNil
import Derived.Laws.Entries
namespace Go.V
open Go.RowKit
variable {α:Type}
theorem weakSl0 {w:World} {S:Fl→Nat→Prop} (hrb:∀ b,S .ro b→S .bo b) {e:Ty} (ih:∀ (d:den e) (j:Nat) (t:T) (v:Value),(cells .ro e d)[j]?=some t→RepR w S t v →
 ∃ t',(cells .bo e d)[j]?=some t'∧RepR w S t' v) {xs:List (den e)} {v:Value} (hr:RepR w S (.sl .ro e xs) v):RepR w S (.sl .bo e xs) v:=by
 cases hr with
 | nil _ _ ad cap=>exact .nil .bo e ad cap
 | box _ _ _ hb=>simp [T.shBox?] at hb
 | sl _ _ _ b off cap vs hR hcap hc hr =>
  have hcell:∀ i j t,cellOf (rows .bo e xs) i j=some t→∃ u,cellOf (rows .ro e xs) i j=some u:=by
   intro i j t e'
   have hij:=rows_lt e'
   rw [cellOf_rows,List.getElem?_eq_getElem hij.1,Option.bind_some,nth_eq]
   exact ⟨_,List.getElem?_eq_getElem (by rw [length_cells]; exact hij.2)⟩
  refine .sl .bo e xs b off cap vs (hrb b hR) hcap (fun i j t e'=>?_) (fun i j t e'=>?_)
  ·obtain ⟨u,hu⟩:=hcell i j t e'
   exact hc i j u hu
  ·obtain ⟨u,hu⟩:=hcell i j t e'
   have h1:=hr i j u hu
   rw [cellOf_rows] at hu e'
   obtain ⟨d,g1,g2⟩:=Option.bind_eq_some_iff.mp hu
   rw [g1,Option.bind_some] at e'
   rw [nth_eq] at g2 e'
   obtain ⟨t',k1,k2⟩:=ih d j u _ g2 h1
   rw [k1,Option.some.injEq] at e'
   subst e'
   exact k2
theorem weakPt0 {w:World} {S:Fl→Nat→Prop} (hrb:∀ b,S .ro b→S .bo b) {e:Ty} (ih:∀ (d:den e) (j:Nat) (t:T) (v:Value),(cells .ro e d)[j]?=some t→RepR w S t v →
 ∃ t',(cells .bo e d)[j]?=some t'∧RepR w S t' v) {d:den e} {v:Value} (hr:RepR w S (.pt .ro e d) v):RepR w S (.pt .bo e d) v:=by
 cases hr with
 | box _ f cs hb b off vs hR hc hr =>
  simp only [T.shBox?,Option.some.injEq,Prod.mk.injEq] at hb
  obtain ⟨rfl,rfl⟩:=hb
  have hcell:∀ (j:Nat) t,(cells .bo e d)[j]?=some t→∃ u,(cells .ro e d)[j]?=some u:=by
   intro j t e'
   have:=(List.getElem?_eq_some_iff.mp e').1
   rw [length_cells] at this
   exact ⟨_,List.getElem?_eq_getElem (by rw [length_cells]; exact this)⟩
  refine .box _ .bo _ rfl b off vs (hrb b hR) (fun j t e'=>?_) (fun j t e'=>?_)
  ·obtain ⟨u,hu⟩:=hcell j t e'
   exact hc j u hu
  ·obtain ⟨u,hu⟩:=hcell j t e'
   obtain ⟨t',k1,k2⟩:=ih d j u _ hu (hr j u hu)
   rw [k1,Option.some.injEq] at e'
   subst e'
   exact k2
theorem weakCells {w:World} {S:Fl→Nat→Prop} (hrb:∀ b,S .ro b→S .bo b):∀ (e:Ty) (d:den e) (j:Nat) (t:T) (v:Value),(cells .ro e d)[j]?=some t→RepR w S t v →
 ∃ t',(cells .bo e d)[j]?=some t'∧RepR w S t' v:=by
 intro e
 induction e with
 | pair a b iha ihb =>
  intro d j t v h hr
  simp only [cells,app_eq] at h ⊢
  have hl:(cells .ro a d.1).length=(cells .bo a d.1).length:=by rw [length_cells,length_cells]
  by_cases hj:j<(cells .ro a d.1).length
  ·rw [List.getElem?_append_left hj] at h
   obtain ⟨t',h1,h2⟩:=iha d.1 j t v h hr
   exact ⟨t',by rw [List.getElem?_append_left (by omega)]; exact h1,h2⟩
  ·rw [List.getElem?_append_right (by omega)] at h
   obtain ⟨t',h1,h2⟩:=ihb d.2 _ t v h hr
   exact ⟨t',by rw [List.getElem?_append_right (by omega),← hl]; exact h1,h2⟩
 | sl e ih =>
  intro xs j t v h hr
  cases j with
  | succ j=>simp [cells] at h
  | zero =>
   simp only [cells,List.getElem?_cons_zero,Option.some.injEq] at h
   subst h
   refine ⟨.sl .bo e xs,rfl,?_⟩
   exact weakSl0 hrb ih hr
 | ptr e ih =>
  intro d j t v h hr
  cases j with
  | succ j=>simp [cells] at h
  | zero =>
   simp only [cells,List.getElem?_cons_zero,Option.some.injEq] at h
   subst h
   exact ⟨.pt .bo e d,rfl,weakPt0 hrb ih hr⟩
 | _=>intro d j t v h hr; exact ⟨t,h,hr⟩
theorem weakSl {w:World} {S:Fl→Nat→Prop} (hrb:∀ b,S .ro b→S .bo b) {e:Ty} {xs:List (den e)} {v:Value} (h:RepR w S (.sl .ro e xs) v):RepR w S (.sl .bo e xs) v:=by
 obtain ⟨t',h1,h2⟩:=weakCells hrb (.sl e) xs 0 (.sl .ro e xs) v rfl h
 simp only [cells,List.getElem?_cons_zero,Option.some.injEq] at h1
 subst h1
 exact h2
theorem weakPt {w:World} {S:Fl→Nat→Prop} (hrb:∀ b,S .ro b→S .bo b) {e:Ty} {d:den e} {v:Value} (h:RepR w S (.pt .ro e d) v):RepR w S (.pt .bo e d) v:=by
 obtain ⟨t',h1,h2⟩:=weakCells hrb (.ptr e) d 0 (.pt .ro e d) v rfl h
 simp only [cells,List.getElem?_cons_zero,Option.some.injEq] at h1
 subst h1
 exact h2
def isBo:Fl→Bool
 | .bo=>true
 | _=>false
def lendCK (x:X) (f:Fl) (hint:Option Ty) (y:C) (K:T→Option α):Option α:=match y with
 | .k t=>match t with
  | .sl f' e xs=>match flEq f' f with
   | true=>match flEq f .own with
    | true=>none
    | false=>K (.sl f' e xs)
   | false=>match and (flEq f' .ro) (isBo f) with
    | true=>K (.sl .bo e xs)
    | false=>none
  | .pt f' e d=>match flEq f' f with
   | true=>match flEq f .own with
    | true=>none
    | false=>K (.pt f' e d)
   | false=>match and (flEq f' .ro) (isBo f) with
    | true=>K (.pt .bo e d)
    | false=>none
  | .v v=>K (.v v)
  | _=>none
 | .nil=>match flEq f .own with
  | true=>none
  | false=>hint.bind fun e=>K (.sl f e [])
 | .own r p _=>match isBo f with
  | true=>atK x r p fun t=>match t with
   | .sl .own e xs=>K (.sl .bo e xs)
   | _=>none
  | false=>none
 | .sub r p lo n e0=>match isBo f with
  | true=>atK x r p fun t=>match t with
   | .sl .own e xs=>match Nat.beq e.size e0.size with
    | true=>K (.sl .bo e (midL xs lo n))
    | false=>none
   | _=>none
  | false=>none
 | .pt r p i j _=>match and (isBo f) (and (Nat.beq i 0) (Nat.beq j 0)) with
  | true=>atK x r p fun t=>match t with
   | .pt .own e d=>K (.pt .bo e d)
   | _=>none
  | false=>none
 | _=>none
def lendCsK (x:X) (f:Fl):List (Option Ty)→List C→(List T→Option α)→Option α
 | _,[],K=>K []
 | h :: hs,y :: ys,K=>lendCK x f h y fun t=>lendCsK x f hs ys fun ts=>K (t :: ts)
 | [],y :: ys,K=>lendCK x f none y fun t=>lendCsK x f [] ys fun ts=>K (t :: ts)
def lent (s:Sit):Fl→Nat→Prop:=fun f b=>s.S f b∨(f = .bo∧∃ r p y,s.Φ r p=some y∧blkOf y=some b)
section
variable {c:Ctx} {B:Base} {s:Sit} {x:X} {a:Act} {w:World}
theorem lent_rb (h:RelW B s x a w):∀ b,lent s .ro b→lent s .bo b:=by
 intro b hb
 rcases hb with hb | ⟨e,_⟩
 ·exact .inl (h.srb b hb)
 ·cases e
theorem lend_own (h:RelW B s x a w) {r:Nat} {p:Path} {t:T} (hp:x.at r p=some t):∃ y,RepO w s.S t y ((s.Φ r).under p)∧RepR w (lent s) t.lend y:=by
 obtain ⟨row,k1,k2⟩:=Option.bind_eq_some_iff.mp hp
 obtain ⟨y0,hy0⟩:=h.roots r row k1
 obtain ⟨y,hy⟩:=getT_own p hy0 k2
 exact ⟨y,hy,hy.toR (fun f b hS=>.inl hS) (fun q z b e1 e2=>.inr ⟨rfl,r,p++q,z,e1,e2⟩)⟩
theorem lendC_sound (h:RelW B s x a w) {f:Fl} {hint:Option Ty} {y:C} {v:Value} (hy:RepC w s y v) {K:T→Option α} {q:α} (he:lendCK x f hint y K=some q) :
 ∃ t,K t=some q∧RepR w (lent s) t v:=by
 have mon:∀ {t:T},RepR w s.S t v→RepR w (lent s) t v:=fun h=>h.mono (fun _ _ _=>rfl) (fun f b hS=>.inl hS)
 unfold lendCK at he
 split at he
 ·cases hy with
  | k t _ hr =>
   split at he
   ·rename_i f' e xs
    split at he
    ·split at he
     ·cases he
     ·exact ⟨_,he,mon hr⟩
    ·split at he
     ·rename_i hb
      simp only [Bool.and_eq_true] at hb
      have hf:=flEq_eq hb.1
      subst hf
      exact ⟨_,he,weakSl (lent_rb h) (mon hr)⟩
     ·cases he
   ·rename_i f' e d
    split at he
    ·split at he
     ·cases he
     ·exact ⟨_,he,mon hr⟩
    ·split at he
     ·rename_i hb
      simp only [Bool.and_eq_true] at hb
      have hf:=flEq_eq hb.1
      subst hf
      exact ⟨_,he,weakPt (lent_rb h) (mon hr)⟩
     ·cases he
   ·exact ⟨_,he,mon hr⟩
   ·cases he
 ·split at he
  ·cases he
  ·obtain ⟨e,h1,he⟩:=Option.bind_eq_some_iff.mp he
   cases hy with
   | nil ad=>exact ⟨_,he,.nil f e ad 0⟩
 ·rename_i r p e0
  split at he
  ·obtain ⟨t,h1,he⟩:=atK_some he
   split at he
   ·rename_i e xs
    cases hy with
    | own _ _ _ _ hΦ =>
     obtain ⟨y,g1,g2⟩:=lend_own h h1
     have:y=v:=by
      have h3:=sl_lay g1
      rw [Lay.under_apply_nil,hΦ,Option.some.injEq] at h3
      exact h3.symm
     subst this
     exact ⟨_,he,g2⟩
   ·cases he
  ·cases he
 ·rename_i r p lo n e0
  split at he
  ·obtain ⟨t,h1,he⟩:=atK_some he
   split at he
   ·rename_i e xs
    split at he
    ·rename_i hsz
     have hsz:=Nat.eq_of_beq_eq_true hsz
     cases hy with
     | sub _ _ _ _ _ a1 a' n0 cap cap' hΦ hle hcap hcn hcc h0 hn =>
      obtain ⟨y,g1,g2⟩:=lend_own h h1
      have hyv:y = .slice a1 n0 cap:=by
       have h3:=sl_lay g1
       rw [Lay.under_apply_nil,hΦ,Option.some.injEq] at h3
       exact h3.symm
      subst hyv
      obtain ⟨ψ,m1,m2⟩:=mid_rep (a':=a') g1 hle hcn hcc (fun hc0=>by
       obtain ⟨b,off,f1,f2⟩:=hn hc0
       exact ⟨b,off,f1,by rw [f2,hsz]⟩)
      refine ⟨_,he,?_⟩
      exact m1.toR (t:=.sl .own e (midL xs lo n)) (fun f b hS=>.inl hS) (fun q z b e1 e2=>by
       obtain ⟨q',y',k1,k2,_⟩:=m2 q z b e1 e2
       exact .inr ⟨rfl,r,p++q',y',k1,k2⟩)
    ·cases he
   ·cases he
  ·cases he
 ·rename_i r p i j sz
  split at he
  ·rename_i hb
   simp only [Bool.and_eq_true] at hb
   have hi:=Nat.eq_of_beq_eq_true hb.2.1
   have hj:=Nat.eq_of_beq_eq_true hb.2.2
   subst hi hj
   obtain ⟨t,h1,he⟩:=atK_some he
   split at he
   ·rename_i e d
    obtain ⟨y,g1,g2⟩:=lend_own h h1
    cases hy with
    | pt _ _ _ _ _ z b hΦ hb2 =>
     refine ⟨_,he,?_⟩
     have:y = .pointer (some ⟨b,offOf z+(0 * sz+0),none⟩):=by
      have h4:((s.Φ r).under p) []=some z:=by rw [Lay.under_apply_nil]; exact hΦ
      generalize (s.Φ r).under p=φ at g1 h4
      cases g1 with
      | sh _ _ _ ht=>simp [T.isSh] at ht
      | box _ cs ht b' arr el vs φ hb' hsz hc hr h0 hn =>
       rw [h0,Option.some.injEq] at h4
       subst h4
       simp only [blkOf,Option.some.injEq] at hb2
       subst hb2
       simp [offOf]
     rw [← this]
     exact g2
   ·cases he
  ·cases he
 ·cases he
theorem lendCs_sound (h:RelW B s x a w) {f:Fl}:∀ {ys:List C} {hs:List (Option Ty)} {vals:List Value} {K:List T→Option α} {q:α},
 (∀ (j:Nat) y,ys[j]?=some y→∃ u,vals[j]?=some u∧RepC w s y u)→lendCsK x f hs ys K=some q →
 ∃ ts,K ts=some q∧ts.length=ys.length∧∀ (j:Nat) t,ts[j]?=some t→∃ u,vals[j]?=some u∧RepR w (lent s) t u:=by
 intro ys
 induction ys with
 | nil =>
  intro hs vals K q _ he
  have he:K []=some q:=by cases hs <;> exact he
  exact ⟨[],he,rfl,fun j t e=>by simp at e⟩
 | cons y ys ih =>
  intro hs vals K q hv he
  obtain ⟨u0,g1,g2⟩:=hv 0 y rfl
  have step:∀ {hint:Option Ty} {hs':List (Option Ty)},(lendCK x f hint y fun t=>lendCsK x f hs' ys fun ts=>K (t :: ts))=some q →
   ∃ ts,K ts=some q∧ts.length=(y :: ys).length∧∀ (j:Nat) t,ts[j]?=some t→∃ u,vals[j]?=some u∧RepR w (lent s) t u:=by
   intro hint hs' he
   obtain ⟨t,k1,k2⟩:=lendC_sound h g2 he
   obtain ⟨ts,m1,m2,m3⟩:=ih (vals:=vals.tail) (fun j y' e=>by
    obtain ⟨u,f1,f2⟩:=hv (j+1) y' (by simpa using e)
    exact ⟨u,by simpa using f1,f2⟩) k1
   refine ⟨t :: ts,m1,by simp [m2],fun j t' e=>?_⟩
   cases j with
   | zero=>simp only [List.getElem?_cons_zero,Option.some.injEq] at e; subst e; exact ⟨u0,g1,k2⟩
   | succ j =>
    obtain ⟨u,f1,f2⟩:=m3 j t' (by simpa using e)
    exact ⟨u,by simpa using f1,f2⟩
  cases hs with
  | nil=>exact step he
  | cons h0 hs=>exact step he
end
end Go.V
namespace Go.V
open Go.RowKit
variable {α:Type}
structure PS where
 agg:Bool
 f:Fl
 e:Ty
structure RS where
 agg:Bool
 g:Fl
 e:Ty
structure Sig where
 ps:List PS
 rs:List RS
def argTy:List PS→Ty
 | []=>.unit
 | [p]=>p.e
 | p :: q :: l=>.pair p.e (argTy (q :: l))
def resTy:List RS→Ty
 | []=>.unit
 | [p]=>p.e
 | p :: q :: l=>.pair p.e (resTy (q :: l))
def hintsOf:Ty→List (Option Ty)
 | .sl e=>[some e]
 | .rsl e=>[some e]
 | .pair a b=>app (hintsOf a) (hintsOf b)
 | .unit=>[]
 | _=>[none]
def oneT (ts:List T):T:=match ts with
 | [t]=>t
 | _=>.dead
def paramD (p:PS) (d:den p.e):D:=match p.agg with
 | true=>.v (.ag (mapL C.k (cells p.f p.e d)))
 | false=>.v (.c (.k (oneT (cells p.f p.e d))))
def paramsD:(l:List PS)→den (argTy l)→List D
 | [],_=>[]
 | [p],d=>[paramD p d]
 | p :: q :: l,d=>paramD p d.1 :: paramsD (q :: l) d.2
def viewV (k off:Nat) (agg:Bool) (ts:List T):V:=match agg with
 | true=>.ag (viewsFrom k [] 0 off ts)
 | false=>.c (viewC k [(0,off)] (oneT ts))
def resRow:(l:List RS)→den (resTy l)→List T
 | [],_=>[]
 | [r],d=>cells r.g r.e d
 | r :: q :: l,d=>app (cells r.g r.e d.1) (resRow (q :: l) d.2)
def resViews (k:Nat):Nat→(l:List RS)→den (resTy l)→List V
 | _,[],_=>[]
 | off,[r],d=>[viewV k off r.agg (cells r.g r.e d)]
 | off,r :: q :: l,d=>viewV k off r.agg (cells r.g r.e d.1) :: resViews k (off+r.e.size) (q :: l) d.2
def tupOf:List V→D
 | [v]=>.v v
 | l=>.tup l
def resD (k:Nat) (l:List RS) (d:den (resTy l)):D:=tupOf (resViews k 0 l d)
def roS (ro:Nat→Prop):Fl→Nat→Prop:=fun f b=>(f = .ro∨f = .bo)∧ro b
structure Left (base:Nat) (s:Sit) (w':World) (ro:Nat→Prop) (row:List T) (φ:Lay):Prop where
 ro0:∀ b,s.S .ro b→ro b
 ro1:∀ b,ro b→s.S .ro b∨(base≤b∧b<w'.heap.size)
 rep:∃ u,RepO w' (roS ro) (.vr row) u φ
 inj:Inj φ
 own:∀ q y b,φ q=some y→blkOf y=some b→base≤b∧b<w'.heap.size∧¬ ro b
def SoundF (P:Program) (G:List (Nat×T)) (f:FuncId) (sg:Sig) (sem:den (argTy sg.ps)→Option (den (resTy sg.rs))):Prop :=
 ∀ (w:World) (s:Sit) (vs:List Value) (d:den (argTy sg.ps)) (r:den (resTy sg.rs)),(∀ k,s.Φ k=noLay)→(∀ f b,s.S f b→b<w.heap.size)→(∀ b,¬ s.S .own b)→(∀ b,s.S .ro b→s.S .bo b) →
  (∀ g t,look G g=some t→RepR w s.S t (.pointer (some ⟨g,0,none⟩)))→vs.length=sg.ps.length →
  (∀ (j:Nat) D,(paramsD sg.ps d)[j]?=some D→∃ v,vs[j]?=some v∧RepD w s D v)→sem d=some r →
  Calls P f vs.toArray w fun e w'=>∃ v ro φ,e = .returned v∧Below w.heap.size w w'∧Left w.heap.size s w' ro (resRow sg.rs r) φ ∧
   ∀ s' k,s'.S=roS ro→s'.Φ k=φ→RepD w' s' (resD k sg.rs r) v
structure Fn where
 sg:Sig
 sem:den (argTy sg.ps)→Option (den (resTy sg.rs))
def cellsOf (agg:Bool) (d:D):Option (List C):=match agg with
 | true=>d.agg?
 | false=>(d.one).map fun y=>[y]
def argK (cx:Ctx) (x:X) (p:PS) (o:Operand) (K:den p.e→Option α):Option α:=(evalD cx x o).bind fun d=>(cellsOf p.agg d).bind fun ys =>
 lendCsK x p.f (hintsOf p.e) ys fun ts=>(packAll p.f p.e ts).bind K
def argsK (cx:Ctx) (x:X):(l:List PS)→List Operand→(den (argTy l)→Option α)→Option α
 | [],os,K=>match os with
  | []=>K ()
  | _ :: _=>none
 | [p],os,K=>(one? os).bind fun o=>argK cx x p o K
 | p :: q :: l,os,K=>match os with
  | o :: os=>argK cx x p o fun d=>argsK cx x (q :: l) os fun e=>K (d,e)
  | []=>none
def callK (cx:Ctx) (nt:Fr) (F:Fn) (x:X) (args:List Operand) (k:Nat) (K:X→Option α):Option α :=
 argsK cx x F.sg.ps args fun d=>(F.sem d).bind fun r=>(x.hang k (resRow F.sg.rs r)).bind fun x1=>putK nt x1 k (resD k F.sg.rs r) K
section
variable {c:Ctx} {B:Base} {s:Sit} {x:X} {a:Act} {w:World} {nt:Fr}
def lentSit (s:Sit):Sit:={ S:=lent s,Φ:=fun _=>noLay,F:=s.F }
theorem arg_sound (hG:Fit B c) (h:RelW B s x a w) {p:PS} {o:Operand} {K:den p.e→Option α} {q:α} (he:argK c x p o K=some q) :
 ∃ d,K d=some q∧RepD w (lentSit s) (paramD p d) (a.eval o):=by
 unfold argK at he
 obtain ⟨d0,h1,he0⟩:=Option.bind_eq_some_iff.mp he
 obtain ⟨ys,h2,he1⟩:=Option.bind_eq_some_iff.mp he0
 clear he he0
 have hr:=evalD_sound hG h h1
 unfold cellsOf at h2
 unfold paramD
 cases hagg:p.agg with
 | true =>
  rw [hagg] at h2
  have h2:=D.agg?_some h2
  subst h2
  generalize a.eval o=v at hr
  cases hr with
  | v _ _ hr=>cases hr with
   | ag _ arr hs hc =>
    obtain ⟨ts,k1,k2,k3⟩:=lendCs_sound h (vals:=arr.toList) (fun j y e=>by
     obtain ⟨u,g1,g2⟩:=hc j y e
     exact ⟨u,by simpa using g1,g2⟩) he1
    obtain ⟨d,k4,k5⟩:=Option.bind_eq_some_iff.mp k1
    have k4:=packAll_some k4
    refine ⟨d,k5,.v _ _ (.ag _ arr (by rw [mapL_eq,List.length_map,← k4,k2,hs]) (fun j y e=>?_))⟩
    rw [mapL_eq,List.getElem?_map,← k4] at e
    obtain ⟨t,e1,rfl⟩:=Option.map_eq_some_iff.mp e
    obtain ⟨u,g1,g2⟩:=k3 j t e1
    exact ⟨u,by simpa using g1,.k _ _ g2⟩
 | false =>
  rw [hagg] at h2
  obtain ⟨y,h3,rfl⟩:=Option.map_eq_some_iff.mp h2
  have h3:=D.one_some h3
  subst h3
  generalize a.eval o=v at hr
  cases hr with
  | v _ _ hr=>cases hr with
   | c _ _ hr =>
    obtain ⟨ts,k1,k2,k3⟩:=lendCs_sound h (vals:=[v]) (fun j y' e=>by
     cases j with
     | zero=>simp only [List.getElem?_cons_zero,Option.some.injEq] at e; subst e; exact ⟨v,rfl,hr⟩
     | succ j=>simp at e) he1
    obtain ⟨d,k4,k5⟩:=Option.bind_eq_some_iff.mp k1
    have k4:=packAll_some k4
    refine ⟨d,k5,.v _ _ (.c _ _ (.k _ _ ?_))⟩
    rw [← k4]
    match ts,k2 with
    | [t],_ =>
     obtain ⟨u,g1,g2⟩:=k3 0 t rfl
     simp only [List.getElem?_cons_zero,Option.some.injEq] at g1
     subst g1
     exact g2
theorem args_sound (hG:Fit B c) (h:RelW B s x a w):∀ (l:List PS) {os:List Operand} {K:den (argTy l)→Option α} {q:α},argsK c x l os K=some q →
 ∃ d,K d=some q∧os.length=l.length∧∀ (j:Nat) D,(paramsD l d)[j]?=some D→∃ v,(os.map a.eval)[j]?=some v∧RepD w (lentSit s) D v
 | [],os,K,q,he=>by
  cases os with
  | nil=>exact ⟨(),he,rfl,fun j D e=>by simp [paramsD] at e⟩
  | cons=>cases he
 | [p],os,K,q,he=>by
  obtain ⟨o,h1,he⟩:=Option.bind_eq_some_iff.mp he
  have h1:=one?_some h1
  subst h1
  obtain ⟨d,k1,k2⟩:=arg_sound hG h he
  refine ⟨d,k1,rfl,fun j D e=>?_⟩
  have e:[paramD p d][j]?=some D:=e
  cases j with
  | zero=>simp only [List.getElem?_cons_zero,Option.some.injEq] at e; subst e; exact ⟨_,rfl,k2⟩
  | succ j=>simp at e
 | p :: q' :: l,os,K,q,he=>by
  cases os with
  | nil=>cases he
  | cons o os =>
   obtain ⟨d,k1,k2⟩:=arg_sound hG h (K:=fun d=>argsK c x (q' :: l) os fun e=>K (d,e)) he
   obtain ⟨e,m1,m2,m3⟩:=args_sound hG h (q' :: l) k1
   refine ⟨(d,e),m1,by simp [m2],fun j D hD=>?_⟩
   have hD:(paramD p d :: paramsD (q' :: l) e)[j]?=some D:=hD
   cases j with
   | zero=>simp only [List.getElem?_cons_zero,Option.some.injEq] at hD; subst hD; exact ⟨_,rfl,k2⟩
   | succ j =>
    obtain ⟨v,f1,f2⟩:=m3 j D (by simpa using hD)
    exact ⟨v,by simpa using f1,f2⟩
theorem RelW.called (h:RelW B s x a w) {w':World} (hb:Below w.heap.size w w') {ro:Nat→Prop} {row:List T} {φ:Lay} (hl:Left w.heap.size (lentSit s) w' ro row φ) {k:Nat} {x1:X} (hx:x.hang k row=some x1) :
 ∃ s',RelW B s' x1 a w'∧s'.Φ k=φ∧∀ f b,roS ro f b→s'.S f b:=by
 have hro:∀ b,ro b→s.S .ro b∨(w.heap.size≤b∧b<w'.heap.size):=by
  intro b hb'
  rcases hl.ro1 b hb' with (h1 | ⟨e,_⟩) | h1
  ·exact .inl h1
  ·cases e
  ·exact .inr h1
 have h1:=h.world (w':=w') (fun b hlt=>hb.block b hlt) hb.size hb.os hb.tape hb.output
 let s1:Sit:={ s with S:=fun f b=>s.S f b∨roS ro f b }
 have h2:RelW B s1 x a w':={ h1 with
  env:=fun k d e=>by
   obtain ⟨v,g1,g2⟩:=h1.env k d e
   exact ⟨v,g1,g2.mono (fun _ _ _=>rfl) (fun f b hS=>.inl hS) rfl (fun _ _=>rfl)⟩
  roots:=fun r row e=>by
   obtain ⟨y,hy⟩:=h1.roots r row e
   exact ⟨y,hy.mono (fun _ _ _=>rfl) (fun f b hS=>.inl hS) (fun _ _ _ _ _=>rfl)⟩
  own:=fun r p y b e1 e2=>by
   have:=h1.own r p y b e1 e2
   refine ⟨fun f hS=>?_,this.2⟩
   rcases hS with hS | ⟨_,hr⟩
   ·exact this.1 f hS
   ·rcases hro b hr with hr | hr
    ·exact this.1 .ro hr
    ·have:=(h.own r p y b e1 e2).2.1; omega
  slt:=fun f b hS=>by
   rcases hS with hS | ⟨_,hr⟩
   ·exact h1.slt f b hS
   ·rcases hro b hr with hr | hr
    ·exact h1.slt .ro b hr
    ·exact hr.2
  sown:=fun b hS=>by
   rcases hS with hS | ⟨e,_⟩
   ·exact h1.sown b hS
   ·simp at e
  sro:=fun b hR=>.inl (h1.sro b hR)
  srn:=fun b hS=>by
   rcases hS with hS | ⟨_,hr⟩
   ·exact h1.srn b hS
   ·rcases hro b hr with hr | hr
    ·exact h1.srn b hr
    ·exact .inr (.inr (Nat.le_trans h.grow hr.1))
  sbo:=fun b hB=>.inl (h1.sbo b hB)
  srb:=fun b hS=>by
   rcases hS with hS | ⟨_,e⟩
   ·exact .inl (h1.srb b hS)
   ·exact .inr ⟨.inr rfl,e⟩
  sbn:=fun b hS=>by
   rcases hS with hS | ⟨_,e⟩
   ·exact (h1.sbn b hS).imp id .inl
   ·exact .inr (.inr ⟨.inl rfl,e⟩)
  glob:=fun g t e=>(h1.glob g t e).mono (fun _ _ _=>rfl) (fun f b hS=>.inl hS) }
 obtain ⟨u,hu⟩:=hl.rep
 have hu':=hu.mono (w':=w') (S':=s1.S) (fun _ _ _=>rfl) (fun f b hS=>.inr hS) (fun _ _ _ _ _=>rfl)
 have hout:OwnOut B s1 w' φ:=⟨hl.inj,fun q y b e1 e2=>by
  have:=hl.own q y b e1 e2
  refine ⟨fun f hS=>?_,this.2.1,.inr (Nat.le_trans h.grow this.1)⟩
  rcases hS with hS | ⟨_,hr⟩
  ·have:=h.slt f b hS; omega
  ·exact this.2.2 hr,
  fun q y b e1 e2 r p z e3 e4=>by
   have h3:=hl.own q y b e1 e2
   have h4:=(h.own r p z b e3 e4).2.1
   omega⟩
 exact ⟨_,h2.hang hu' hout hx,by rw [setΦ_same],fun f b hS=>.inr hS⟩
theorem call_sound (hG:Fit B c) (hnt:B.nt=nt) (h:RelW B s x a w) {f:FuncId} {F:Fn} (hF:SoundF c.P c.G f F.sg F.sem) {args:Array Operand} {k:Nat} {K:X→Option α} {q:α}
 (he:callK c nt F x args.toList k K=some q) {Kp:Act→World→Prop} (hK:∀ x' s' v w',K x'=some q→RelW B s' x' (a.gput B k v) w'→Kp (a.gput B k v) w') :
 Calls c.P f (args.map a.eval) w fun e w'=>match e with
  | .returned v=>Kp (a.gput B k v) w'
  | _=>False:=by
 unfold callK at he
 obtain ⟨d,h2,h3,h4⟩:=args_sound hG h F.sg.ps he
 obtain ⟨r,h5,h6⟩:=Option.bind_eq_some_iff.mp h2
 obtain ⟨x1,h7,h8⟩:=Option.bind_eq_some_iff.mp h6
 have hcall:=hF w (lentSit s) (args.toList.map a.eval) d r (fun _=>rfl) (fun f b hS=>by
  rcases hS with hS | ⟨_,r,p,y,e1,e2⟩
  ·exact h.slt f b hS
  ·exact (h.own r p y b e1 e2).2.1) (fun b hS=>by
  rcases hS with hS | ⟨e,_⟩
  ·exact h.sown b hS
  ·cases e) (lent_rb h) (fun g t hg=>(h.glob g t (by rw [hG.g]; exact hg)).mono (fun _ _ _=>rfl) (fun f b hS=>.inl hS)) (by simpa using h3) h4 h5
 have harr:(args.toList.map a.eval).toArray=args.map a.eval:=by apply Array.ext'; simp
 rw [harr] at hcall
 refine hcall.mono (fun e w' he=>?_)
 obtain ⟨v,ro,φ,rfl,hbel,hl,hrep⟩:=he
 obtain ⟨s',g1,g2,g3⟩:=h.called hbel hl h7
 have hrep':=hrep { s' with S:=roS ro } k rfl g2
 obtain ⟨x',k1,k2⟩:=put_sound hnt g1 h8 (hrep'.mono (s':=s') (fun _ _ _=>rfl) g3 rfl (fun _ _=>rfl))
 exact hK x' s' v w' k1 k2
end
end Go.V
namespace Go.V
open Go.RowKit
variable {α:Type}
def keysOf {β:Type}:List (Nat×β)→List Nat
 | []=>[]
 | e :: l=>e.1 :: keysOf l
theorem keysOf_look {β:Type} {l:List (Nat×β)} {k:Nat}:k∈keysOf l↔∃ x,look l k=some x:=by
 induction l with
 | nil=>simp [keysOf,look]
 | cons e l ih =>
  obtain ⟨k0,x0⟩:=e
  simp only [keysOf,List.mem_cons,look_cons]
  by_cases h:k=k0
  ·subst h; simp
  ·rw [if_neg h]; simp [h,ih]
def limD (keys:List Nat) (d:D):D:=match atsIn keys d with
 | true=>d
 | false=>.v (.c (.k .dead))
section
variable {c:Ctx} {B:Base} {s:Sit} {x y:X} {a:Act} {w:World}
theorem RepC.somewhere {y:C} {v:Value} (h:RepC w s y v):∀ rp∈y.ats,∃ z,s.Φ rp.1 rp.2=some z:=by
 intro rp hrp
 cases h with
 | own r p e v h=>simp only [C.ats,List.mem_singleton] at hrp; subst hrp; exact ⟨_,h⟩
 | sub r p lo n e a a' n0 cap cap' h=>simp only [C.ats,List.mem_singleton] at hrp; subst hrp; exact ⟨_,h⟩
 | pt r p i j sz x b h=>simp only [C.ats,List.mem_singleton] at hrp; subst hrp; exact ⟨_,h⟩
 | fnp f caps cap hs hc =>
  obtain ⟨m,hm⟩:=List.getElem?_of_mem hrp
  obtain ⟨b,h1,-⟩:=hc m rp.1 rp.2 hm
  exact ⟨_,h1⟩
 | cb cs j b vs hR hc ht ho =>
  obtain ⟨j,e,h1⟩:=atsB_get hrp
  exact ⟨_,ho _ _ _ _ h1⟩
 | _=>simp [C.ats] at hrp
theorem RepV.somewhere {y:V} {v:Value} (h:RepV w s y v):∀ rp∈y.ats,∃ z,s.Φ rp.1 rp.2=some z:=by
 intro rp hrp
 cases h with
 | c x v h=>exact h.somewhere rp hrp
 | ag cs arr hs h =>
  simp only [V.ats,List.mem_flatMap] at hrp
  obtain ⟨c0,h1,h2⟩:=hrp
  obtain ⟨j,hj⟩:=List.getElem?_of_mem h1
  obtain ⟨v,-,h3⟩:=h j c0 hj
  exact h3.somewhere rp h2
theorem RepD.somewhere {y:D} {v:Value} (h:RepD w s y v):∀ rp∈y.ats,∃ z,s.Φ rp.1 rp.2=some z:=by
 intro rp hrp
 cases h with
 | v x v h=>exact h.somewhere rp hrp
 | tup cs arr hs h =>
  simp only [D.ats,List.mem_flatMap] at hrp
  obtain ⟨c0,h1,h2⟩:=hrp
  obtain ⟨j,hj⟩:=List.getElem?_of_mem h1
  obtain ⟨v,-,h3⟩:=h j c0 hj
  exact h3.somewhere rp h2
def hideS (s:Sit) (Rt:List (Nat×List T)):Sit:={ s with Φ:=fun r=>if (look Rt r).isSome=true then s.Φ r else noLay }
theorem hide_some {s:Sit} {Rt:List (Nat×List T)} {r:Nat} {p:Path} {z:Value} (h:(hideS s Rt).Φ r p=some z):(look Rt r).isSome=true∧s.Φ r p=some z:=by
 simp only [hideS] at h
 split at h
 ·rename_i e; exact ⟨e,h⟩
 ·cases h
theorem hide_in {s:Sit} {Rt:List (Nat×List T)} {r:Nat} (h:(look Rt r).isSome=true):(hideS s Rt).Φ r=s.Φ r:=by
 simp only [hideS]; rw [if_pos h]
end
def isMut (p:PS):Bool:=match p.f with
 | .own=>true
 | _=>false
def hasMut (l:List PS):Bool:=anyL isMut l
def mutJs:Nat→List PS→List Nat
 | _,[]=>[]
 | j,p :: l=>match isMut p with
  | true=>j :: mutJs (j+1) l
  | false=>mutJs (j+1) l
def mparD (j:Nat) (p:PS) (d:den p.e):D:=match isMut p with
 | true=>.v (.c (.pt j [(0,0)] 0 0 0))
 | false=>paramD p d
def mparsD:Nat→(l:List PS)→den (argTy l)→List D
 | _,[],_=>[]
 | j,[p],d=>[mparD j p d]
 | j,p :: q :: l,d=>mparD j p d.1 :: mparsD (j+1) (q :: l) d.2
def unT:T→T
 | .pt .own e d=>.pp .own (cells .own e d)
 | t=>t
theorem unT_rep {w:World} {S:Fl→Nat→Prop} {t:T} {v:Value} {φ:Lay} (hr:RepO w S t v φ):RepO w S (unT t) v φ:=by
 unfold unT
 split
 ·rename_i e d
  cases hr with
  | sh _ _ _ ht=>simp [T.isSh] at ht
  | box _ cs' ht b arr el vs φ hb hsz hc hr h0 hn =>
   simp only [T.box?,Option.some.injEq] at ht
   subst ht
   exact .box _ _ rfl b arr el vs φ hb hsz hc hr h0 hn
 ·exact hr
def mrow (j:Nat) (p:PS) (d:den p.e):List (Nat×List T):=match isMut p with
 | true=>[(j,mapL unT (cells .own p.e d))]
 | false=>[]
def mrows:Nat→(l:List PS)→den (argTy l)→List (Nat×List T)
 | _,[],_=>[]
 | j,[p],d=>mrow j p d
 | j,p :: q :: l,d=>app (mrow j p d.1) (mrows (j+1) (q :: l) d.2)
def szRs:List RS→Nat
 | []=>0
 | r :: l=>r.e.size+szRs l
theorem length_resRow:∀ (l:List RS) (d:den (resTy l)),(resRow l d).length=szRs l
 | [],_=>rfl
 | [r],d=>(length_cells r.g r.e d:(cells r.g r.e d).length=r.e.size)
 | r :: q :: l,d=>by
  show (app (cells r.g r.e d.1) (resRow (q :: l) d.2)).length=r.e.size+szRs (q :: l)
  rw [app_eq,List.length_append,length_cells,length_resRow (q :: l) d.2]
def offM (sg:Sig):Nat:=Nat.sub (szRs sg.rs) (mutJs 0 sg.ps).length
def resDM (k:Nat) (sg:Sig) (d:den (resTy sg.rs)):D:=tupOf ((resViews k 0 sg.rs d).take (Nat.sub sg.rs.length (mutJs 0 sg.ps).length))
def Handed (s:Sit) (b:Nat):Prop:=∃ r p y,s.Φ r p=some y∧blkOf y=some b
structure Given (G:List (Nat×T)) (w:World) (s:Sit) (rows:List (Nat×List T)):Prop where
 rootn:∀ r,look rows r=none→s.Φ r=noLay
 roots:∀ r row,look rows r=some row→∃ y,RepO w s.S (.vr row) y (s.Φ r)
 inj:∀ r p y r' p' y' b,s.Φ r p=some y→blkOf y=some b→s.Φ r' p'=some y'→blkOf y'=some b→r=r'∧p=p'
 own:∀ r p y b,s.Φ r p=some y→blkOf y=some b→(∀ f,¬ s.S f b)∧b<w.heap.size
 slt:∀ f b,s.S f b→b<w.heap.size
 sown:∀ b,¬ s.S .own b
 srb:∀ b,s.S .ro b→s.S .bo b
 glob:∀ g t,look G g=some t→RepR w s.S t (.pointer (some ⟨g,0,none⟩))
structure LeftM (w:World) (s:Sit) (w':World) (ro:Nat→Prop) (row:List T) (φ:Lay):Prop where
 os:w'.os=w.os
 tape:w'.tape=w.tape
 output:w'.output=w.output
 size:w.heap.size≤w'.heap.size
 kept:∀ b,b<w.heap.size→¬ Handed s b→w'.heap[b]?=w.heap[b]?
 ro0:∀ b,s.S .ro b→ro b
 ro1:∀ b,ro b→s.S .ro b∨Handed s b∨w.heap.size≤b
 rolt:∀ b,ro b→b<w'.heap.size
 rep:∃ u,RepO w' (roS ro) (.vr row) u φ
 inj:Inj φ
 own:∀ q y b,φ q=some y→blkOf y=some b→(Handed s b∨w.heap.size≤b)∧b<w'.heap.size∧¬ ro b
def SoundM (P:Program) (G:List (Nat×T)) (f:FuncId) (sg:Sig) (sem:den (argTy sg.ps)→Option (den (resTy sg.rs))):Prop :=
 ∀ (w:World) (s:Sit) (vs:List Value) (d:den (argTy sg.ps)) (r:den (resTy sg.rs)),Given G w s (mrows 0 sg.ps d)→vs.length=sg.ps.length →
  (∀ (j:Nat) D,(mparsD 0 sg.ps d)[j]?=some D→∃ v,vs[j]?=some v∧RepD w s D v)→sem d=some r →
  Calls P f vs.toArray w fun e w'=>∃ v ro φ,e = .returned v∧LeftM w s w' ro (resRow sg.rs r) φ ∧
   (∀ i j,(mutJs 0 sg.ps)[i]?=some j→∃ v,vs[j]?=some v∧φ [(0,offM sg+i)]=some v) ∧
   ∀ s' k,s'.S=roS ro→s'.Φ k=φ→RepD w' s' (resDM k sg r) v
def isMove (sg:Sig):Bool:=match sg.ps with
 | p :: _ :: _=>match sg.rs with
  | _ :: []=>match p.f with
   | .own=>match p.e with
    | .sl _=>true
    | _=>false
   | _=>false
  | _=>false
 | _=>false
structure LeftD (w:World) (S:Fl→Nat→Prop) (ψ:Lay) (w':World) (e:Ty) (r:List (den e)) (v':Value) (ψ':Lay):Prop where
 os:w'.os=w.os
 tape:w'.tape=w.tape
 output:w'.output=w.output
 size:w.heap.size≤w'.heap.size
 kept:∀ b,b<w.heap.size→(∀ q y,ψ q=some y→blkOf y≠some b)→w'.heap[b]?=w.heap[b]?
 rep:RepO w' S (.sl .own e r) v' ψ'
 top:ψ' []=some v'
 inj:Inj ψ'
 own:∀ q y b,ψ' q=some y→blkOf y=some b→b<w'.heap.size∧(w.heap.size≤b∨∃ q0 y0,ψ q0=some y0∧blkOf y0=some b)
def SoundD (P:Program) (f:FuncId):(sg:Sig)→(den (argTy sg.ps)→Option (den (resTy sg.rs)))→Prop
 | ⟨⟨_,_,.sl e⟩ :: p :: l,⟨_,_,.sl e'⟩ :: []⟩,sem =>
  ∀ (w:World) (S:Fl→Nat→Prop) (s:Sit) (v:Value) (ψ:Lay) (vs:List Value) (xs:List (den e)) (d:den (argTy (p :: l))) (r:List (den e')),
   RepO w S (.sl .own e xs) v ψ→ψ []=some v→Inj ψ→(∀ b,¬ S .own b)→(∀ b,S .ro b→S .bo b)→(∀ b,s.S .ro b→S .ro b)→(∀ q y b,ψ q=some y→blkOf y=some b→(∀ f,¬ S f b)∧(∀ f,¬ s.S f b)∧b<w.heap.size)→(∀ f b,S f b→s.S f b)→(∀ f b,s.S f b→b<w.heap.size) →
   vs.length=(p :: l).length→(∀ (j:Nat) D,(paramsD (p :: l) d)[j]?=some D→∃ v,vs[j]?=some v∧RepD w s D v)→sem (xs,d)=some r →
   Calls P f (v :: vs).toArray w fun ex w'=>∃ v' ψ',ex = .returned v'∧LeftD w S ψ w' e' r v' ψ'
 | _,_=>False
def isTake (sg:Sig):Bool:=match sg.ps with
 | p :: []=>match p.f with
  | .own=>match p.e with
   | .bld _=>match sg.rs with
    | _ :: []=>true
    | _=>false
   | _=>false
  | _=>false
 | _=>false
structure LeftT (w:World) (ψ:Lay) (w':World):Prop where
 os:w'.os=w.os
 tape:w'.tape=w.tape
 output:w'.output=w.output
 size:w.heap.size≤w'.heap.size
 kept:∀ b,b<w.heap.size→(∀ q y,ψ q=some y→blkOf y≠some b)→w'.heap[b]?=w.heap[b]?
def SoundT (P:Program) (f:FuncId):(sg:Sig)→(den (argTy sg.ps)→Option (den (resTy sg.rs)))→Prop
 | ⟨⟨_,_,.bld t⟩ :: [],⟨_,_,.str⟩ :: []⟩,sem =>
  ∀ (w:World) (S:Fl→Nat→Prop) (v:Value) (ψ:Lay) (bs r:List UInt8),RepO w S (.bld t bs) v ψ→ψ []=some v→Inj ψ→(∀ q y b,ψ q=some y→blkOf y=some b→(∀ f,¬ S f b)∧b<w.heap.size)→sem bs=some r →
   Calls P f #[v] w fun ex w'=>ex = .returned (.string ⟨⟨r⟩⟩)∧LeftT w ψ w'
 | _,_=>False
inductive Kind where
 | plain
 | moves
 | writes
 | takes
def kindOf (sg:Sig):Kind:=match isMove sg with
 | true=>.moves
 | false=>match isTake sg with
  | true=>.takes
  | false=>match hasMut sg.ps with
   | true=>.writes
   | false=>.plain
def SoundA (P:Program) (G:List (Nat×T)) (f:FuncId) (sg:Sig) (sem:den (argTy sg.ps)→Option (den (resTy sg.rs))):Prop:=match kindOf sg with
 | .writes=>SoundM P G f sg sem
 | .moves=>SoundD P f sg sem
 | .takes=>SoundT P f sg sem
 | .plain=>SoundF P G f sg sem
section
variable {c:Ctx} {B:Base} {s:Sit} {x:X} {a:Act} {w:World}
def X.hide (x:X) (rs:List Nat):X:={ x with env:=mapS (limD (keysOf (onlyS (fun r=>!(mem rs r)) x.roots))) x.env,roots:=onlyS (fun r=>!(mem rs r)) x.roots,dirt:=dirtAll [] rs x.dirt }
theorem look_hide {rs:List Nat} {r:Nat}:look (x.hide rs).roots r=if r∈rs then none else look x.roots r:=by
 simp only [X.hide,look_onlyS]
 by_cases h:r∈rs
 ·rw [if_pos h,(mem_iff _ _).2 h]; rfl
 ·rw [if_neg h]
  cases e:mem rs r with
  | true=>exact absurd ((mem_iff _ _).1 e) h
  | false=>rfl
theorem RelW.hide (h:RelW B s x a w) {rs:List Nat} (hl:allB (fun r=>lockOk x r []) rs=true):RelW B (hideS s (x.hide rs).roots) (x.hide rs) a w:=by
 have hsub:∀ r row,look (x.hide rs).roots r=some row→r∉rs∧look x.roots r=some row:=by
  intro r row hr
  rw [look_hide] at hr
  split at hr
  ·cases hr
  ·rename_i e; exact ⟨e,hr⟩
 exact { h with
  env:=fun k d hd=>by
   have hd:look (mapS (limD (keysOf (x.hide rs).roots)) x.env) k=some d:=hd
   rw [look_mapS] at hd
   obtain ⟨d0,h1,rfl⟩:=Option.map_eq_some_iff.mp hd
   obtain ⟨v,g1,g2⟩:=h.env k d0 h1
   refine ⟨v,g1,?_⟩
   unfold limD
   split
   ·rename_i e
    refine g2.mono (fun _ _ _=>rfl) (fun _ _ h=>h) rfl (fun rp hrp=>congrFun (hide_in ?_) rp.2)
    obtain ⟨row,hrow⟩:=keysOf_look.1 (atsIn_spec e rp hrp)
    rw [hrow]; rfl
   ·exact .v _ _ (.c _ _ (.k _ _ (.dead v)))
  roots:=fun r row hr=>by
   obtain ⟨z,hz⟩:=h.roots r row (hsub r row hr).2
   exact ⟨z,by rw [hide_in (by rw [hr]; rfl)]; exact hz⟩
  rootn:=fun r hr=>by simp only [hideS,hr]; rfl
  inj:=fun r p z r' p' z' b e1 e2 e3 e4=>h.inj _ _ _ _ _ _ _ (hide_some e1).2 e2 (hide_some e3).2 e4
  own:=fun r p z b e1 e2=>h.own r p z b (hide_some e1).2 e2
  locks:=fun r d hd=>by
   have hr:r∉rs:=by
    intro e
    have:=lockOk_spec ((allB_iff _ _).1 hl r e) hd
    simp [pc,pre] at this
   obtain ⟨e1,e2⟩:=h.locks r d hd
   have hlk:look (x.hide rs).roots r=look x.roots r:=by rw [look_hide,if_neg hr]
   refine ⟨by rw [← e1]; simp only [X.at,hlk],?_⟩
   rw [← e2]
   cases e3:look x.roots r with
   | none =>
    rw [h.rootn r e3]
    simp only [hideS,hlk,e3]; rfl
   | some row=>rw [hide_in (by rw [hlk,e3]; rfl)]
  dirt:=fun r hr p hp=>by
   have hm:=dirtAll_mem (kr:=[]) (l:=x.dirt) (mu:=rs)
   have hrr:r∉rs:=by
    intro e
    have:=hp [] (hm.1 r e (by simp))
    simp [pre] at this
   have hlk:look (x.hide rs).roots r=look x.roots r:=by rw [look_hide,if_neg hrr]
   rw [← h.dirt r hr p (fun d hd=>hp d (hm.2 _ hd))]
   cases e3:look x.roots r with
   | none =>
    rw [h.rootn r e3]
    simp only [hideS,hlk,e3]; rfl
   | some row=>rw [hide_in (by rw [hlk,e3]; rfl)] }
theorem RelW.calledM (h:RelW B s x a w) {sc:Sit} (hS:sc.S=lent s) (hO:∀ b,Handed sc b→(∀ f,¬ s.S f b)∧(∀ r p y,s.Φ r p=some y→blkOf y≠some b)∧(B.O0 b∨B.w0.heap.size≤b))
 {w':World} {ro:Nat→Prop} {row:List T} {φ:Lay} (hl:LeftM w sc w' ro row φ) {k:Nat} {x1:X} (hx:x.hang k row=some x1) :
 ∃ s',RelW B s' x1 a w'∧s'.Φ k=φ∧∀ f b,roS ro f b→s'.S f b:=by
 have hro:∀ b,ro b→s.S .ro b∨Handed sc b∨w.heap.size≤b:=by
  intro b hb'
  rcases hl.ro1 b hb' with h1 | h1
  ·rw [hS] at h1
   rcases h1 with h1 | ⟨e,_⟩
   ·exact .inl h1
   ·cases e
  ·exact .inr h1
 have h1:=h.worldO (w':=w') hO hl.kept hl.size hl.os hl.tape hl.output
 let s1:Sit:={ s with S:=fun f b=>s.S f b∨roS ro f b }
 have h2:RelW B s1 x a w':={ h1 with
  env:=fun k d e=>by
   obtain ⟨v,g1,g2⟩:=h1.env k d e
   exact ⟨v,g1,g2.mono (fun _ _ _=>rfl) (fun f b hS=>.inl hS) rfl (fun _ _=>rfl)⟩
  roots:=fun r row e=>by
   obtain ⟨y,hy⟩:=h1.roots r row e
   exact ⟨y,hy.mono (fun _ _ _=>rfl) (fun f b hS=>.inl hS) (fun _ _ _ _ _=>rfl)⟩
  own:=fun r p y b e1 e2=>by
   have:=h1.own r p y b e1 e2
   refine ⟨fun f hS=>?_,this.2⟩
   rcases hS with hS | ⟨_,hr⟩
   ·exact this.1 f hS
   ·rcases hro b hr with hr | hr | hr
    ·exact this.1 .ro hr
    ·exact (hO b hr).2.1 _ _ _ e1 e2
    ·have:=(h.own r p y b e1 e2).2.1; omega
  slt:=fun f b hS=>by
   rcases hS with hS | ⟨_,hr⟩
   ·exact h1.slt f b hS
   ·exact hl.rolt b hr
  sown:=fun b hS=>by
   rcases hS with hS | ⟨e,_⟩
   ·exact h1.sown b hS
   ·simp at e
  sro:=fun b hR=>.inl (h1.sro b hR)
  srn:=fun b hS=>by
   rcases hS with hS | ⟨_,hr⟩
   ·exact h1.srn b hS
   ·rcases hro b hr with hr | hr | hr
    ·exact h1.srn b hr
    ·exact .inr (hO b hr).2.2
    ·exact .inr (.inr (Nat.le_trans h.grow hr))
  sbo:=fun b hB=>.inl (h1.sbo b hB)
  srb:=fun b hS=>by
   rcases hS with hS | ⟨_,e⟩
   ·exact .inl (h1.srb b hS)
   ·exact .inr ⟨.inr rfl,e⟩
  sbn:=fun b hS=>by
   rcases hS with hS | ⟨_,e⟩
   ·exact (h1.sbn b hS).imp id .inl
   ·exact .inr (.inr ⟨.inl rfl,e⟩)
  glob:=fun g t e=>(h1.glob g t e).mono (fun _ _ _=>rfl) (fun f b hS=>.inl hS) }
 obtain ⟨u,hu⟩:=hl.rep
 have hu':=hu.mono (w':=w') (S':=s1.S) (fun _ _ _=>rfl) (fun f b hS=>.inr hS) (fun _ _ _ _ _=>rfl)
 have hout:OwnOut B s1 w' φ:=⟨hl.inj,fun q y b e1 e2=>by
  have:=hl.own q y b e1 e2
  refine ⟨fun f hS=>?_,this.2.1,?_⟩
  ·rcases hS with hS | ⟨_,hr⟩
   ·rcases this.1 with g | g
    ·exact (hO b g).1 f hS
    ·have:=h.slt f b hS; omega
   ·exact this.2.2 hr
  ·rcases this.1 with g | g
   ·exact (hO b g).2.2
   ·exact .inr (Nat.le_trans h.grow g),
  fun q y b e1 e2 r p z e3 e4=>by
   rcases (hl.own q y b e1 e2).1 with g | g
   ·exact (hO b g).2.1 _ _ _ e3 e4
   ·have h4:=(h.own r p z b e3 e4).2.1
    omega⟩
 exact ⟨_,h2.hang hu' hout hx,by rw [setΦ_same],fun f b hS=>.inr hS⟩
end
end Go.V
namespace Go.V
open Go.RowKit
variable {α:Type}
def zero2 (i j:Nat):Bool:=and (Nat.beq i 0) (Nat.beq j 0)
theorem zero2_eq {i j:Nat} (h:zero2 i j=true):i=0∧j=0:=by
 simp only [zero2,Bool.and_eq_true] at h
 exact ⟨Nat.eq_of_beq_eq_true h.1,Nat.eq_of_beq_eq_true h.2⟩
def boxPath:Path→Bool
 | []=>false
 | e :: l=>match l with
  | []=>zero2 e.1 e.2
  | _ :: _=>false
theorem boxPath_eq {p:Path} (h:boxPath p=true):p=[(0,0)]:=by
 unfold boxPath at h
 split at h
 ·cases h
 ·rename_i e l
  split at h
  ·obtain ⟨i,j⟩:=e
   have:=zero2_eq h
   simp only at this
   rw [this.1,this.2]
  ·cases h
def ptC:D→Option (Nat×(Nat×Nat))
 | .v (.c (.pt r p i j _))=>match boxPath p with
  | true=>some (r,(i,j))
  | false=>none
 | _=>none
def ptRoot (d:D):Option Nat:=(ptC d).bind fun t=>match zero2 t.2.1 t.2.2 with
 | true=>some t.1
 | false=>none
theorem ptC_some {d:D} {t:Nat×(Nat×Nat)} (h:ptC d=some t):∃ sz,d = .v (.c (.pt t.1 [(0,0)] t.2.1 t.2.2 sz)):=by
 unfold ptC at h
 split at h
 ·rename_i r p i j sz
  split at h
  ·rename_i hb
   simp only [Option.some.injEq] at h
   subst h
   rw [boxPath_eq hb]
   exact ⟨sz,rfl⟩
  ·cases h
 ·cases h
theorem ptRoot_some {d:D} {r:Nat} (h:ptRoot d=some r):∃ sz,d = .v (.c (.pt r [(0,0)] 0 0 sz)):=by
 unfold ptRoot at h
 obtain ⟨t,h1,h2⟩:=Option.bind_eq_some_iff.mp h
 split at h2
 ·rename_i hz
  simp only [Option.some.injEq] at h2
  subst h2
  obtain ⟨sz,h3⟩:=ptC_some h1
  have:=zero2_eq hz
  rw [this.1,this.2] at h3
  exact ⟨sz,h3⟩
 ·cases h2
def mutPr (cx:Ctx) (x:X):Nat→List PS→List Operand→Option (List (Nat×Nat))
 | _,[],_=>some []
 | j,p :: l,os=>match os with
  | []=>none
  | o :: os=>match isMut p with
   | true=>((evalD cx x o).bind ptRoot).bind fun r=>(mutPr cx x (j+1) l os).map fun rs=>(j,r) :: rs
   | false=>mutPr cx x (j+1) l os
def ptHint:Ty→Option Ty
 | .ptr e=>some e
 | _=>none
def fixT (h:Option Ty) (t:T):Option T:=match h with
 | some e=>match t with
  | .pp .own cs=>(packAll .own e cs).map fun d=>.pt .own e d
  | t=>some t
 | none=>some t
theorem fixT_rep {w:World} {S:Fl→Nat→Prop} {h:Option Ty} {t t':T} {v:Value} {φ:Lay} (he:fixT h t=some t') (hr:RepO w S t v φ):RepO w S t' v φ:=by
 unfold fixT at he
 split at he
 ·split at he
  ·rename_i e cs
   obtain ⟨d,h1,rfl⟩:=Option.map_eq_some_iff.mp he
   have h1:=packAll_some h1
   cases hr with
   | sh _ _ _ ht=>simp [T.isSh] at ht
   | box _ cs' ht b arr el vs φ hb hsz hc hr h0 hn =>
    simp only [T.box?,Option.some.injEq] at ht
    subst ht
    subst h1
    exact .box _ _ rfl b arr el vs φ hb hsz hc hr h0 hn
  ·simp only [Option.some.injEq] at he; subst he; exact hr
 ·simp only [Option.some.injEq] at he; subst he; exact hr
def mdat (x:X) (r:Nat) (p:PS):Option (den p.e):=(look x.roots r).bind fun row=>match row with
 | []=>none
 | t :: l=>match l with
  | []=>(fixT (ptHint p.e) t).bind fun t'=>match t' with
   | .pt .own e d=>packAll .own p.e [.pt .own e d]
   | .bld t bs=>packAll .own p.e [.bld t bs]
   | _=>none
  | _ :: _=>none
def argMK (cx:Ctx) (x0 x:X) (p:PS) (o:Operand) (K:den p.e→Option α):Option α:=match isMut p with
 | true=>((evalD cx x o).bind ptRoot).bind fun r=>(mdat x r p).bind K
 | false=>argK cx x0 p o K
def argsMK (cx:Ctx) (x0 x:X):(l:List PS)→List Operand→(den (argTy l)→Option α)→Option α
 | [],os,K=>match os with
  | []=>K ()
  | _ :: _=>none
 | [p],os,K=>(one? os).bind fun o=>argMK cx x0 x p o K
 | p :: q :: l,os,K=>match os with
  | o :: os=>argMK cx x0 x p o fun d=>argsMK cx x0 x (q :: l) os fun e=>K (d,e)
  | []=>none
def noDup:List Nat→Bool
 | []=>true
 | r :: l=>and (!(mem l r)) (noDup l)
def giveBackK (k:Nat):Nat→List Nat→X→(X→Option α)→Option α
 | _,[],x,K=>K x
 | n,r :: rs,x,K=>takeCK x none (.pt k [(0,n)] 0 0 0) fun t x1=>match t with
  | .pt .own _ _=>(x1.hang r [unT t]).bind fun x2=>giveBackK k (n+1) rs x2 K
  | .bld _ _=>(x1.hang r [unT t]).bind fun x2=>giveBackK k (n+1) rs x2 K
  | _=>none
def ptsE (env:List (Nat×D)) (rs:List Nat) (k:Nat):List (Nat×D)→List (Nat×D)
 | []=>[]
 | e :: l=>match Nat.beq e.1 k with
  | true=>ptsE env rs k l
  | false=>match look env e.1 with
   | some d=>match ptC d with
    | some t=>match mem rs t.1 with
     | true=>(e.1,d) :: ptsE env rs k l
     | false=>ptsE env rs k l
    | none=>ptsE env rs k l
   | none=>ptsE env rs k l
def callRsK (cx:Ctx) (nt:Fr) (F:Fn) (x:X) (rs:List Nat) (args:List Operand) (k:Nat) (K:X→Option α):Option α :=
 match and (noDup rs) (and (allB (fun r=>lockOk x r []) rs) (!(mem rs k))) with
  | true=>argsMK cx (x.hide rs) x F.sg.ps args fun d=>(F.sem d).bind fun r=>((x.hide rs).hang k (resRow F.sg.rs r)).bind fun x1=>putK nt x1 k (resDM k F.sg r) fun x2 =>
   giveBackK k (offM F.sg) rs x2 fun x3=>K { x3 with env:=app (ptsE x.env rs k x.env) x3.env }
  | false=>none
def callMK (cx:Ctx) (nt:Fr) (F:Fn) (x:X) (args:List Operand) (k:Nat) (K:X→Option α):Option α :=
 (mutPr cx x 0 F.sg.ps args).bind fun pr=>callRsK cx nt F x (mapL Prod.snd pr) args k K
def callDK (cx:Ctx) (nt:Fr) (x:X) (args:List Operand) (k:Nat) (K:X→Option α):(sg:Sig)→(den (argTy sg.ps)→Option (den (resTy sg.rs)))→Option α
 | ⟨⟨_,_,.sl e⟩ :: p :: l,⟨_,_,.sl e'⟩ :: []⟩,sem=>match args with
  | o :: os=>(evalD cx x o).bind fun d0=>(d0.one).bind fun y=>takeCK x (some e) y fun t x1=>match t with
   | .sl .own e1 xs=>(cast? (.sl e1) (.sl e) xs).bind fun xs=>argsK cx x1 (p :: l) os fun d=>(sem (xs,d)).bind fun r=>newK nt x1 k (.sl .own e' r) (.own k [(0,0)] e') K
   | _=>none
  | []=>none
 | _,_=>none
def callTK (cx:Ctx) (nt:Fr) (x:X) (args:List Operand) (k:Nat) (K:X→Option α):(sg:Sig)→(den (argTy sg.ps)→Option (den (resTy sg.rs)))→Option α
 | ⟨⟨_,_,.bld t⟩ :: [],⟨_,_,.str⟩ :: []⟩,sem=>match args with
  | []=>none
  | o :: os=>match os with
   | _ :: _=>none
   | []=>(evalD cx x o).bind fun d0=>(d0.one).bind fun y=>takeCK x none y fun u x1=>(pack .own (.bld t) [u]).bind fun d=>(sem d.1).bind fun r=>putK nt x1 k (.v (.c (.k (.v (.string ⟨⟨r⟩⟩))))) K
 | _,_=>none
def callAK (cx:Ctx) (nt:Fr) (Δ:List (Nat×Fn)) (x:X) (f:FuncId) (args:List Operand) (k:Nat) (K:X→Option α):Option α :=
 (look Δ f).bind fun F=>match kindOf F.sg with
  | .writes=>callMK cx nt F x args k K
  | .moves=>callDK cx nt x args k K F.sg F.sem
  | .takes=>callTK cx nt x args k K F.sg F.sem
  | .plain=>callK cx nt F x args k K
theorem ptsE_some {env:List (Nat×D)} {rs:List Nat} {k:Nat}:∀ {l:List (Nat×D)} {j:Nat} {d:D},look (ptsE env rs k l) j=some d →
 look env j=some d∧j≠k∧∃ r i i' sz,d = .v (.c (.pt r [(0,0)] i i' sz))∧r∈rs
 | [],j,d,h=>by cases h
 | e :: l,j,d,h=>by
  unfold ptsE at h
  split at h
  ·exact ptsE_some h
  rename_i hk
  split at h
  rotate_left
  ·exact ptsE_some h
  rename_i d0 hd0
  split at h
  rotate_left
  ·exact ptsE_some h
  rename_i t ht
  split at h
  rotate_left
  ·exact ptsE_some h
  rename_i hm
  rw [look_cons] at h
  by_cases ej:j=e.1
  ·rw [if_pos ej,Option.some.injEq] at h
   subst h
   obtain ⟨sz,hd⟩:=ptC_some ht
   exact ⟨by rw [ej]; exact hd0,by rw [ej]; exact Nat.ne_of_beq_eq_false hk,t.1,t.2.1,t.2.2,sz,hd,(mem_iff _ _).1 hm⟩
  ·rw [if_neg ej] at h
   exact ptsE_some h
theorem noDup_spec:∀ {l:List Nat},noDup l=true→l.Nodup
 | [],_=>List.nodup_nil
 | r :: l,h=>by
  simp only [noDup,Bool.and_eq_true,Bool.not_eq_true'] at h
  refine List.nodup_cons.2 ⟨fun hm=>?_,noDup_spec h.2⟩
  rw [(mem_iff _ _).2 hm] at h; exact absurd h.1 (by decide)
section
variable {c:Ctx} {B:Base} {s:Sit} {x:X} {a:Act} {w:World} {nt:Fr}
theorem box_lay {w:World} {S:Fl→Nat→Prop} {t:T} {v:Value} {φ:Lay} {cs:List T} (h:RepO w S t v φ) (hb:t.box?=some cs):φ []=some v∧∃ b,v = .pointer (some ⟨b,0,none⟩):=by
 cases h with
 | sh _ _ _ ht =>
  cases t with
  | pp f _=>cases f <;> simp [T.box?,T.isSh] at hb ht
  | pt f _ _=>cases f <;> simp [T.box?,T.isSh] at hb ht
  | po=>simp [T.isSh] at ht
  | _=>simp [T.box?] at hb
 | nil=>simp [T.box?] at hb
 | sl=>simp [T.box?] at hb
 | slo=>simp [T.box?] at hb
 | box _ _ _ b arr el vs φ hb hsz hc hr h0 hn=>exact ⟨h0,b,rfl⟩
 | vr=>simp [T.box?] at hb
 | bld=>simp [T.box?] at hb
theorem bld_lay {w:World} {S:Fl→Nat→Prop} {t:Nat×Nat} {bs:List UInt8} {v:Value} {φ:Lay} (h:RepO w S (.bld t bs) v φ):φ []=some v∧∃ b,v = .pointer (some ⟨b,0,none⟩):=by
 cases h with
 | sh _ _ _ ht=>simp [T.isSh] at ht
 | box _ _ ht=>simp [T.box?] at ht
 | bld _ _ b x0 x1 φ hb hx hr h0 h1 hn=>exact ⟨h0,b,rfl⟩
def oneLay (ψ:Lay):Lay:=fun p=>match p with
 | []=>none
 | (i,j) :: q=>if i=0∧j=0 then ψ q else none
theorem oneLay_some {ψ:Lay} {q:Path} {y:Value} (h:oneLay ψ q=some y):∃ q',q=(0,0) :: q'∧ψ q'=some y:=by
 unfold oneLay at h
 split at h
 ·cases h
 ·rename_i i j q'
  split at h
  ·rename_i e
   rw [e.1,e.2]
   exact ⟨q',rfl,h⟩
  ·cases h
theorem oneLay_rep {w:World} {S:Fl→Nat→Prop} {t:T} {v:Value} {ψ:Lay} (h:RepO w S t v ψ):RepO w S (.vr [t]) .nilIface (oneLay ψ):=by
 refine .vr _ _ (fun _=>v) _ (fun j t' e=>?_) rfl (fun i j hij=>?_)
 ·cases j with
  | zero =>
   simp only [List.getElem?_cons_zero,Option.some.injEq] at e
   subst e
   exact h
  | succ j=>simp at e
 ·funext q
  have hno : ¬ (i=0∧j=0):=by
   rintro ⟨e1,e2⟩
   subst e1 e2
   rcases hij with hij | hij
   ·exact hij rfl
   ·simp at hij
  simp [Lay.at,oneLay,hno,noLay]
theorem oneLay_out {ψ:Lay} (h:OwnOut B s w ψ):OwnOut B s w (oneLay ψ) where
 inj:=fun p y p' y' b e1 e2 e3 e4=>by
  obtain ⟨q,rfl,g1⟩:=oneLay_some e1
  obtain ⟨q',rfl,g2⟩:=oneLay_some e3
  rw [h.inj _ _ _ _ _ g1 e2 g2 e4]
 own:=fun q y b e1 e2=>by
  obtain ⟨q',rfl,g1⟩:=oneLay_some e1
  exact h.own _ _ _ g1 e2
 out:=fun q y b e1 e2=>by
  obtain ⟨q',rfl,g1⟩:=oneLay_some e1
  exact h.out _ _ _ g1 e2
theorem kill_pt {k n r m i j sz:Nat} (h:r≠k∨m≠n):C.kill k [n] (.pt r [(0,m)] i j sz) = .pt r [(0,m)] i j sz:=by
 have:hits k [n] (.pt r [(0,m)] i j sz)=false:=by
  unfold hits
  simp only [C.ats,anyL]
  cases e:Nat.beq r k with
  | false=>rfl
  | true =>
   have e1:=Nat.eq_of_beq_eq_true e
   have hmn:m≠n:=by
    rcases h with h | h
    ·exact absurd e1 h
    ·exact h
   simp only [jp,pre]
   cases e2:Nat.beq n m with
   | false=>rfl
   | true=>exact absurd (Nat.eq_of_beq_eq_true e2).symm hmn
 unfold C.kill
 rw [this]
theorem giveBack_sound {k:Nat}:∀ (rs:List Nat) (us:List Value) {n:Nat} {s:Sit} {x:X} {K:X→Option α} {q:α},RelW B s x a w→rs.Nodup→k∉rs→us.length=rs.length →
 (∀ (i:Nat) (u:Value),us[i]?=some u→RepC w s (.pt k [(0,n+i)] 0 0 0) u)→giveBackK k n rs x K=some q →
 ∃ (s':Sit) (x':X),K x'=some q∧RelW B s' x' a w∧(∀ (i r:Nat) (u:Value),rs[i]?=some r→us[i]?=some u→∃ b,u = .pointer (some ⟨b,0,none⟩)∧∀ i' j' sz,RepC w s' (.pt r [(0,0)] i' j' sz) (.pointer (some ⟨b,i' * sz+j',none⟩))) ∧
  (∀ r i' j' sz v,r∉rs→r≠k→RepC w s (.pt r [(0,0)] i' j' sz) v→RepC w s' (.pt r [(0,0)] i' j' sz) v)
 | [],us,n,s,x,K,q,h,_,_,_,_,he=>⟨s,x,he,h,fun i r u e=>by simp at e,fun r i' j' sz v _ _ hr=>hr⟩
 | r :: rs,us,n,s,x,K,q,h,hnd,hk,hlen,hrep,he=>by
  cases us with
  | nil=>simp at hlen
  | cons u us =>
   have hnd':=List.nodup_cons.1 hnd
   have hkr:k≠r:=fun e=>hk (by rw [e]; exact List.mem_cons_self)
   have hkrs:k∉rs:=fun e=>hk (List.mem_cons_of_mem _ e)
   unfold giveBackK at he
   obtain ⟨t,x1,s1,ψ,he1,ht⟩:=takeC_sound h (hrep 0 u rfl) he
   obtain ⟨x2,hx2,he2,hψ,b,hb⟩:∃ x2,x1.hang r [unT t]=some x2∧giveBackK k (n+1) rs x2 K=some q∧ψ []=some u∧∃ b,u = .pointer (some ⟨b,0,none⟩):=by
    split at he1
    ·rename_i e d
     obtain ⟨x2,hx2,he2⟩:=Option.bind_eq_some_iff.mp he1
     obtain ⟨hψ,b,hb⟩:=box_lay ht.rep (t:=.pt .own e d) rfl
     exact ⟨x2,hx2,he2,hψ,b,hb⟩
    ·obtain ⟨x2,hx2,he2⟩:=Option.bind_eq_some_iff.mp he1
     obtain ⟨hψ,b,hb⟩:=bld_lay ht.rep
     exact ⟨x2,hx2,he2,hψ,b,hb⟩
    ·cases he1
   subst hb
   have hh:=ht.rel.hang (row:=[unT t]) (by rw [ht.S]; exact oneLay_rep (unT_rep ht.rep)) (oneLay_out ht.out) hx2
   have hpre:∀ {z:C} {v:Value},RepC w s z v→z.kill k [n]=z→(∀ rp∈z.ats,rp.1≠r)→RepC w (setΦ s1 r (oneLay ψ)) z v:=by
    intro z v hz hkz hat
    have h1:=ht.live z v hz
    have:killBy (.pt k [(0,n+0)] 0 0 0) z=z:=hkz
    rw [this] at h1
    exact h1.mono (fun _ _ _=>rfl) (fun _ _ h=>h) rfl (fun rp hrp=>by rw [setΦ_ne s1 _ (hat rp hrp)])
   obtain ⟨s',x',k1,k2,k3,k4⟩:=giveBack_sound rs us hh hnd'.2 hkrs (by simpa using hlen) (fun i u1 e1=>by
    have:=hrep (i+1) u1 (by simpa using e1)
    refine hpre (by rw [show n+1+i=n+(i+1) by omega]; exact this) (kill_pt (.inr (by omega))) (fun rp hrp=>?_)
    simp only [C.ats,List.mem_singleton] at hrp
    rw [hrp]; exact hkr) he2
   refine ⟨s',x',k1,k2,fun i r1 u1 e1 e2=>?_,fun r1 i' j' sz v hr1 hr2 hrep1=>?_⟩
   ·cases i with
    | succ i=>exact k3 i r1 u1 (by simpa using e1) (by simpa using e2)
    | zero =>
     simp only [List.getElem?_cons_zero,Option.some.injEq] at e1 e2
     subst e1 e2
     refine ⟨b,rfl,fun i' j' sz=>k4 r i' j' sz _ hnd'.1 (fun e=>hkr e.symm) ?_⟩
     have:=RepC.pt (w:=w) (s:=setΦ s1 r (oneLay ψ)) r [(0,0)] i' j' sz (.pointer (some ⟨b,0,none⟩)) b (by rw [setΦ_same]; exact hψ) rfl
     simpa [offOf] using this
   ·refine k4 r1 i' j' sz v (fun e=>hr1 (List.mem_cons_of_mem _ e)) hr2 (hpre hrep1 (kill_pt (.inl hr2)) (fun rp hrp=>?_))
    simp only [C.ats,List.mem_singleton] at hrp
    rw [hrp]
    exact fun e=>hr1 (by have e:r1=r:=e; rw [e]; exact List.mem_cons_self)
theorem RepD.lentAny {s0:Sit} {d:D} {v:Value} (h:RepD w (lentSit s0) d v) {sc:Sit} (hS:sc.S=lent s0) (hF:sc.F=s0.F):RepD w sc d v :=
 h.mono (fun _ _ _=>rfl) (fun f b hb=>by rw [hS]; exact hb) hF (fun rp hrp=>by
  obtain ⟨z,hz⟩:=h.somewhere rp hrp
  cases hz)
theorem mdat_sound (h:RelW B s x a w) {r:Nat} {p:PS} {d:den p.e} (he:mdat x r p=some d):(∃ y,RepO w s.S (.vr (mapL unT (cells .own p.e d))) y (s.Φ r))∧∃ b,s.Φ r [(0,0)]=some (.pointer (some ⟨b,0,none⟩)):=by
 unfold mdat at he
 obtain ⟨row,h1,he⟩:=Option.bind_eq_some_iff.mp he
 split at he
 ·cases he
 rename_i t l
 split at he
 rotate_left
 ·cases he
 obtain ⟨t',h2,he⟩:=Option.bind_eq_some_iff.mp he
 obtain ⟨h3,hlay⟩:[t']=cells .own p.e d∧∀ {v:Value} {φ:Lay},RepO w s.S t' v φ→φ []=some v∧∃ b,v = .pointer (some ⟨b,0,none⟩):=by
  split at he
  ·rename_i e0 d0
   exact ⟨packAll_some he,fun h=>box_lay h (t:=.pt .own e0 d0) rfl⟩
  ·exact ⟨packAll_some he,fun h=>bld_lay h⟩
  ·cases he
 obtain ⟨y,hy⟩:=h.roots r _ h1
 rw [← h3]
 generalize s.Φ r=φ at hy
 cases hy with
 | sh _ _ _ ht=>simp [T.isSh] at ht
 | box _ _ ht=>simp [T.box?] at ht
 | vr _ _ vs _ hr h0 hn =>
  have hc:=fixT_rep h2 (hr 0 t rfl)
  refine ⟨⟨y,.vr _ _ vs _ (fun j t1 e=>?_) h0 (fun i j hij=>hn i j ?_)⟩,?_⟩
  ·cases j with
   | zero =>
    simp only [mapL,List.getElem?_cons_zero,Option.some.injEq] at e
    subst e
    exact unT_rep hc
   | succ j=>simp [mapL] at e
  ·rcases hij with hij | hij
   ·exact .inl hij
   ·refine .inr ?_
    cases j with
    | zero=>simp [mapL] at hij
    | succ j=>simp
  ·obtain ⟨g1,b,g2⟩:=hlay hc
   rw [g2] at g1
   exact ⟨b,g1⟩
structure MArg (w:World) (s s0:Sit) (a:Act) (m:Nat) (js:List Nat) (n:Nat) (os:List Operand) (pr:List (Nat×Nat)) (Ds:List D) (rows:List (Nat×List T)):Prop where
 len:os.length=n
 hjs:mapL Prod.fst pr=js
 env:∀ (j:Nat) D,Ds[j]?=some D→∃ v,(os.map a.eval)[j]?=some v∧∀ sc:Sit,sc.S=lent s0→sc.F=s0.F→(∀ j r,(j,r)∈pr→sc.Φ j=s.Φ r)→RepD w sc D v
 hrows:∀ j row,look rows j=some row→∃ r,(j,r)∈pr∧∃ y,RepO w s.S (.vr row) y (s.Φ r)
 hpr:∀ j r,(j,r)∈pr→m≤j∧look rows j≠none∧∃ b,s.Φ r [(0,0)]=some (.pointer (some ⟨b,0,none⟩))∧(os.map a.eval)[j - m]?=some (.pointer (some ⟨b,0,none⟩))
theorem MArg.skip {s0:Sit} {m n:Nat} {js:List Nat} {os:List Operand} {pr:List (Nat×Nat)} {Ds:List D} {rows:List (Nat×List T)} (h:MArg w s s0 a (m+1) js n os pr Ds rows) {o:Operand} {D0:D} (h0:RepD w (lentSit s0) D0 (a.eval o)) :
 MArg w s s0 a m js (n+1) (o :: os) pr (D0 :: Ds) rows where
 len:=by simp [h.len]
 hjs:=h.hjs
 env:=fun j D e=>by
  cases j with
  | zero =>
   simp only [List.getElem?_cons_zero,Option.some.injEq] at e
   subst e
   exact ⟨_,rfl,fun sc hS hF _=>h0.lentAny hS hF⟩
  | succ j =>
   obtain ⟨v,g1,g2⟩:=h.env j D (by simpa using e)
   exact ⟨v,by simpa using g1,g2⟩
 hrows:=h.hrows
 hpr:=fun j r e=>by
  obtain ⟨g1,g2,b,g3,g4⟩:=h.hpr j r e
  refine ⟨by omega,g2,b,g3,?_⟩
  rw [show j - m=(j - (m+1))+1 by omega]
  simpa using g4
theorem MArg.push {s0:Sit} {m n:Nat} {js:List Nat} {os:List Operand} {pr:List (Nat×Nat)} {Ds:List D} {rows:List (Nat×List T)} (h:MArg w s s0 a (m+1) js n os pr Ds rows) {o:Operand} {r b:Nat} {row:List T}
 (h1:∃ y,RepO w s.S (.vr row) y (s.Φ r)) (h2:s.Φ r [(0,0)]=some (.pointer (some ⟨b,0,none⟩))) (h3:a.eval o = .pointer (some ⟨b,0,none⟩)) :
 MArg w s s0 a m (m :: js) (n+1) (o :: os) ((m,r) :: pr) (.v (.c (.pt m [(0,0)] 0 0 0)) :: Ds) ((m,row) :: rows) where
 len:=by simp [h.len]
 hjs:=by simp only [mapL,h.hjs]
 env:=fun j D e=>by
  cases j with
  | zero =>
   simp only [List.getElem?_cons_zero,Option.some.injEq] at e
   subst e
   refine ⟨_,rfl,fun sc hS hF hΦ=>?_⟩
   rw [h3]
   have:=RepC.pt (w:=w) (s:=sc) m [(0,0)] 0 0 0 (.pointer (some ⟨b,0,none⟩)) b (by rw [hΦ m r List.mem_cons_self]; exact h2) rfl
   exact .v _ _ (.c _ _ (by simpa [offOf] using this))
  | succ j =>
   obtain ⟨v,g1,g2⟩:=h.env j D (by simpa using e)
   exact ⟨v,by simpa using g1,fun sc hS hF hΦ=>g2 sc hS hF (fun j r hm=>hΦ j r (List.mem_cons_of_mem _ hm))⟩
 hrows:=fun j row' e=>by
  rw [look_cons] at e
  split at e
  ·rename_i ej
   simp only [Option.some.injEq] at e
   subst e ej
   exact ⟨r,List.mem_cons_self,h1⟩
  ·obtain ⟨r',g1,g2⟩:=h.hrows j row' e
   exact ⟨r',List.mem_cons_of_mem _ g1,g2⟩
 hpr:=fun j r' e=>by
  rcases List.mem_cons.1 e with e | e
  ·simp only [Prod.mk.injEq] at e
   obtain ⟨rfl,rfl⟩:=e
   refine ⟨Nat.le_refl _,by rw [look_cons,if_pos rfl]; simp,b,h2,?_⟩
   rw [Nat.sub_self]
   simp [h3]
  ·obtain ⟨g1,g2,b',g3,g4⟩:=h.hpr j r' e
   refine ⟨by omega,?_,b',g3,?_⟩
   ·rw [look_cons,if_neg (by omega)]; exact g2
   ·rw [show j - m=(j - (m+1))+1 by omega]
    simpa using g4
theorem argM_one {x0:X} {s0:Sit} (hG:Fit B c) (h:RelW B s x a w) (h0:RelW B s0 x0 a w) {m:Nat} {p:PS} {l:List PS} {o:Operand} {os:List Operand} {pr:List (Nat×Nat)} {K:den p.e→Option α} {q:α}
 (hp:mutPr c x m (p :: l) (o :: os)=some pr) (he:argMK c x0 x p o K=some q) :
 ∃ d1 pr',K d1=some q∧mutPr c x (m+1) l os=some pr'∧∀ n Ds rows,MArg w s s0 a (m+1) (mutJs (m+1) l) n os pr' Ds rows→MArg w s s0 a m (mutJs m (p :: l)) (n+1) (o :: os) pr (mparD m p d1 :: Ds) (app (mrow m p d1) rows):=by
 unfold mutPr at hp
 unfold argMK at he
 simp only at hp
 cases hm:isMut p with
 | true =>
  rw [hm] at hp he
  simp only at hp he
  obtain ⟨r,h1,h2⟩:=Option.bind_eq_some_iff.mp hp
  obtain ⟨pr',h3,rfl⟩:=Option.map_eq_some_iff.mp h2
  rw [h1,Option.bind_some] at he
  obtain ⟨d1,h4,h5⟩:=Option.bind_eq_some_iff.mp he
  obtain ⟨d0,h6,h7⟩:=Option.bind_eq_some_iff.mp h1
  obtain ⟨sz,rfl⟩:=ptRoot_some h7
  obtain ⟨g1,b,g2⟩:=mdat_sound h h4
  have hv:=evalD_sound hG h h6
  have hev:a.eval o = .pointer (some ⟨b,0,none⟩):=by
   generalize a.eval o=v at hv
   cases hv with
   | v _ _ hv=>cases hv with
    | c _ _ hv=>cases hv with
     | pt _ _ _ _ _ z b' hΦ hb =>
      rw [g2,Option.some.injEq] at hΦ
      subst hΦ
      simp only [blkOf,Option.some.injEq] at hb
      subst hb
      simp [offOf]
  refine ⟨d1,pr',h5,h3,fun n Ds rows hM=>?_⟩
  have:=hM.push (o:=o) g1 g2 hev
  simp only [mutJs,hm,mparD,mrow,app]
  exact this
 | false =>
  rw [hm] at hp he
  simp only at hp he
  obtain ⟨d1,h5,h6⟩:=arg_sound hG h0 he
  refine ⟨d1,pr,h5,hp,fun n Ds rows hM=>?_⟩
  have:=hM.skip (o:=o) h6
  simp only [mutJs,hm,mparD,mrow,app]
  exact this
theorem argsM_sound {x0:X} {s0:Sit} (hG:Fit B c) (h:RelW B s x a w) (h0:RelW B s0 x0 a w):∀ (l:List PS) {m:Nat} {os:List Operand} {pr:List (Nat×Nat)} {K:den (argTy l)→Option α} {q:α},
 mutPr c x m l os=some pr→argsMK c x0 x l os K=some q→∃ d,K d=some q∧MArg w s s0 a m (mutJs m l) l.length os pr (mparsD m l d) (mrows m l d)
 | [],m,os,pr,K,q,hp,he=>by
  cases os with
  | cons=>cases he
  | nil =>
   simp only [mutPr,Option.some.injEq] at hp
   subst hp
   exact ⟨(),he,rfl,rfl,fun j D e=>by simp [mparsD] at e,fun j row e=>by simp [mrows,look] at e,fun j r e=>by simp at e⟩
 | [p],m,os,pr,K,q,hp,he=>by
  obtain ⟨o,h1,he⟩:=Option.bind_eq_some_iff.mp he
  have h1:=one?_some h1
  subst h1
  obtain ⟨d1,pr',k1,k2,k3⟩:=argM_one hG h h0 hp he
  simp only [mutPr,Option.some.injEq] at k2
  subst k2
  have:=k3 0 [] [] ⟨rfl,rfl,fun j D e=>by simp at e,fun j row e=>by simp [look] at e,fun j r e=>by simp at e⟩
  refine ⟨d1,k1,?_⟩
  rw [app_eq,List.append_nil] at this
  exact this
 | p :: q' :: l,m,os,pr,K,q,hp,he=>by
  cases os with
  | nil=>cases he
  | cons o os =>
   obtain ⟨d1,pr',k1,k2,k3⟩:=argM_one (K:=fun d=>argsMK c x0 x (q' :: l) os fun e=>K (d,e)) hG h h0 hp he
   obtain ⟨e,m1,m2⟩:=argsM_sound hG h h0 (q' :: l) k2 k1
   exact ⟨(d1,e),m1,k3 _ _ _ m2⟩
theorem mem_mapL {β γ:Type} {g:β→γ} {l:List β} {y:γ}:y∈mapL g l↔∃ x∈l,g x=y:=by rw [mapL_eq]; exact List.mem_map
theorem callM_sound (hG:Fit B c) (hnt:B.nt=nt) (h:RelW B s x a w) {f:FuncId} {F:Fn} (hF:SoundM c.P c.G f F.sg F.sem) {args:Array Operand} {k:Nat} {K:X→Option α} {q:α}
 (he:callMK c nt F x args.toList k K=some q) {Kp:Act→World→Prop} (hK:∀ x' s' v w',K x'=some q→RelW B s' x' (a.gput B k v) w'→Kp (a.gput B k v) w') :
 Calls c.P f (args.map a.eval) w fun e w'=>match e with
  | .returned v=>Kp (a.gput B k v) w'
  | _=>False:=by
 unfold callMK at he
 obtain ⟨pr,hpr,he⟩:=Option.bind_eq_some_iff.mp he
 generalize hrs:mapL Prod.snd pr=rs at he
 unfold callRsK at he
 split at he
 rotate_left
 ·cases he
 rename_i hb
 simp only [Bool.and_eq_true,Bool.not_eq_true'] at hb
 obtain ⟨b1,b2,b3⟩:=hb
 have b3:k∉rs:=fun e=>by rw [(mem_iff _ _).2 e] at b3; cases b3
 have hnd:=noDup_spec b1
 have h0:=h.hide b2
 obtain ⟨d,he1,hM⟩:=argsM_sound hG h h0 F.sg.ps hpr he
 obtain ⟨r,h5,he2⟩:=Option.bind_eq_some_iff.mp he1
 obtain ⟨x1,h7,he3⟩:=Option.bind_eq_some_iff.mp he2
 -- who is called sees
 have hfn:∀ j r r',(j,r)∈pr→(j,r')∈pr→r=r':=by
  have hjs:(mapL Prod.fst pr).Nodup:=by
   rw [hM.hjs]
   have key:∀ (l:List PS) (m:Nat),(mutJs m l).Nodup∧∀ j∈mutJs m l,m≤j:=by
    intro l
    induction l with
    | nil=>intro m; exact ⟨List.nodup_nil,fun j hj=>by simp [mutJs] at hj⟩
    | cons p l ih =>
     intro m
     obtain ⟨i1,i2⟩:=ih (m+1)
     unfold mutJs
     split
     ·refine ⟨List.nodup_cons.2 ⟨fun e=>by have:=i2 m e; omega,i1⟩,fun j hj=>?_⟩
      rcases List.mem_cons.1 hj with e | e
      ·omega
      ·have:=i2 j e; omega
     ·exact ⟨i1,fun j hj=>by have:=i2 j hj; omega⟩
   exact (key _ 0).1
  intro j r r' h1 h2
  rw [mapL_eq] at hjs
  have key:∀ (l:List (Nat×Nat)),(l.map Prod.fst).Nodup→(j,r)∈l→(j,r')∈l→r=r':=by
   intro l
   induction l with
   | nil=>intro _ h; simp at h
   | cons e l ih =>
    intro hnd h1 h2
    rw [List.map_cons,List.nodup_cons] at hnd
    rcases List.mem_cons.1 h1 with e1 | e1 <;> rcases List.mem_cons.1 h2 with e2 | e2
    ·rw [← e1] at e2; simp only [Prod.mk.injEq] at e2; exact e2.2.symm
    ·exact absurd (List.mem_map.2 ⟨_,e2,by rw [← e1]⟩) hnd.1
    ·exact absurd (List.mem_map.2 ⟨_,e1,by rw [← e2]⟩) hnd.1
    ·exact ih hnd.2 e1 e2
  exact key pr hjs h1 h2
 have hfn':∀ j j' r,(j,r)∈pr→(j',r)∈pr→j=j':=by
  intro j j' r h1 h2
  rw [← hrs,mapL_eq] at hnd
  have key:∀ (l:List (Nat×Nat)),(l.map Prod.snd).Nodup→(j,r)∈l→(j',r)∈l→j=j':=by
   intro l
   induction l with
   | nil=>intro _ h; simp at h
   | cons e l ih =>
    intro hnd h1 h2
    rw [List.map_cons,List.nodup_cons] at hnd
    rcases List.mem_cons.1 h1 with e1 | e1 <;> rcases List.mem_cons.1 h2 with e2 | e2
    ·rw [← e1] at e2; simp only [Prod.mk.injEq] at e2; exact e2.1.symm
    ·exact absurd (List.mem_map.2 ⟨_,e2,by rw [← e1]⟩) hnd.1
    ·exact absurd (List.mem_map.2 ⟨_,e1,by rw [← e2]⟩) hnd.1
    ·exact ih hnd.2 e1 e2
  exact key pr hnd h1 h2
 let sc:Sit:={ S:=lent (hideS s (x.hide rs).roots),Φ:=fun j=>match look pr j with | some r=>s.Φ r | none=>noLay,F:=s.F }
 have hin:∀ j r,(j,r)∈pr→look pr j=some r:=by
  intro j r hm
  have key:∀ (l:List (Nat×Nat)),(j,r)∈l→∃ r',look l j=some r'∧(j,r')∈l:=by
   intro l
   induction l with
   | nil=>intro h; simp at h
   | cons e l ih =>
    intro h
    obtain ⟨j0,r0⟩:=e
    rw [look_cons]
    by_cases e1:j=j0
    ·subst e1; exact ⟨r0,by rw [if_pos rfl],List.mem_cons_self⟩
    ·rcases List.mem_cons.1 h with e2 | e2
     ·simp only [Prod.mk.injEq] at e2; exact absurd e2.1 e1
     ·obtain ⟨r',g1,g2⟩:=ih e2
      exact ⟨r',by rw [if_neg e1]; exact g1,List.mem_cons_of_mem _ g2⟩
  obtain ⟨r',g1,g2⟩:=key pr hm
  rw [g1,hfn j r r' hm g2]
 have hlk:∀ j r,look pr j=some r→(j,r)∈pr:=by
  intro j r
  have key:∀ (l:List (Nat×Nat)),look l j=some r→(j,r)∈l:=by
   intro l
   induction l with
   | nil=>intro h; cases h
   | cons e l ih =>
    obtain ⟨j0,r0⟩:=e
    intro h
    rw [look_cons] at h
    split at h
    ·rename_i e1; simp only [Option.some.injEq] at h; subst e1 h; exact List.mem_cons_self
    ·exact List.mem_cons_of_mem _ (ih h)
  exact key pr
 have hrsm:∀ j r,(j,r)∈pr→r∈rs:=fun j r hm=>by rw [← hrs]; exact mem_mapL.2 ⟨_,hm,rfl⟩
 have hscΦ:∀ j p z,sc.Φ j p=some z→∃ r,(j,r)∈pr∧s.Φ r p=some z:=by
  intro j p z hz
  have hz:(match look pr j with | some r=>s.Φ r | none=>noLay) p=some z:=hz
  cases hr:look pr j with
  | some r=>rw [hr] at hz; exact ⟨r,hlk j r hr,hz⟩
  | none=>rw [hr] at hz; cases hz
 have hscin:∀ j r,(j,r)∈pr→sc.Φ j=s.Φ r:=fun j r hm=>by simp only [sc,hin j r hm]
 have hdis:∀ r p y,(hideS s (x.hide rs).roots).Φ r p=some y→r∉rs∧s.Φ r p=some y:=by
  intro r p y hy
  obtain ⟨g1,g2⟩:=hide_some hy
  refine ⟨fun e=>?_,g2⟩
  rw [look_hide,if_pos e] at g1; cases g1
 have hO:∀ b,Handed sc b→(∀ f,¬ (hideS s (x.hide rs).roots).S f b)∧(∀ r p y,(hideS s (x.hide rs).roots).Φ r p=some y→blkOf y≠some b)∧(B.O0 b∨B.w0.heap.size≤b):=by
  rintro b ⟨j,p,y,e1,e2⟩
  obtain ⟨r,g1,g2⟩:=hscΦ j p y e1
  have g3:=h.own r p y b g2 e2
  refine ⟨g3.1,fun r' p' y' f1 f2=>?_,g3.2.2⟩
  obtain ⟨f3,f4⟩:=hdis r' p' y' f1
  obtain ⟨rfl,-⟩:=h.inj _ _ _ _ _ _ _ g2 e2 f4 f2
  exact f3 (hrsm j r g1)
 have hgiven:Given c.G w sc (mrows 0 F.sg.ps d):={
  rootn:=fun j hj=>by
   show (match look pr j with | some r=>s.Φ r | none=>noLay)=noLay
   cases hr:look pr j with
   | some r=>exact absurd hj (hM.hpr j r (hlk j r hr)).2.1
   | none=>rfl
  roots:=fun j row hj=>by
   obtain ⟨r,g1,y,g2⟩:=hM.hrows j row hj
   exact ⟨y,by rw [hscin j r g1]; exact g2.mono (fun _ _ _=>rfl) (fun f b hS=>.inl hS) (fun _ _ _ _ _=>rfl)⟩
  inj:=fun j p y j' p' y' b e1 e2 e3 e4=>by
   obtain ⟨r,g1,g2⟩:=hscΦ j p y e1
   obtain ⟨r',g3,g4⟩:=hscΦ j' p' y' e3
   obtain ⟨rfl,hp⟩:=h.inj _ _ _ _ _ _ _ g2 e2 g4 e4
   exact ⟨hfn' j j' r g1 g3,hp⟩
  own:=fun j p y b e1 e2=>by
   obtain ⟨r,g1,g2⟩:=hscΦ j p y e1
   have g3:=h.own r p y b g2 e2
   refine ⟨fun f hS=>?_,g3.2.1⟩
   rcases hS with hS | ⟨-,r',p',y',f1,f2⟩
   ·exact g3.1 f hS
   ·exact (hO b ⟨j,p,y,e1,e2⟩).2.1 r' p' y' f1 f2
  slt:=fun f b hS=>by
   rcases hS with hS | ⟨_,r,p,y,e1,e2⟩
   ·exact h.slt f b hS
   ·exact (h.own r p y b (hide_some e1).2 e2).2.1
  sown:=fun b hS=>by
   rcases hS with hS | ⟨e,_⟩
   ·exact h.sown b hS
   ·cases e
  srb:=lent_rb h0
  glob:=fun g t hg=>(h.glob g t (by rw [hG.g]; exact hg)).mono (fun _ _ _=>rfl) (fun f b hS=>.inl hS) }
 have hcall:=hF w sc (args.toList.map a.eval) d r hgiven (by simpa using hM.len) (fun j D e=>by
  obtain ⟨v,g1,g2⟩:=hM.env j D e
  exact ⟨v,g1,g2 sc rfl rfl hscin⟩) h5
 have harr:(args.toList.map a.eval).toArray=args.map a.eval:=by apply Array.ext'; simp
 rw [harr] at hcall
 refine hcall.mono (fun e w' he=>?_)
 obtain ⟨v,ro,φ,rfl,hl,hid,hrep⟩:=he
 obtain ⟨s',g1,g2,g3⟩:=h0.calledM (sc:=sc) rfl hO hl h7
 have hrep':=hrep { s' with S:=roS ro } k rfl g2
 obtain ⟨x2,k1,k2⟩:=put_sound hnt g1 he3 (hrep'.mono (s':=s') (fun _ _ _=>rfl) g3 rfl (fun _ _=>rfl))
 -- the values of the boxes
 have hus:∀ (i j r':Nat),pr[i]?=some (j,r')→∃ b,s.Φ r' [(0,0)]=some (.pointer (some ⟨b,0,none⟩))∧φ [(0,offM F.sg+i)]=some (.pointer (some ⟨b,0,none⟩)):=by
  intro i j r' hi
  obtain ⟨-,-,b,f1,f2⟩:=hM.hpr j r' (List.mem_of_getElem? hi)
  have hj:(mutJs 0 F.sg.ps)[i]?=some j:=by rw [← hM.hjs,mapL_eq,List.getElem?_map,hi]; rfl
  obtain ⟨u,f3,f4⟩:=hid i j hj
  rw [Nat.sub_zero,f3,Option.some.injEq] at f2
  exact ⟨b,f1,by rw [f4,f2]⟩
 let us:List Value:=pr.map fun e=>((s.Φ e.2 [(0,0)]).getD .nilIface)
 obtain ⟨s2,x3,m1,m2,m3,-⟩:=giveBack_sound (k:=k) rs us k2 hnd b3 (by rw [← hrs,mapL_eq]; simp [us]) (fun i u hi=>by
  simp only [us,List.getElem?_map] at hi
  obtain ⟨⟨j,r'⟩,e1,rfl⟩:=Option.map_eq_some_iff.mp hi
  obtain ⟨b,f1,f2⟩:=hus i j r' e1
  simp only [f1,Option.getD_some]
  have:=RepC.pt (w:=w') (s:=s') k [(0,offM F.sg+i)] 0 0 0 (.pointer (some ⟨b,0,none⟩)) b (by rw [g2]; exact f2) rfl
  simpa [offOf] using this) k1
 refine hK _ s2 v w' m1 { m2 with
  env:=fun t dt ht=>by
   have ht:look (app (ptsE x.env rs k x.env) x3.env) t=some dt:=ht
   rw [look_app] at ht
   cases hd':look (ptsE x.env rs k x.env) t with
   | some d' =>
    rw [hd'] at ht
    simp only [Option.some.injEq] at ht
    subst ht
    obtain ⟨f1,f2,r',i,i',sz,rfl,f3⟩:=ptsE_some hd'
    obtain ⟨u,f4,f5⟩:=h.env t _ f1
    refine ⟨u,by rw [tv_put_ne (by rw [hnt]; exact putK_in he3) f2]; exact f4,?_⟩
    rw [← hrs] at f3
    obtain ⟨⟨j,r1⟩,f6,rfl⟩:=mem_mapL.1 f3
    obtain ⟨n,hn⟩:=List.getElem?_of_mem f6
    obtain ⟨b,f7,f8⟩:=hus n j r1 hn
    obtain ⟨b',f9,f10⟩:=m3 n r1 (.pointer (some ⟨b,0,none⟩)) (by rw [← hrs,mapL_eq,List.getElem?_map,hn]; rfl) (by simp only [us,List.getElem?_map,hn,Option.map_some]; rw [f7]; rfl)
    simp only [Value.pointer.injEq,Option.some.injEq,Addr.mk.injEq,and_true] at f9
    subst f9
    cases f5 with
    | v _ _ f5=>cases f5 with
     | c _ _ f5=>cases f5 with
      | pt _ _ _ _ _ z b2 hΦ hb2 =>
       simp only at hΦ
       rw [f7,Option.some.injEq] at hΦ
       subst hΦ
       simp only [blkOf,Option.some.injEq] at hb2
       subst hb2
       have:=f10 i i' sz
       refine .v _ _ (.c _ _ ?_)
       simpa [offOf] using this
   | none=>rw [hd'] at ht; exact m2.env t dt ht }
theorem callD_sound' (hG:Fit B c) (hnt:B.nt=nt) (h:RelW B s x a w) {f:FuncId} {k:Nat} {K:X→Option α} {q:α} {args:Array Operand} {b1 b2:Bool} {f1 f2:Fl} {e e':Ty} {p:PS} {l:List PS}
 {sem:den (argTy (⟨b1,f1,.sl e⟩ :: p :: l))→Option (den (resTy [⟨b2,f2,.sl e'⟩]))} (hF:SoundD c.P f ⟨⟨b1,f1,.sl e⟩ :: p :: l,[⟨b2,f2,.sl e'⟩]⟩ sem) (he:callDK c nt x args.toList k K ⟨⟨b1,f1,.sl e⟩ :: p :: l,[⟨b2,f2,.sl e'⟩]⟩ sem=some q)
 {Kp:Act→World→Prop} (hK:∀ x' s' v w',K x'=some q→RelW B s' x' (a.gput B k v) w'→Kp (a.gput B k v) w') :
 Calls c.P f (args.map a.eval) w fun e w'=>match e with
  | .returned v=>Kp (a.gput B k v) w'
  | _=>False:=by
 obtain ⟨os0,hos0⟩:∃ l,l=args.toList:=⟨_,rfl⟩
 unfold callDK at he
 rw [← hos0] at he
 cases os0 with
 | nil=>cases he
 | cons o os =>
  obtain ⟨d0,h1,he⟩:=Option.bind_eq_some_iff.mp he
  obtain ⟨y,h2,he1⟩:=Option.bind_eq_some_iff.mp he
  have hr:=evalD_sound hG h h1
  have hy':d0 = .v (.c y):=by unfold D.one at h2; split at h2 <;> cases h2; rfl
  subst hy'
  generalize hv:a.eval o=v at hr
  have hrc:RepC w s y v:=by cases hr with | v _ _ hr=>cases hr with | c _ _ hr=>exact hr
  obtain ⟨t,x1,s1,ψ,hK1,tc⟩:=takeC_sound h hrc he1
  split at hK1
  rotate_left
  ·cases hK1
  rename_i e1 xs0
  obtain ⟨xs,h3,hK2⟩:=Option.bind_eq_some_iff.mp hK1
  obtain ⟨e4,rfl⟩:=cast?_some h3
  cases e4
  obtain ⟨d,h4,h5,h6⟩:=args_sound hG tc.rel (p :: l) hK2
  obtain ⟨r,h7,h8⟩:=Option.bind_eq_some_iff.mp h4
  have hlt:∀ f b,(lentSit s1).S f b→b<w.heap.size:=fun f b hS=>by
   rcases hS with hS | ⟨_,r,p,y,e1,e2⟩
   ·exact tc.rel.slt f b hS
   ·exact (tc.rel.own r p y b e1 e2).2.1
  have hrep:=tc.rep
  rw [← tc.S] at hrep
  have hcall:=hF w s1.S (lentSit s1) v ψ (os.map a.eval) xs0 d r hrep (slTop hrep) tc.out.inj tc.rel.sown tc.rel.srb (fun b hS=>by rcases hS with hS | ⟨e,_⟩; exact hS; cases e) (fun q y b e1 e2=>⟨(tc.out.own q y b e1 e2).1,fun f hS=>by
   rcases hS with hS | ⟨_,r,p,z,e3,e4⟩
   ·exact (tc.out.own q y b e1 e2).1 f hS
   ·exact tc.out.out q y b e1 e2 r p z e3 e4,(tc.out.own q y b e1 e2).2.1⟩) (fun f b hS=>.inl hS) hlt (by simpa using h5) h6 h7
  have harr:(v :: os.map a.eval).toArray=args.map a.eval:=by
   apply Array.ext'
   rw [← hv,Array.toList_map,← hos0]; rfl
  rw [harr] at hcall
  refine hcall.mono (fun ex w' he=>?_)
  obtain ⟨v',ψ',rfl,hl⟩:=he
  have h9:=tc.rel.worldO (w':=w') (O:=fun b=>∃ q y,ψ q=some y∧blkOf y=some b) (fun b ⟨q,y,e1,e2⟩=>⟨(tc.out.own q y b e1 e2).1,tc.out.out q y b e1 e2,(tc.out.own q y b e1 e2).2.2⟩)
   (fun b hb hn=>hl.kept b hb (fun q y e1 e2=>hn ⟨q,y,e1,e2⟩)) hl.size hl.os hl.tape hl.output
  have hout:OwnOut B s1 w' ψ':=⟨hl.inj,fun q y b e1 e2=>by
   obtain ⟨g1,g2⟩:=hl.own q y b e1 e2
   rcases g2 with g2 | ⟨q0,y0,g3,g4⟩
   ·exact ⟨fun f hS=>by have:=tc.rel.slt f b hS; omega,g1,.inr (Nat.le_trans tc.rel.grow g2)⟩
   ·have:=tc.out.own q0 y0 b g3 g4
    exact ⟨this.1,g1,this.2.2⟩,
   fun q y b e1 e2 r p z e3 e4=>by
    obtain ⟨g1,g2⟩:=hl.own q y b e1 e2
    rcases g2 with g2 | ⟨q0,y0,g3,g4⟩
    ·have:=(tc.rel.own r p z b e3 e4).2.1; omega
    ·exact tc.out.out q0 y0 b g3 g4 r p z e3 e4⟩
  obtain ⟨x',s',k1,k2⟩:=new_sound (v:=v') hnt h9 h8 hl.rep hout (fun s' _ hΦ=>.own k [(0,0)] e' v' (by rw [hΦ []]; exact hl.top))
  exact hK x' s' v' w' k1 k2
theorem callD_sound (hG:Fit B c) (hnt:B.nt=nt) (h:RelW B s x a w) {f:FuncId} {k:Nat} {K:X→Option α} {q:α} {args:Array Operand}
 (sg:Sig) (sem:den (argTy sg.ps)→Option (den (resTy sg.rs))) (hF:SoundD c.P f sg sem) (he:callDK c nt x args.toList k K sg sem=some q)
 {Kp:Act→World→Prop} (hK:∀ x' s' v w',K x'=some q→RelW B s' x' (a.gput B k v) w'→Kp (a.gput B k v) w') :
 Calls c.P f (args.map a.eval) w fun e w'=>match e with
  | .returned v=>Kp (a.gput B k v) w'
  | _=>False:=by
 rcases sg with ⟨ps,rs⟩
 rcases ps with _ | ⟨⟨b1,f1,e⟩,_ | ⟨p,l⟩⟩
 ·exact hF.elim
 ·cases e <;> exact hF.elim
 ·rcases rs with _ | ⟨⟨b2,f2,e'⟩,_ | ⟨_,_⟩⟩
  ·cases e <;> exact hF.elim
  ·cases e with
   | sl e =>
    cases e' with
    | sl e'=>exact callD_sound' hG hnt h hF he hK
    | _=>exact hF.elim
   | _=>exact hF.elim
  ·cases e with
   | sl e=>cases e' <;> exact hF.elim
   | _=>exact hF.elim
theorem callT_sound' (hG:Fit B c) (hnt:B.nt=nt) (h:RelW B s x a w) {f:FuncId} {k:Nat} {K:X→Option α} {q:α} {args:Array Operand} {b1 b2:Bool} {f1 f2:Fl} {t:Nat×Nat}
 {sem:den (argTy [⟨b1,f1,.bld t⟩])→Option (den (resTy [⟨b2,f2,.str⟩]))} (hF:SoundT c.P f ⟨[⟨b1,f1,.bld t⟩],[⟨b2,f2,.str⟩]⟩ sem) (he:callTK c nt x args.toList k K ⟨[⟨b1,f1,.bld t⟩],[⟨b2,f2,.str⟩]⟩ sem=some q)
 {Kp:Act→World→Prop} (hK:∀ x' s' v w',K x'=some q→RelW B s' x' (a.gput B k v) w'→Kp (a.gput B k v) w') :
 Calls c.P f (args.map a.eval) w fun e w'=>match e with
  | .returned v=>Kp (a.gput B k v) w'
  | _=>False:=by
 obtain ⟨os0,hos0⟩:∃ l,l=args.toList:=⟨_,rfl⟩
 unfold callTK at he
 rw [← hos0] at he
 match os0,hos0,he with
 | [],_,he=>cases he
 | _ :: _ :: _,_,he=>cases he
 | [o],hos0,he =>
  obtain ⟨d0,h1,he⟩:=Option.bind_eq_some_iff.mp he
  obtain ⟨y,h2,he1⟩:=Option.bind_eq_some_iff.mp he
  have hr:=evalD_sound hG h h1
  have hy':d0 = .v (.c y):=by unfold D.one at h2; split at h2 <;> cases h2; rfl
  subst hy'
  generalize hv:a.eval o=v at hr
  have hrc:RepC w s y v:=by cases hr with | v _ _ hr=>cases hr with | c _ _ hr=>exact hr
  obtain ⟨u,x1,s1,ψ,hK1,tc⟩:=takeC_sound h hrc he1
  obtain ⟨⟨d,rest⟩,h3,hK2⟩:=Option.bind_eq_some_iff.mp hK1
  have h3:=pack_some .own (.bld t) h3
  obtain ⟨rfl,rfl⟩:u = .bld t d∧rest=[]:=by
   have h3:[u] = .bld t d :: rest:=h3
   simp only [List.cons.injEq] at h3
   exact ⟨h3.1,h3.2.symm⟩
  obtain ⟨r,h7,h8⟩:=Option.bind_eq_some_iff.mp hK2
  have hrep:=tc.rep
  rw [← tc.S] at hrep
  have hcall:=hF w s1.S v ψ d r hrep (bld_lay hrep).1 tc.out.inj (fun q y b e1 e2=>⟨(tc.out.own q y b e1 e2).1,(tc.out.own q y b e1 e2).2.1⟩) h7
  have harr : #[v]=args.map a.eval:=by
   apply Array.ext'
   rw [← hv,Array.toList_map,← hos0]; rfl
  rw [harr] at hcall
  refine hcall.mono (fun ex w' he=>?_)
  obtain ⟨rfl,hl⟩:=he
  have h9:=tc.rel.worldO (w':=w') (O:=fun b=>∃ q y,ψ q=some y∧blkOf y=some b) (fun b ⟨q,y,e1,e2⟩=>⟨(tc.out.own q y b e1 e2).1,tc.out.out q y b e1 e2,(tc.out.own q y b e1 e2).2.2⟩)
   (fun b hb hn=>hl.kept b hb (fun q y e1 e2=>hn ⟨q,y,e1,e2⟩)) hl.size hl.os hl.tape hl.output
  obtain ⟨x',k1,k2⟩:=put_sound (v:=.string ⟨⟨r⟩⟩) hnt h9 h8 (.v _ _ (.c _ _ (.k _ _ (.v _ rfl))))
  exact hK x' s1 _ w' k1 k2
theorem callT_sound (hG:Fit B c) (hnt:B.nt=nt) (h:RelW B s x a w) {f:FuncId} {k:Nat} {K:X→Option α} {q:α} {args:Array Operand}
 (sg:Sig) (sem:den (argTy sg.ps)→Option (den (resTy sg.rs))) (hF:SoundT c.P f sg sem) (he:callTK c nt x args.toList k K sg sem=some q)
 {Kp:Act→World→Prop} (hK:∀ x' s' v w',K x'=some q→RelW B s' x' (a.gput B k v) w'→Kp (a.gput B k v) w') :
 Calls c.P f (args.map a.eval) w fun e w'=>match e with
  | .returned v=>Kp (a.gput B k v) w'
  | _=>False:=by
 rcases sg with ⟨ps,rs⟩
 rcases ps with _ | ⟨⟨b1,f1,e⟩,_ | ⟨p,l⟩⟩
 ·exact hF.elim
 ·rcases rs with _ | ⟨⟨b2,f2,e'⟩,_ | ⟨_,_⟩⟩
  ·cases e <;> exact hF.elim
  ·cases e with
   | bld t =>
    cases e' with
    | str=>exact callT_sound' hG hnt h hF he hK
    | _=>exact hF.elim
   | _=>exact hF.elim
  ·cases e with
   | bld t=>cases e' <;> exact hF.elim
   | _=>exact hF.elim
 ·cases e <;> exact hF.elim
end
theorem SoundA.ofF {P:Program} {G:List (Nat×T)} {f:FuncId} {sg:Sig} {sem:den (argTy sg.ps)→Option (den (resTy sg.rs))} (h:SoundF P G f sg sem) (hm:kindOf sg = .plain):SoundA P G f sg sem:=by
 unfold SoundA; rw [hm]; exact h
theorem SoundA.ofM {P:Program} {G:List (Nat×T)} {f:FuncId} {sg:Sig} {sem:den (argTy sg.ps)→Option (den (resTy sg.rs))} (h:SoundM P G f sg sem) (hm:kindOf sg = .writes):SoundA P G f sg sem:=by
 unfold SoundA; rw [hm]; exact h
theorem SoundA.ofD {P:Program} {G:List (Nat×T)} {f:FuncId} {sg:Sig} {sem:den (argTy sg.ps)→Option (den (resTy sg.rs))} (h:SoundD P f sg sem) (hm:kindOf sg = .moves):SoundA P G f sg sem:=by
 unfold SoundA; rw [hm]; exact h
def Known (P:Program) (G:List (Nat×T)) (Δ:List (Nat×Fn)):Prop:=∀ f F,look Δ f=some F→SoundA P G f F.sg F.sem ∧
 ∃ fn,P.funcs[f]?=some fn∧fn.body.isSome=true∧(fn.name == "runtime.NumGoroutine")=false
theorem callA_sound {c:Ctx} {B:Base} {s:Sit} {x:X} {a:Act} {w:World} {nt:Fr} {Δ:List (Nat×Fn)} (hΔ:Known c.P c.G Δ) (hG:Fit B c) (hnt:B.nt=nt) (h:RelW B s x a w) {f:FuncId} {args:Array Operand} {k:Nat} {K:X→Option α} {q:α}
 (he:callAK c nt Δ x f args.toList k K=some q) {Kp:Act→World→Prop} (hK:∀ x' s' v w',K x'=some q→RelW B s' x' (a.gput B k v) w'→Kp (a.gput B k v) w') :
 Calls c.P f (args.map a.eval) w fun e w'=>match e with
  | .returned v=>Kp (a.gput B k v) w'
  | _=>False:=by
 unfold callAK at he
 obtain ⟨F,h1,he⟩:=Option.bind_eq_some_iff.mp he
 have hF:=(hΔ f F h1).1
 unfold SoundA at hF
 cases hm:kindOf F.sg with
 | writes=>rw [hm] at he hF; exact callM_sound hG hnt h hF he hK
 | moves=>rw [hm] at he hF; exact callD_sound hG hnt h F.sg F.sem hF he hK
 | takes=>rw [hm] at he hF; exact callT_sound hG hnt h F.sg F.sem hF he hK
 | plain=>rw [hm] at he hF; exact call_sound hG hnt h hF he hK
end Go.V
namespace Go.V
open Go.RowKit
variable {α:Type}
def byte8 (n:Int):UInt8:=UInt8.ofNat n.toNat
def bytesT (t:T):Option (List Int):=match t with
 | .sl _ e xs=>cast? (.sl e) (.sl (.int .u8)) xs
 | _=>none
def isByte:TyI→Bool
 | .int .u8=>true
 | _=>false
def isStrTy:TyI→Bool
 | .str=>true
 | _=>false
def strK (cx:Ctx) (nt:Fr) (x:X) (s t:TypeId) (p:Operand) (k:Nat) (K:X→Option α):Option α :=
 (look cx.Ty s).bind fun j=>(look cx.Ty t).bind fun i=>match j.d with
  | .sl e=>(look cx.Ty e).bind fun ei=>match and (isByte ei.d) (isStrTy i.d) with
   | true=>((evalD cx x p).bind D.one).bind fun y=>lendCK x .bo (some (.int .u8)) y fun tt=>(bytesT tt).bind fun xs=>putK nt x k (scal (.string ⟨⟨xs.map byte8⟩⟩)) K
   | false=>none
  | _=>none
open Classical in
noncomputable def bothR (f:Bool→Option α):Option α:=if f true=f false then f true else none
theorem bothR_some {f:Bool→Option α} {q:α} (h:bothR f=some q) (b:Bool):f b=some q:=by
 unfold bothR at h
 split at h
 ·rename_i e
  cases b with
  | true=>exact h
  | false=>rw [← e]; exact h
 ·cases h
theorem bothR_eq {f:Bool→Option α} {q:α} (h1:f true=some q) (h2:f false=some q):bothR f=some q:=by
 unfold bothR
 rw [if_pos (h1.trans h2.symm)]
 exact h1
noncomputable def nilR {β:Type} (xs:List β) (f:Bool→Option α):Option α:=match xs with
 | []=>bothR f
 | _ :: _=>f false
theorem nilR_eq {β:Type} {xs:List β} {f:Bool→Option α} {q:α} (h1:xs=[]→f true=some q) (h2:f false=some q):nilR xs f=some q:=by
 cases xs with
 | nil=>exact bothR_eq (h1 rfl) h2
 | cons=>exact h2
def xorN (neg b:Bool):Bool:=match neg with
 | true=>!b
 | false=>b
def nilCmp (o:Oper):Option (TypeId×(Operand×Bool)):=match o.op with
 | .binOp .eql t p (.const v) _=>match isNilS v with
  | true=>some (t,(p,false))
  | false=>none
 | .binOp .neq t p (.const v) _=>match isNilS v with
  | true=>some (t,(p,true))
  | false=>none
 | _=>none
noncomputable def nilK (cx:Ctx) (nt:Fr) (x:X) (t:TypeId) (p:Operand) (neg:Bool) (k:Nat) (K:X→Option α):Option α :=
 (look cx.Ty t).bind fun i=>match i.d with
  | .sl e=>(look cx.Ty e).bind fun ei=>((evalD cx x p).bind D.one).bind fun y=>lendCK x .bo (some ei.ty) y fun tt=>match tt with
   | .sl _ _ xs=>nilR xs fun b=>putK nt x k (scal (.bool (xorN neg b))) K
   | _=>none
  | _=>none
section
variable {c:Ctx} {B:Base} {s:Sit} {x:X} {a:Act} {w:World} {nt:Fr}
theorem D.one_is {d:D} {y:C} (h:d.one=some y):d = .v (.c y):=by
 unfold D.one at h
 split at h
 ·simp only [Option.some.injEq] at h; rw [h]
 ·cases h
theorem cellOf_of {d:D} {v:Value} {y:C} (hr:RepD w s d v) (h:d.one=some y):RepC w s y v:=by
 have:=D.one_is h
 subst this
 cases hr with
 | v _ _ hr=>cases hr with
  | c _ _ hr=>exact hr
theorem bytesT_some {t:T} {xs:List Int} (h:bytesT t=some xs):∃ f,t = .sl f (.int .u8) xs:=by
 cases t with
 | sl f e ys =>
  have h:cast? (.sl e) (.sl (.int .u8)) ys=some xs:=h
  obtain ⟨hee,hcast⟩:=cast?_some h
  cases hee
  have hcast:ys=xs:=hcast
  subst hcast
  exact ⟨f,rfl⟩
 | _=>cases h
theorem byte_cell {f:Fl} {xs:List Int} {i:Nat} (hi:i<xs.length):cellOf (rows f (.int .u8) xs) i 0=some (.v (.int .u8 (List.getD (α:=Int) xs i 0))):=by
 have:=cellOf_rows (f:=f) (e:=.int .u8) (xs:=xs) (i:=i) (j:=0)
 refine this.trans ?_
 show ((xs:List Int)[i]?).bind (fun x=>nth [T.v (.int .u8 x)] 0)=_
 rw [List.getElem?_eq_getElem hi]
 simp [nth,List.getD,List.getElem?_eq_getElem hi]
theorem nilR_some {β:Type} {xs:List β} {f:Bool→Option α} {q:α} (h:nilR xs f=some q) (b:Bool) (hb:xs≠[]→b=false):f b=some q:=by
 cases xs with
 | nil=>exact bothR_some h b
 | cons z zs=>rw [hb (by simp)]; exact h
theorem str_sound (hG:Fit B c) (hnt:B.nt=nt) (h:RelW B s x a w) {t1 t2:TypeId} {p:Operand} {k:Nat} {K:X→Option α} {q:α} (he:strK c nt x t1 t2 p k K=some q) :
 ∃ x' v,K x'=some q∧(convert t1 t2 (a.eval p)).run c.P w = .ok v w∧RelW B s x' (a.gput B k v) w:=by
 unfold strK at he
 obtain ⟨j,hj,he1⟩:=Option.bind_eq_some_iff.mp he
 obtain ⟨i,hi,he2⟩:=Option.bind_eq_some_iff.mp he1
 clear he he1
 have hokj:=c.hTy t1 j hj
 have hoki:=c.hTy t2 i hi
 split at he2
 rotate_left
 ·cases he2
 rename_i e hje
 obtain ⟨ei,hei,he3⟩:=Option.bind_eq_some_iff.mp he2
 clear he2
 have hoke:=c.hTy e ei hei
 split at he3
 rotate_left
 ·cases he3
 rename_i hb
 simp only [Bool.and_eq_true] at hb
 obtain ⟨y,h1,he4⟩:=Option.bind_eq_some_iff.mp he3
 obtain ⟨d,h2,h3⟩:=Option.bind_eq_some_iff.mp h1
 clear he3
 have hv:=cellOf_of (evalD_sound hG h h2) h3
 obtain ⟨tt,he5,hr⟩:=lendC_sound h hv he4
 obtain ⟨xs,h4,he6⟩:=Option.bind_eq_some_iff.mp he5
 have us:∃ sd,c.P.underlying t1=some sd∧descI sd = .sl e:=by
  have:=hokj.under
  rw [hje] at this
  exact Option.map_eq_some_iff.mp this
 have ut:∃ sd,c.P.underlying t2=some sd∧descI sd=i.d:=Option.map_eq_some_iff.mp hoki.under
 have ue:∃ sd,c.P.underlying e=some sd∧descI sd=ei.d:=Option.map_eq_some_iff.mp hoke.under
 obtain ⟨d1,u1,u1'⟩:=us
 obtain ⟨d2,u2,u2'⟩:=ut
 obtain ⟨d3,u3,u3'⟩:=ue
 have e1:d1 = .slice e:=by cases d1 <;> simp [descI] at u1'; rw [u1']
 have e2:d2 = .string:=by
  have:=hb.2
  rw [← u2'] at this
  cases d2 <;> simp [descI,isStrTy] at this; rfl
 have e3:d3 = .int .u8:=by
  have:=hb.1
  rw [← u3'] at this
  cases d3 with
  | int k=>cases k <;> simp [descI,isByte] at this; rfl
  | _=>simp [descI,isByte] at this
 subst e1 e2 e3
 generalize a.eval p=v at hr
 have key:∃ v',(convert t1 t2 v).run c.P w = .ok v' w∧v' = .string ⟨⟨xs.map byte8⟩⟩:=by
  obtain ⟨f,rfl⟩:=bytesT_some h4
  cases hr with
  | nil _ _ ad cap =>
   cases ad with
   | none=>exact ⟨_,run_convert_bytes_nil w t1 e u1 u3 0 cap t2 u2,rfl⟩
   | some ad =>
    refine ⟨_,?_,rfl⟩
    rw [run_convert_bytes_string w t1 t2 e _ 0 cap u1 u3 u2,run_bytesToString w ad 0 cap [] (by simp [loadCells,loadCellsFrom])]
    rfl
  | sl _ _ _ b off cap vs hR hcap hc hr =>
   refine ⟨_,run_convert_bytes_arg w t1 e u1 u3 b off xs.length cap xs rfl (fun i hi=>?_) t2 u2,rfl⟩
   have ht:=byte_cell (f:=f) hi
   have g1:=hc i 0 _ ht
   have g2:=hr i 0 _ ht
   have hsz:Ty.size (.int .u8)=1:=rfl
   rw [hsz,Nat.mul_one,Nat.add_zero] at g1
   rw [g1]
   generalize vs i 0=z at g2
   cases g2 with
   | v _ _=>rfl
   | box _ _ _ hb'=>simp [T.shBox?] at hb'
  | box _ _ _ hb'=>simp [T.shBox?] at hb'
 obtain ⟨v',k1,rfl⟩:=key
 obtain ⟨x',k2,k3⟩:=put_sound hnt h he6 (scal_rep (.string ⟨⟨xs.map byte8⟩⟩) rfl)
 exact ⟨x',_,k2,k1,k3⟩
theorem nilCmp_some {o:Oper} {t:TypeId} {p:Operand} {neg:Bool} (h:nilCmp o=some (t,(p,neg))):∃ yt,o.op = .binOp (match neg with | true=>.neq | false=>.eql) t p (.const (.slice none 0 0)) yt:=by
 unfold nilCmp at h
 split at h
 ·rename_i t' p' v yt hop
  split at h
  ·rename_i hn
   simp only [Option.some.injEq,Prod.mk.injEq] at h
   obtain ⟨rfl,rfl,rfl⟩:=h
   exact ⟨yt,by rw [hop,isNilS_eq hn]⟩
  ·cases h
 ·rename_i t' p' v yt hop
  split at h
  ·rename_i hn
   simp only [Option.some.injEq,Prod.mk.injEq] at h
   obtain ⟨rfl,rfl,rfl⟩:=h
   exact ⟨yt,by rw [hop,isNilS_eq hn]⟩
  ·cases h
 ·cases h
theorem nil_sound (hG:Fit B c) (hnt:B.nt=nt) (h:RelW B s x a w) {o:Oper} {t:TypeId} {p:Operand} {neg:Bool} (ho:nilCmp o=some (t,(p,neg))) {k:Nat} {K:X→Option α} {q:α} (he:nilK c nt x t p neg k K=some q) :
 ∃ x' v,K x'=some q∧(execOp a.eval o).run c.P w = .ok (.value v) w∧RelW B s x' (a.gput B k v) w:=by
 unfold nilK at he
 obtain ⟨i,hi,he1⟩:=Option.bind_eq_some_iff.mp he
 clear he
 have hoki:=c.hTy t i hi
 split at he1
 rotate_left
 ·cases he1
 rename_i e hie
 obtain ⟨ei,hei,he2⟩:=Option.bind_eq_some_iff.mp he1
 obtain ⟨y,h1,he3⟩:=Option.bind_eq_some_iff.mp he2
 obtain ⟨d,h2,h3⟩:=Option.bind_eq_some_iff.mp h1
 clear he1 he2
 have hv:=cellOf_of (evalD_sound hG h h2) h3
 obtain ⟨tt,he4,hr⟩:=lendC_sound h hv he3
 obtain ⟨d1,u1,u1'⟩:∃ sd,c.P.underlying t=some sd∧descI sd = .sl e:=by
  have:=hoki.under
  rw [hie] at this
  exact Option.map_eq_some_iff.mp this
 have e1:d1 = .slice e:=by cases d1 <;> simp [descI] at u1'; rw [u1']
 subst e1
 obtain ⟨yt,hop⟩:=nilCmp_some ho
 split at he4
 rotate_left
 ·cases he4
 rename_i f e' xs
 -- the slice that it is
 obtain ⟨ad,n,cap,hval,hnn⟩:∃ ad n cap,a.eval p = .slice ad n cap∧(xs≠[]→ad≠none):=by
  generalize a.eval p=v at hr
  cases hr with
  | nil _ _ ad cap=>exact ⟨ad,0,cap,rfl,fun h=>absurd rfl h⟩
  | sl _ _ _ b off cap vs=>exact ⟨_,_,_,rfl,fun _ h=>by cases h⟩
  | box _ _ _ hb'=>simp [T.shBox?] at hb'
 have hcho:=nilR_some he4 ad.isNone (fun h=>by
  cases ad with
  | none=>exact absurd rfl (hnn h)
  | some _=>rfl)
 have hrun:(execOp a.eval o).run c.P w = .ok (.value (.bool (xorN neg ad.isNone))) w:=by
  have hce:a.eval (.const (.slice none 0 0)) = .slice none 0 0:=rfl
  cases neg with
  | false =>
   have e1:=run_equal_slice_nil (P:=c.P) w t e ad n cap u1
   have e2:binOp .eql t (.slice ad n cap) (.slice none 0 0)=(do pure (.bool (← Op.equal t (.slice ad n cap) (.slice none 0 0)))):=rfl
   simp only [execOp,hop,hval,hce,e2]
   simp [eqGuard,e1,xorN]
  | true =>
   have e1:=run_neq_slice_nil (P:=c.P) w t e ad n cap u1
   simp only [execOp,hop,hval,hce]
   simp [eqGuard,e1,xorN]
 obtain ⟨x',k2,k3⟩:=put_sound hnt h hcho (scal_rep (.bool _) rfl)
 exact ⟨x',_,k2,hrun,k3⟩
end
end Go.V
namespace Go.V
open Go.RowKit
variable {α:Type}
def isNilI:Value→Bool
 | .nilIface=>true
 | _=>false
theorem isNilI_eq {v:Value} (h:isNilI v=true):v = .nilIface:=by
 cases v <;> first | rfl | cases h
def ifcCmp (o:Oper):Option (TypeId×(Operand×Bool)):=match o.op with
 | .binOp .eql t p (.const v) _=>match isNilI v with
  | true=>some (t,(p,false))
  | false=>none
 | .binOp .neq t p (.const v) _=>match isNilI v with
  | true=>some (t,(p,true))
  | false=>none
 | _=>none
theorem ifcCmp_some {o:Oper} {t:TypeId} {p:Operand} {neg:Bool} (h:ifcCmp o=some (t,(p,neg))):∃ yt,o.op = .binOp (match neg with | true=>.neq | false=>.eql) t p (.const .nilIface) yt:=by
 unfold ifcCmp at h
 split at h
 ·rename_i t' p' v yt hop
  split at h
  ·rename_i hn
   simp only [Option.some.injEq,Prod.mk.injEq] at h
   obtain ⟨rfl,rfl,rfl⟩:=h
   exact ⟨yt,by rw [hop,isNilI_eq hn]⟩
  ·cases h
 ·rename_i t' p' v yt hop
  split at h
  ·rename_i hn
   simp only [Option.some.injEq,Prod.mk.injEq] at h
   obtain ⟨rfl,rfl,rfl⟩:=h
   exact ⟨yt,by rw [hop,isNilI_eq hn]⟩
  ·cases h
 ·cases h
def ifcK (cx:Ctx) (nt:Fr) (x:X) (t:TypeId) (p:Operand) (neg:Bool) (k:Nat) (K:X→Option α):Option α :=
 (look cx.Ty t).bind fun i=>match i.d with
  | .iface=>((evalD cx x p).bind D.one).bind fun y=>match y with
   | .k (.ifc b)=>putK nt x k (scal (.bool (xorN neg b))) K
   | _=>none
  | _=>none
section
variable {c:Ctx} {B:Base} {s:Sit} {x:X} {a:Act} {w:World} {nt:Fr}
theorem ifc_sound (hG:Fit B c) (hnt:B.nt=nt) (h:RelW B s x a w) {o:Oper} {t:TypeId} {p:Operand} {neg:Bool} (ho:ifcCmp o=some (t,(p,neg))) {k:Nat} {K:X→Option α} {q:α} (he:ifcK c nt x t p neg k K=some q) :
 ∃ x' v,K x'=some q∧(execOp a.eval o).run c.P w = .ok (.value v) w∧RelW B s x' (a.gput B k v) w:=by
 unfold ifcK at he
 obtain ⟨i,hi,he1⟩:=Option.bind_eq_some_iff.mp he
 clear he
 have hoki:=c.hTy t i hi
 split at he1
 rotate_left
 ·cases he1
 rename_i hie
 obtain ⟨y,h1,he3⟩:=Option.bind_eq_some_iff.mp he1
 obtain ⟨d,h2,h3⟩:=Option.bind_eq_some_iff.mp h1
 have hv:=cellOf_of (evalD_sound hG h h2) h3
 split at he3
 rotate_left
 ·cases he3
 rename_i b
 obtain ⟨d1,u1,u1'⟩:∃ sd,c.P.underlying t=some sd∧descI sd = .iface:=by
  have:=hoki.under
  rw [hie] at this
  exact Option.map_eq_some_iff.mp this
 have hif:c.P.isIface t=true:=by
  unfold Program.isIface
  rw [u1]
  cases d1 <;> simp [descI] at u1' <;> rfl
 obtain ⟨yt,hop⟩:=ifcCmp_some ho
 have hrun:(execOp a.eval o).run c.P w = .ok (.value (.bool (xorN neg b))) w:=by
  have hce:a.eval (.const .nilIface) = .nilIface:=rfl
  generalize hz:a.eval p=z at hv
  cases hv with
  | k _ _ hv=>cases hv with
  | box _ _ _ hb=>cases hb
  | ifcN =>
   cases neg with
   | false =>
    simp only [execOp,hop,hz,hce]
    simp [eqGuard_nil_constR,run_eql_nil_nil_at w t hif,xorN]
   | true =>
    simp only [execOp,hop,hz,hce]
    simp [eqGuard_nil_constR,run_neq_nil_nil_at w t hif,xorN]
  | ifcS u y =>
   cases neg with
   | false =>
    simp only [execOp,hop,hz,hce]
    simp [eqGuard_at_iface,run_eql_iface_nil w t hif,xorN]
   | true =>
    simp only [execOp,hop,hz,hce]
    simp [eqGuard_at_iface,run_neq_iface_nil w t hif,xorN]
 obtain ⟨x',k2,k3⟩:=put_sound hnt h he3 (scal_rep (.bool _) rfl)
 exact ⟨x',_,k2,hrun,k3⟩
end
end Go.V
