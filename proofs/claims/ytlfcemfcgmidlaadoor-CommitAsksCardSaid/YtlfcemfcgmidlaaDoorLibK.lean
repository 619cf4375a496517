import Derived.Test.YtlfcemfcgmidlaaDoorLibJ
import Derived.Carry
import Derived.ChangeArms
import Derived.ChangeSlices
import Derived.SizedLaws
import Derived.OpenShut
import Derived.ChangeCalls
import Derived.Handed
import Derived.LaidLaws
import Derived.MakeChecks
import Derived.LaidMore
import Derived.Stop.Joined
import Derived.HandedShaped
import Derived.Lib.AtoiAll
import Derived.Lib.ItoaNum
import Derived.Lib.Bytealg
import Derived.Lib.ConvBytes
import Derived.Lib.LaidTab
import Derived.Sort.Grow
import Derived.Deep.Draws
import Derived.Lib.UnsafeStr
namespace Go.V
open Go.RowKit
variable {α:Type}
def T.clean:T→Bool
 | .v _=>true
 | .dead=>true
 | .sl .own _ _=>true
 | .sl .ro _ _=>true
 | .pt .own _ _=>true
 | .pt .ro _ _=>true
 | .ifc _=>true
 | .bld _ _=>true
 | _=>false
theorem cells_clean {g:Fl} (hg:g≠.bo):∀ (e:Ty) (d:den e),∀ t∈cells g e d,t.clean=true:=by
 intro e
 induction e with
 | pair a b iha ihb =>
  intro d t ht
  simp only [cells,app_eq,List.mem_append] at ht
  rcases ht with ht | ht
  ·exact iha _ t ht
  ·exact ihb _ t ht
 | int | bool | str | rsl | ifc=>intro d t ht; simp only [cells,List.mem_singleton] at ht; subst ht; rfl
 | bld=>intro d t ht; simp only [cells,List.mem_singleton] at ht; subst ht; cases g <;> rfl
 | sl e=>intro d t ht; simp only [cells,List.mem_singleton] at ht; subst ht; cases g <;> first | rfl | exact absurd rfl hg
 | ptr e=>intro d t ht; simp only [cells,List.mem_singleton] at ht; subst ht; cases g <;> first | rfl | exact absurd rfl hg
 | _=>intro d t ht; simp [cells] at ht
theorem rows_clean {g:Fl} (hg:g≠.bo) {e:Ty} {xs:List (den e)} {i j:Nat} {t:T} (h:cellOf (rows g e xs) i j=some t):t.clean=true:=by
 rw [cellOf_rows] at h
 obtain ⟨d,_,h2⟩:=Option.bind_eq_some_iff.mp h
 rw [nth_eq] at h2
 exact cells_clean hg e d t (List.mem_of_getElem? h2)
section
variable {c:Ctx} {B:Base} {s:Sit} {x:X} {a:Act} {w:World} {nt:Fr}
theorem clean_rep {S:Fl→Nat→Prop} (hown:∀ b,¬ S .own b) {t:T} {v:Value} (h:RepR w S t v):t.clean=true→RepR w (roS (S .ro)) t v:=by
 induction h with
 | v x h1=>intro _; exact .v x h1
 | dead x=>intro _; exact .dead x
 | ifcN=>intro _; exact .ifcN
 | ifcS u y=>intro _; exact .ifcS u y
 | nil f e ad cap=>intro _; exact .nil f e ad cap
 | sl f e xs b off cap vs hR hcap hc hr ih =>
  intro hcl
  cases f with
  | own=>exact absurd hR (hown b)
  | bo=>cases hcl
  | ro=>exact .sl .ro e xs b off cap vs ⟨.inl rfl,hR⟩ hcap hc (fun i j t e'=>ih i j t e' (rows_clean (g:=.ro) (by decide) e'))
 | box t f cs hb b off vs hR hc hr ih =>
  intro hcl
  cases t with
  | pt f' e d =>
   cases f' with
   | own=>cases hb
   | bo=>cases hcl
   | ro =>
    simp only [T.shBox?,Option.some.injEq,Prod.mk.injEq] at hb
    obtain ⟨rfl,rfl⟩:=hb
    exact .box _ .ro _ rfl b off vs ⟨.inl rfl,hR⟩ hc (fun j t e'=>ih j t e' (cells_clean (g:=.ro) (by decide) e d t (List.mem_of_getElem? e')))
  | _=>first | (simp [T.shBox?] at hb; done) | cases hcl
 | ga e xs b off vs hR hw hc hr ih=>intro hcl; cases hcl
theorem clean_repO {S:Fl→Nat→Prop} (hown:∀ b,¬ S .own b) {t:T} {v:Value} {φ:Lay} (h:RepO w S t v φ):t.clean=true→RepO w (roS (S .ro)) t v φ:=by
 induction h with
 | sh t x h ht=>intro hcl; exact .sh t x (clean_rep hown h hcl) ht
 | nil e ad φ h0 hn=>intro _; exact .nil e ad φ h0 hn
 | sl e xs b off cap arr el vs φ hb hcap hsz hc hr h0 hn ih =>
  intro _
  exact .sl e xs b off cap arr el vs φ hb hcap hsz hc (fun i j t e'=>ih i j t e' (rows_clean (g:=.own) (by decide) e')) h0 hn
 | box t cs ht b arr el vs φ hb hsz hc hr h0 hn ih =>
  intro hcl
  cases t with
  | pt f' e d =>
   cases f' with
   | own =>
    simp only [T.box?,Option.some.injEq] at ht
    subst ht
    exact .box _ _ rfl b arr el vs φ hb hsz hc (fun j t e'=>ih j t e' (cells_clean (g:=.own) (by decide) e d t (List.mem_of_getElem? e'))) h0 hn
   | _=>simp [T.box?] at ht
  | _=>first | (simp [T.box?] at ht; done) | cases hcl
 | slo=>intro hcl; cases hcl
 | vr cs x vs φ hr h0 hn ih=>intro hcl; cases hcl
 | bld t0 bs b x0 x1 φ hb hx hr h0 h1 hn=>intro _; exact .bld t0 bs b x0 x1 φ hb hx hr h0 h1 hn
def resFrz:List RS→List (Option Ty)
 | []=>[]
 | r :: l=>app (frzOf r.g r.e) (resFrz l)
def resHints:List RS→List (Option Ty)
 | []=>[]
 | r :: l=>app (hintsOf r.e) (resHints l)
def packRs:(l:List RS)→List T→Option (den (resTy l))
 | [],ts=>match ts with
  | []=>some ()
  | _ :: _=>none
 | [r],ts=>packAll r.g r.e ts
 | r :: q :: l,ts=>(pack r.g r.e ts).bind fun p=>(packRs (q :: l) p.2).map fun e=>(p.1,e)
theorem packRs_some:∀ (l:List RS) {ts:List T} {d:den (resTy l)},packRs l ts=some d→ts=resRow l d
 | [],ts,d,h=>by
  cases ts with
  | nil=>rfl
  | cons=>cases h
 | [r],ts,d,h=>packAll_some h
 | r :: q :: l,ts,d,h=>by
  obtain ⟨⟨d1,ts'⟩,h1,h2⟩:=Option.bind_eq_some_iff.mp h
  obtain ⟨e,h3,h4⟩:=Option.map_eq_some_iff.mp h2
  cases h4
  have h5:=pack_some _ _ h1
  have h6:=packRs_some (q :: l) h3
  simp only at h6
  show ts=app (cells r.g r.e d1) (resRow (q :: l) e)
  rw [h5,h6,app_eq]
def resVarK (cx:Ctx) (x:X) (rv:ResultVar) (K:D→Option α):Option α:=match rv with
 | .tmp t=>(look x.env (cx.off+t)).bind K
 | .cell ad t=>(look x.env (cx.off+ad)).bind fun d=>loadK cx x t d K
def resCsK (cx:Ctx) (x:X):List ResultVar→List RS→(List C→Option α)→Option α
 | [],rs,K=>match rs with
  | []=>K []
  | _ :: _=>none
 | rv :: rvs,rs,K=>match rs with
  | []=>none
  | r :: rs=>resVarK cx x rv fun d=>(cellsOf r.agg d).bind fun ys=>match and (Nat.beq ys.length r.e.size) (match r.agg with | true=>true | false=>Nat.beq r.e.size 1) with
   | true=>resCsK cx x rvs rs fun zs=>K (app ys zs)
   | false=>none
def finK (cx:Ctx) (x:X) (rvs:List ResultVar) (rs:List RS):Option (den (resTy rs)) :=
 resCsK cx x rvs rs fun ys=>prepK (resFrz rs) [] ys x fun ys x1=>takeCsK (resHints rs) ys ys.length x1 fun ts _=>match allB T.clean ts with
  | true=>packRs rs ts
  | false=>none
theorem resVar_sound (hG:Fit B c) (h:RelW B s x a w) {rv:ResultVar} {K:D→Option α} {q:α} (he:resVarK c x rv K=some q):∃ d v,K d=some q∧(readVar a.tmps rv).run c.P w = .ok v w∧RepD w s d v:=by
 cases rv with
 | tmp t =>
  obtain ⟨d,h1,h2⟩:=Option.bind_eq_some_iff.mp he
  obtain ⟨v,g1,g2⟩:=h.env _ d h1
  rw [← hG.off,tv_local] at g1
  exact ⟨d,v,h2,by simp [readVar,g1],g2⟩
 | cell ad t =>
  obtain ⟨d0,h1,h2⟩:=Option.bind_eq_some_iff.mp he
  obtain ⟨v,g1,g2⟩:=h.env _ _ h1
  rw [← hG.off,tv_local] at g1
  obtain ⟨e,u,k1,k2,k3⟩:=load_sound h g2 h2
  refine ⟨e,u,k1,?_,k3⟩
  have hv:a.tmps.getD ad undef=v:=by simp [g1]
  simp only [readVar,hv]
  cases v with
  | pointer ad=>cases ad with
   | some ad=>rw [← k2]; rfl
   | none=>simp [Instr.loadAt,Instr.sureAddr] at k2
  | _=>simp [Instr.loadAt,Instr.sureAddr] at k2
def Shapes (us:List Value):Nat→List RS→List Value→Prop
 | _,[],L=>L=[]
 | off,r :: l,L=>∃ v L',L=v :: L'∧(match r.agg with
  | true=>∃ arr:Array Value,v = .agg arr∧arr.size=r.e.size∧∀ j,j<r.e.size→∃ u,arr[j]?=some u∧us[off+j]?=some u
  | false=>r.e.size=1∧us[off]?=some v)∧Shapes us (off+r.e.size) l L'
theorem Shapes.app {pre us:List Value}:∀ {l:List RS} {off:Nat} {L:List Value},Shapes us off l L→Shapes (pre++us) (pre.length+off) l L
 | [],off,L,h=>h
 | r :: l,off,L,h=>by
  obtain ⟨v,L',h1,h2,h3⟩:=h
  refine ⟨v,L',h1,?_,by have:=Shapes.app (pre:=pre) h3; rwa [← Nat.add_assoc] at this⟩
  have hget:∀ j,(pre++us)[pre.length+off+j]?=us[off+j]?:=fun j=>by
   rw [List.getElem?_append_right (by omega)]; congr 1; omega
  cases hagg:r.agg with
  | true =>
   rw [hagg] at h2
   obtain ⟨arr,g1,g2,g3⟩:=h2
   exact ⟨arr,g1,g2,fun j hj=>by obtain ⟨u,k1,k2⟩:=g3 j hj; exact ⟨u,k1,by rw [hget]; exact k2⟩⟩
  | false =>
   rw [hagg] at h2
   refine ⟨h2.1,?_⟩
   have:=hget 0
   rw [Nat.add_zero,Nat.add_zero] at this
   rw [this]; exact h2.2
theorem resCs_sound (hG:Fit B c) (h:RelW B s x a w):∀ (rvs:List ResultVar) (rs:List RS) {K:List C→Option α} {q:α},resCsK c x rvs rs K=some q →
 ∃ ys us L,K ys=some q∧us.length=ys.length∧(∀ (j:Nat) y,ys[j]?=some y→∃ u,us[j]?=some u∧RepC w s y u)∧ReadsTo c.P w a.tmps rvs L∧Shapes us 0 rs L
 | [],rs,K,q,he=>by
  cases rs with
  | nil=>exact ⟨[],[],[],he,rfl,fun j y e=>by simp at e,rfl,rfl⟩
  | cons=>cases he
 | rv :: rvs,[],K,q,he=>by cases he
 | rv :: rvs,r :: rs,K,q,he=>by
  obtain ⟨d,v,h1,h2,h3⟩:=resVar_sound hG h (K:=fun d=>(cellsOf r.agg d).bind fun ys=>match and (Nat.beq ys.length r.e.size) (match r.agg with | true=>true | false=>Nat.beq r.e.size 1) with
   | true=>resCsK c x rvs rs fun zs=>K (V.app ys zs)
   | false=>none) he
  obtain ⟨ys,h4,h5⟩:=Option.bind_eq_some_iff.mp h1
  split at h5
  rotate_left
  ·cases h5
  rename_i hb
  simp only [Bool.and_eq_true] at hb
  have hb1:=Nat.eq_of_beq_eq_true hb.1
  obtain ⟨zs,us,L,k1,k2,k3,k4,k5⟩:=resCs_sound hG h rvs rs h5
  have hcell:∃ us0:List Value,us0.length=ys.length∧(∀ (j:Nat) y,ys[j]?=some y→∃ u,us0[j]?=some u∧RepC w s y u)∧(match r.agg with
   | true=>∃ arr:Array Value,v = .agg arr∧arr.size=r.e.size∧∀ j,j<r.e.size→∃ u,arr[j]?=some u∧us0[j]?=some u
   | false=>r.e.size=1∧us0[0]?=some v):=by
   unfold cellsOf at h4
   cases hagg:r.agg with
   | true =>
    rw [hagg] at h4
    have h4:=D.agg?_some h4
    subst h4
    cases h3 with
    | v _ _ h3=>cases h3 with
     | ag _ arr hs hc =>
      exact ⟨arr.toList,by simpa using hs,fun j y e=>by obtain ⟨u,g1,g2⟩:=hc j y e; exact ⟨u,by simpa using g1,g2⟩,arr,rfl,by omega,fun j hj=>⟨arr[j]'(by omega),by simp,by simp⟩⟩
   | false =>
    rw [hagg] at h4 hb
    obtain ⟨y,h6,rfl⟩:=Option.map_eq_some_iff.mp h4
    have h6:=D.one_some h6
    subst h6
    cases h3 with
    | v _ _ h3=>cases h3 with
     | c _ _ h3 =>
      exact ⟨[v],rfl,fun j y' e=>by
       cases j with
       | zero=>simp only [List.getElem?_cons_zero,Option.some.injEq] at e; subst e; exact ⟨v,rfl,h3⟩
       | succ j=>simp at e,Nat.eq_of_beq_eq_true hb.2,rfl⟩
  obtain ⟨us0,m1,m2,m3⟩:=hcell
  refine ⟨_,us0++us,v :: L,k1,by rw [app_eq]; simp [m1,k2],fun j y e=>?_,⟨v,L,rfl,h2,k4⟩,v,L,rfl,?_,?_⟩
  ·rw [app_eq] at e
   by_cases hj:j<ys.length
   ·rw [List.getElem?_append_left hj] at e
    obtain ⟨u,g1,g2⟩:=m2 j y e
    exact ⟨u,by rw [List.getElem?_append_left (by omega)]; exact g1,g2⟩
   ·rw [List.getElem?_append_right (by omega)] at e
    obtain ⟨u,g1,g2⟩:=k3 _ y e
    exact ⟨u,by rw [List.getElem?_append_right (by omega),m1]; exact g1,g2⟩
  ·cases hagg:r.agg with
   | true =>
    rw [hagg] at m3
    obtain ⟨arr,g1,g2,g3⟩:=m3
    refine ⟨arr,g1,g2,fun j hj=>?_⟩
    obtain ⟨u,f1,f2⟩:=g3 j hj
    exact ⟨u,f1,by rw [Nat.zero_add,List.getElem?_append_left (by omega)]; exact f2⟩
   | false =>
    rw [hagg] at m3
    exact ⟨m3.1,by rw [List.getElem?_append_left (by omega)]; exact m3.2⟩
  ·have:=Shapes.app (pre:=us0) k5
   rw [m1,hb1,Nat.add_zero] at this
   rw [Nat.zero_add]; exact this
theorem views_rep {S':Fl→Nat→Prop} {φ:Lay} {s':Sit} {k:Nat} (hS:s'.S=S') (hΦ:s'.Φ k=φ) {us:List Value} :
 ∀ (l:List RS) (d:den (resTy l)) (off:Nat) (L:List Value),(∀ (j:Nat) t,(resRow l d)[j]?=some t→∃ u,us[off+j]?=some u∧RepO w S' t u (φ.at 0 (off+j)))→Shapes us off l L →
 L.length=(resViews k off l d).length∧∀ (j:Nat) V,(resViews k off l d)[j]?=some V→∃ v,L[j]?=some v∧RepV w s' V v:=by
 have one:∀ (r:RS) (d:den r.e) (off:Nat) (v:Value),(∀ (j:Nat) t,(cells r.g r.e d)[j]?=some t→∃ u,us[off+j]?=some u∧RepO w S' t u (φ.at 0 (off+j))) →
  (match r.agg with
   | true=>∃ arr:Array Value,v = .agg arr∧arr.size=r.e.size∧∀ j,j<r.e.size→∃ u,arr[j]?=some u∧us[off+j]?=some u
   | false=>r.e.size=1∧us[off]?=some v)→RepV w s' (viewV k off r.agg (cells r.g r.e d)) v:=by
  intro r d off v hrow hsh
  unfold viewV
  cases hagg:r.agg with
  | true =>
   rw [hagg] at hsh
   obtain ⟨arr,rfl,h1,h2⟩:=hsh
   refine .ag _ arr (by rw [length_viewsFrom,length_cells,h1]) (fun j y e=>?_)
   rw [get_viewsFrom] at e
   obtain ⟨t,e1,rfl⟩:=Option.map_eq_some_iff.mp e
   obtain ⟨u,g1,g2⟩:=hrow j t e1
   have hj:j<r.e.size:=by have:=(List.getElem?_eq_some_iff.mp e1).1; rwa [length_cells] at this
   obtain ⟨u',f1,f2⟩:=h2 j hj
   rw [g1,Option.some.injEq] at f2
   subst f2
   rw [← hS] at g2
   exact ⟨u,f1,view_own g2 (by rw [hΦ]; rfl)⟩
  | false =>
   rw [hagg] at hsh
   have hl:=length_cells r.g r.e d
   rw [hsh.1] at hl
   match hc:cells r.g r.e d,hl with
   | [t],_ =>
    obtain ⟨u,g1,g2⟩:=hrow 0 t (by rw [hc]; rfl)
    rw [Nat.add_zero,hsh.2,Option.some.injEq] at g1
    subst g1
    rw [← hS] at g2
    exact .c _ _ (view_own g2 (by rw [hΦ]; rfl))
 intro l
 induction l with
 | nil =>
  intro d off L _ hsh
  have:L=[]:=hsh
  subst this
  exact ⟨rfl,fun j V e=>by simp [resViews] at e⟩
 | cons r l ih =>
  intro d off L hrow hsh
  obtain ⟨v,L',rfl,h1,h2⟩:=hsh
  cases l with
  | nil =>
   have:L'=[]:=h2
   subst this
   have hv:=one r d off v hrow h1
   refine ⟨rfl,fun j V e=>?_⟩
   have e:[viewV k off r.agg (cells r.g r.e d)][j]?=some V:=e
   cases j with
   | zero=>simp only [List.getElem?_cons_zero,Option.some.injEq] at e; subst e; exact ⟨v,rfl,hv⟩
   | succ j=>simp at e
  | cons q l =>
   have hrow':∀ (j:Nat) t,(cells r.g r.e d.1++resRow (q :: l) d.2)[j]?=some t→∃ u,us[off+j]?=some u∧RepO w S' t u (φ.at 0 (off+j)):=by
    intro j t e
    refine hrow j t ?_
    show (app (cells r.g r.e d.1) (resRow (q :: l) d.2))[j]?=some t
    rw [app_eq]; exact e
   have hv:=one r d.1 off v (fun j t e=>hrow' j t (by rw [List.getElem?_append_left (List.getElem?_eq_some_iff.mp e).1]; exact e)) h1
   obtain ⟨g1,g2⟩:=ih d.2 (off+r.e.size) L' (fun j t e=>by
    have:=hrow' (r.e.size+j) t (by rw [List.getElem?_append_right (by rw [length_cells]; omega),length_cells]; simpa using e)
    rwa [← Nat.add_assoc] at this) h2
   refine ⟨by show _=(viewV k off r.agg (cells r.g r.e d.1) :: resViews k (off+r.e.size) (q :: l) d.2).length; simp [g1],fun j V e=>?_⟩
   have e:(viewV k off r.agg (cells r.g r.e d.1) :: resViews k (off+r.e.size) (q :: l) d.2)[j]?=some V:=e
   cases j with
   | zero=>simp only [List.getElem?_cons_zero,Option.some.injEq] at e; subst e; exact ⟨v,rfl,hv⟩
   | succ j =>
    obtain ⟨v',f1,f2⟩:=g2 j V (by simpa using e)
    exact ⟨v',by simpa using f1,f2⟩
noncomputable def denF (cx:Ctx) (Δ:List (Nat×Fn)) (an:Ann) (nt:Nat) (code:Code) (rvs:List ResultVar) (sg:Sig) (d:den (argTy sg.ps)):Option (den (resTy sg.rs)) :=
 denC Δ an (den (resTy sg.rs)) cx ⟨0,nt⟩ [] (.code code) (X.start (paramsD sg.ps d)) fun e x=>match e with
  | .normal=>finK cx x rvs sg.rs
  | .ret=>finK cx x rvs sg.rs
  | _=>none
theorem fin_sound (hG:Fit B c) (h:RelW B s x a w) {fn:Func} {rs:List RS} {r:den (resTy rs)} (he:finK c x fn.results.toList rs=some r) :
 ∃ v ro φ,(results fn a.tmps).run c.P w = .ok v w∧(∀ b,ro b→B.R0 b∨B.O0 b∨B.w0.heap.size≤b)∧(∀ b,ro b→b<w.heap.size)∧(∀ b,B.R0 b→ro b)∧(∃ u,RepO w (roS ro) (.vr (resRow rs r)) u φ)∧Inj φ ∧
  (∀ q y b,φ q=some y→blkOf y=some b→(B.O0 b∨B.w0.heap.size≤b)∧b<w.heap.size∧¬ ro b)∧∀ s' k,s'.S=roS ro→s'.Φ k=φ→RepD w s' (resD k rs r) v:=by
 unfold finK at he
 obtain ⟨ys,us,L,h1,h2,h3,h4,h5⟩:=resCs_sound hG h fn.results.toList rs he
 obtain ⟨zs,x0,s0,k1,k2,k3,k4⟩:=prep_sound (resFrz rs) [] ys (vals:=us) h (fun j y e=>h3 j y (by simpa using e)) h1
 simp only [List.length_nil,Nat.zero_add] at k3
 obtain ⟨ts,x1,s1,us1,φ,hK,hrel,htk,hS,hF,hsub,-,hlen,hvals⟩:=takeCs_sound zs.length (resHints rs) zs (vals:=us) k2.rel (Taken.empty (fun _=>.nilIface)) k4 rfl k1
 simp only [List.nil_append,List.length_nil,Nat.zero_add] at htk hvals
 split at hK
 rotate_left
 ·cases hK
 rename_i hcl
 have hrow:=packRs_some rs hK
 have hown:∀ b,¬ s1.S .own b:=hrel.sown
 have hget:∀ (j:Nat) t,(resRow rs r)[j]?=some t→∃ u,us[0+j]?=some u∧RepO w (roS (s1.S .ro)) t u (φ.at 0 (0+j)):=by
  intro j t e
  rw [← hrow] at e
  have hj:j<zs.length:=by have:=(List.getElem?_eq_some_iff.mp e).1; omega
  rw [Nat.zero_add]
  exact ⟨us1 j,hvals j hj,clean_repO hown (htk.get j t e) ((allB_iff _ _).1 hcl t (List.mem_of_getElem? e))⟩
 refine ⟨_,s1.S .ro,φ,results_list fn a.tmps h4.mapM,hrel.srn,fun b hb=>hrel.slt .ro b hb,hrel.sro,⟨.nilIface,?_⟩,htk.own.inj,fun q y b e1 e2=>?_,fun s' k hS' hΦ=>?_⟩
 ·refine .vr _ _ us1 _ (fun j t e=>?_) htk.nil (fun i j hij=>?_)
  ·rw [← hrow] at e
   exact clean_repO hown (htk.get j t e) ((allB_iff _ _).1 hcl t (List.mem_of_getElem? e))
  ·rw [← hrow] at hij
   exact htk.out i j hij
 ·have:=htk.own.own _ _ _ e1 e2
  exact ⟨this.2.2,this.2.1,this.1 .ro⟩
 ·obtain ⟨g1,g2⟩:=views_rep (w:=w) hS' hΦ (us:=us) rs r 0 L hget h5
  unfold resD
  generalize resViews k 0 rs r=Vs at g1 g2
  match Vs,L with
  | [V],[v] =>
   obtain ⟨v',f1,f2⟩:=g2 0 V rfl
   simp only [List.getElem?_cons_zero,Option.some.injEq] at f1
   subst f1
   exact .v _ _ f2
  | [],[]=>exact .tup _ _ rfl (fun j V e=>by simp at e)
  | V1 :: V2 :: Vs,v1 :: v2 :: L=>exact .tup _ _ (by simpa using g1) (fun j V e=>by
   obtain ⟨v',f1,f2⟩:=g2 j V e
   exact ⟨v',by simpa using f1,f2⟩)
  | [],_ :: _=>simp at g1
  | [_],[]=>simp at g1
  | [_],_ :: _ :: _=>simp at g1
  | _ :: _ :: _,[]=>simp at g1
  | _ :: _ :: _,[_]=>simp at g1
theorem sound_of_den {Δ:List (Nat×Fn)} (hΔ:Known c.P c.G Δ) {f:FuncId} {fn:Func} {code:Code} {sg:Sig} {an:Ann} (hf:c.P.funcs[f]?=some fn) (hb:fn.body=some code) (hn:sg.ps.length≤fn.ntmps) (h0:c.off=0) :
 SoundF c.P c.G f sg (denF c Δ an fn.ntmps code fn.results.toList sg):=by
 intro w s vs d r hΦ0 hlt hown hrb hglob hlen hargs hsem
 let B:Base:={ nt:=⟨0,fn.ntmps⟩,out:=fun _=>none,w0:=w,O0:=fun _=>False,R0:=s.S .ro,B0:=s.S .bo,G:=c.G,F:=s.F,muts:=[],Φ0:=fun _=>noLay,LC:=fun _ _=>none,LΦ:=fun _ _=>noLay,PV:=fun _=>.nilIface }
 have hstart:RelW B s (X.start (paramsD sg.ps d)) { tmps:=vs.toArray++Array.replicate (fn.ntmps - vs.toArray.size) undef,defers:=[] } w:={
  defers:=rfl
  size:=by show _=fn.ntmps; simp; omega
  env:=fun k D hD=>by
   obtain ⟨-,h2⟩:=startEnv_some hD
   rw [Nat.sub_zero] at h2
   obtain ⟨v,g1,g2⟩:=hargs k D h2
   have hk:k<vs.length:=(List.getElem?_eq_some_iff.mp g1).1
   exact ⟨v,by rw [tv_zero rfl]; simp [Array.getElem?_append,hk]; exact (List.getElem?_eq_some_iff.mp g1).2,g2⟩
  roots:=fun r row e=>by simp [X.start,look] at e
  rootn:=fun r _=>hΦ0 r
  inj:=fun r p y r' p' y' b e=>by rw [hΦ0] at e; cases e
  own:=fun r p y b e=>by rw [hΦ0] at e; cases e
  slt:=hlt
  sown:=hown
  sro:=fun b hb=>hb
  srn:=fun b hb=>.inl hb
  sbo:=fun b hb=>hb
  srb:=hrb
  sbn:=fun b hb=>.inl hb
  F:=rfl
  os:=rfl
  tape:=rfl
  output:=rfl
  grow:=Nat.le_refl _
  kept:=fun _ _ _=>rfl
  glob:=hglob
  pins:=fun k hk=>by simp [X.start] at hk
  locks:=fun r d hd=>by simp [X.start] at hd
  dirt:=fun r hr=>by simp [B] at hr }
 refine calls_of_wp hf hb (denC_sound hΔ an _ c ⟨0,fn.ntmps⟩ [] (.code code) (B:=B) rfl rfl ⟨rfl,h0.symm⟩ rfl rfl (fun e x s1 a w' hr hq=>?_) hstart hsem)
 have hfin:(e = .normal∨e = .ret)∧finK c x fn.results.toList sg.rs=some r:=by
  cases e <;> first | exact ⟨.inl rfl,hq⟩ | exact ⟨.inr rfl,hq⟩ | cases hq
 obtain ⟨v,ro,φ,g1,g2,g3,g4,g5,g6,g7,g8⟩:=fin_sound (B:=B) ⟨rfl,h0.symm⟩ hr hfin.2
 have hpost:a.defers=[]∧∃ v,(results fn a.tmps).run c.P w' = .ok v w'∧∃ v_1 ro φ,Ending.returned v = .returned v_1∧Below w.heap.size w w'∧Left w.heap.size s w' ro (resRow sg.rs r) φ ∧
  ∀ s' k,s'.S=roS ro→s'.Φ k=φ→RepD w' s' (resD k sg.rs r) v_1:=by
  refine ⟨hr.defers,v,g1,v,ro,φ,rfl,⟨hr.os,hr.tape,hr.output,hr.grow,fun b hb=>hr.kept b hb (fun e=>e)⟩,⟨g4,fun b hb=>?_,g5,g6,fun q y b e1 e2=>?_⟩,g8⟩
  ·rcases g2 b hb with h1 | h1 | h1
   ·exact .inl h1
   ·exact h1.elim
   ·exact .inr ⟨h1,g3 b hb⟩
  ·obtain ⟨h1,h2,h3⟩:=g7 q y b e1 e2
   rcases h1 with h1 | h1
   ·exact h1.elim
   ·exact ⟨h1,h2,h3⟩
 rcases hfin.1 with rfl | rfl <;> exact hpost
end
end Go.V
namespace Go.V
open Go.RowKit
variable {α:Type}
def hintP:Ty→List (Option Ty)
 | .pair a b=>app (hintP a) (hintP b)
 | .unit=>[]
 | .ptr e=>[some e]
 | _=>[none]
def ptHs:List RS→List (Option Ty)
 | []=>[]
 | r :: l=>app (hintP r.e) (ptHs l)
def fixTs:List (Option Ty)→List T→Option (List T)
 | [],ts=>some ts
 | h :: hs,ts=>match ts with
  | []=>some []
  | t :: ts=>(fixT h t).bind fun t'=>(fixTs hs ts).map fun l=>t' :: l
theorem fixTs_get:∀ {hs:List (Option Ty)} {ts ts':List T},fixTs hs ts=some ts'→ts'.length=ts.length∧∀ (j:Nat) t',ts'[j]?=some t'→∃ t h,ts[j]?=some t∧fixT h t=some t'
 | [],ts,ts',h=>by
  simp only [fixTs,Option.some.injEq] at h
  subst h
  exact ⟨rfl,fun j t' e=>⟨t',none,e,rfl⟩⟩
 | h0 :: hs,ts,ts',h=>by
  cases ts with
  | nil =>
   simp only [fixTs,Option.some.injEq] at h
   subst h
   exact ⟨rfl,fun j t' e=>by simp at e⟩
  | cons t ts =>
   obtain ⟨t1,h1,h2⟩:=Option.bind_eq_some_iff.mp h
   obtain ⟨l,h3,rfl⟩:=Option.map_eq_some_iff.mp h2
   obtain ⟨g1,g2⟩:=fixTs_get h3
   refine ⟨by simp [g1],fun j t' e=>?_⟩
   cases j with
   | zero =>
    simp only [List.getElem?_cons_zero,Option.some.injEq] at e
    subst e
    exact ⟨t,h0,rfl,h1⟩
   | succ j =>
    obtain ⟨u,h,f1,f2⟩:=g2 j t' (by simpa using e)
    exact ⟨u,h,by simpa using f1,f2⟩
def isPtT:T→Bool
 | .pt .own _ _=>true
 | .bld _ _=>true
 | _=>false
def finMK (cx:Ctx) (x:X) (rvs:List ResultVar) (sg:Sig):Option (den (resTy sg.rs)) :=
 match and (allB (fun j=>mem x.pin j) (mutJs 0 sg.ps)) (allB (fun r=>!r.agg) (dropN (Nat.sub sg.rs.length (mutJs 0 sg.ps).length) sg.rs)) with
 | true=>resCsK cx x (app rvs (mapL ResultVar.tmp (mutJs 0 sg.ps))) sg.rs fun ys=>prepK (resFrz sg.rs) [] ys x fun ys x1=>takeCsK (resHints sg.rs) ys ys.length x1 fun ts0 _=>(fixTs (ptHs sg.rs) ts0).bind fun ts =>
  match and (allB T.clean ts) (allB isPtT (dropN (offM sg) ts)) with
  | true=>packRs sg.rs ts
  | false=>none
 | false=>none
def X.startM (ds:List D) (rows:List (Nat×List T)) (js:List Nat):X:={ env:=startEnv 0 ds,roots:=rows,lock:=[],pin:=js,dirt:=[] }
noncomputable def denM (cx:Ctx) (Δ:List (Nat×Fn)) (an:Ann) (nt:Nat) (code:Code) (rvs:List ResultVar) (sg:Sig) (d:den (argTy sg.ps)):Option (den (resTy sg.rs)) :=
 denC Δ an (den (resTy sg.rs)) cx ⟨0,nt⟩ [] (.code code) (X.startM (mparsD 0 sg.ps d) (mrows 0 sg.ps d) (mutJs 0 sg.ps)) fun e x=>match e with
  | .normal=>finMK cx x rvs sg
  | .ret=>finMK cx x rvs sg
  | _=>none
section
variable {c:Ctx} {B:Base} {s:Sit} {x:X} {a:Act} {w:World} {nt:Fr}
theorem Shapes.length {us:List Value}:∀ {l:List RS} {off:Nat} {L:List Value},Shapes us off l L→L.length=l.length
 | [],off,L,h=>by have h:L=[]:=h; subst h; rfl
 | r :: l,off,L,h=>by
  obtain ⟨v,L',rfl,-,h3⟩:=h
  simp [h3.length]
theorem Shapes.tail {us:List Value}:∀ {l:List RS} {off n:Nat} {L:List Value},Shapes us off l L→(∀ r∈l.drop n,r.agg=false)→n≤l.length→szRs l=szRs (l.take n)+(l.length - n) ∧
 ∀ i v,L[n+i]?=some v→us[off+szRs (l.take n)+i]?=some v
 | [],off,n,L,h,_,hn=>by
  have h:L=[]:=h
  subst h
  exact ⟨by simp at hn; subst hn; rfl,fun i v e=>by simp at e⟩
 | r :: l,off,0,L,h,ha,hn=>by
  obtain ⟨v0,L',rfl,h1,h2⟩:=h
  have hr:r.agg=false:=ha r (by simp)
  rw [hr] at h1
  obtain ⟨g1,g2⟩:=Shapes.tail (n:=0) h2 (fun r' hr'=>ha r' (by simp only [List.drop_zero] at hr' ⊢; exact List.mem_cons_of_mem _ hr')) (Nat.zero_le _)
  simp only [List.take_zero,szRs,Nat.zero_add,Nat.sub_zero,Nat.add_zero] at g1 g2 ⊢
  refine ⟨by rw [g1,h1.1]; simp; omega,fun i v e=>?_⟩
  cases i with
  | zero =>
   simp only [List.getElem?_cons_zero,Option.some.injEq] at e
   subst e
   exact h1.2
  | succ i =>
   have:=g2 i v (by simpa using e)
   rw [h1.1] at this
   rw [← this]; congr 1; omega
 | r :: l,off,n+1,L,h,ha,hn=>by
  obtain ⟨v0,L',rfl,h1,h2⟩:=h
  obtain ⟨g1,g2⟩:=Shapes.tail (n:=n) h2 (fun r' hr'=>ha r' (by simpa using hr')) (by simpa using hn)
  refine ⟨by simp only [szRs,List.take_succ_cons]; rw [g1]; simp; omega,fun i v e=>?_⟩
  have:=g2 i v (by rw [show n+1+i=(n+i)+1 by omega] at e; simpa using e)
  simp only [szRs,List.take_succ_cons]
  rw [← this]; congr 1; omega
theorem mutJs_lt:∀ (l:List PS) (m:Nat),∀ j∈mutJs m l,m≤j∧j<m+l.length
 | [],m,j,hj=>by simp [mutJs] at hj
 | p :: l,m,j,hj=>by
  unfold mutJs at hj
  split at hj
  ·rcases List.mem_cons.1 hj with e | e
   ·simp; omega
   ·have:=mutJs_lt l (m+1) j e; simp; omega
  ·have:=mutJs_lt l (m+1) j hj; simp; omega
theorem finM_sound (hG:Fit B c) (h0:c.off=0) (h:RelW B s x a w) {fn:Func} {sg:Sig} {r:den (resTy sg.rs)} (he:finMK c x fn.results.toList sg=some r) :
 ∃ v ro φ,(results fn a.tmps).run c.P w = .ok v w∧(∀ b,ro b→B.R0 b∨B.O0 b∨B.w0.heap.size≤b)∧(∀ b,ro b→b<w.heap.size)∧(∀ b,B.R0 b→ro b)∧(∃ u,RepO w (roS ro) (.vr (resRow sg.rs r)) u φ)∧Inj φ ∧
  (∀ q y b,φ q=some y→blkOf y=some b→(B.O0 b∨B.w0.heap.size≤b)∧b<w.heap.size∧¬ ro b)∧(∀ (i j:Nat),(mutJs 0 sg.ps)[i]?=some j→φ [(0,offM sg+i)]=some (B.PV j)) ∧
  ∀ s' k,s'.S=roS ro→s'.Φ k=φ→RepD w s' (resDM k sg r) v:=by
 unfold finMK at he
 split at he
 rotate_left
 ·cases he
 rename_i hb
 simp only [Bool.and_eq_true] at hb
 obtain ⟨b1,b2⟩:=hb
 rw [app_eq] at he
 obtain ⟨ys,us,L,h1,h2,h3,h4,h5⟩:=resCs_sound hG h _ sg.rs he
 obtain ⟨zs,x0,s0,k1,k2,k3,k4⟩:=prep_sound (resFrz sg.rs) [] ys (vals:=us) h (fun j y e=>h3 j y (by simpa using e)) h1
 simp only [List.length_nil,Nat.zero_add] at k3
 obtain ⟨ts0,x1,s1,us1,φ,hK,hrel,htk,hS,hF,hsub,-,hlen,hvals⟩:=takeCs_sound zs.length (resHints sg.rs) zs (vals:=us) k2.rel (Taken.empty (fun _=>.nilIface)) k4 rfl k1
 simp only [List.nil_append,List.length_nil,Nat.zero_add] at htk hvals
 obtain ⟨ts,hfix,hK⟩:=Option.bind_eq_some_iff.mp hK
 obtain ⟨hfl,hfg⟩:=fixTs_get hfix
 split at hK
 rotate_left
 ·cases hK
 rename_i hcl
 simp only [Bool.and_eq_true] at hcl
 have hrow:=packRs_some sg.rs hK
 have hown:∀ b,¬ s1.S .own b:=hrel.sown
 have hget0:∀ (j:Nat) t,ts[j]?=some t→RepO w (roS (s1.S .ro)) t (us1 j) (φ.at 0 j):=by
  intro j t e
  obtain ⟨t0,h0,f1,f2⟩:=hfg j t e
  exact clean_repO hown (fixT_rep f2 (htk.get j t0 f1)) ((allB_iff _ _).1 hcl.1 t (List.mem_of_getElem? e))
 have hget:∀ (j:Nat) t,(resRow sg.rs r)[j]?=some t→∃ u,us[0+j]?=some u∧RepO w (roS (s1.S .ro)) t u (φ.at 0 (0+j)):=by
  intro j t e
  rw [← hrow] at e
  have hj:j<zs.length:=by have:=(List.getElem?_eq_some_iff.mp e).1; omega
  rw [Nat.zero_add]
  exact ⟨us1 j,hvals j hj,hget0 j t e⟩
 obtain ⟨L1,L2,rfl,hL1,hr1,hr2⟩:=h4.split
 have hLlen:=h5.length
 have hjl:L2.length=(mutJs 0 sg.ps).length:=by
  have:∀ {l:List ResultVar} {L:List Value},ReadsTo c.P w a.tmps l L→L.length=l.length:=by
   intro l
   induction l with
   | nil=>intro L h; have h:L=[]:=h; subst h; rfl
   | cons r l ih=>intro L h; obtain ⟨v,L',rfl,-,h2⟩:=h; simp [ih h2]
  rw [this hr2,mapL_eq,List.length_map]
 have hnR:Nat.sub sg.rs.length (mutJs 0 sg.ps).length=L1.length:=by
  have h6:L1.length+L2.length=sg.rs.length:=by rw [← List.length_append]; exact hLlen
  show sg.rs.length - (mutJs 0 sg.ps).length=L1.length
  omega
 have htail:=h5.tail (n:=L1.length) (fun r' hr'=>by
  have:=(allB_iff _ _).1 b2 r' (by rw [dropN_eq,hnR]; exact hr')
  simpa using this) (by rw [← hLlen]; simp)
 have hoff:offM sg=szRs (sg.rs.take L1.length):=by
  show szRs sg.rs - (mutJs 0 sg.ps).length=_
  have h6:L1.length+L2.length=sg.rs.length:=by rw [← List.length_append]; exact hLlen
  omega
 refine ⟨_,s1.S .ro,φ,results_list fn a.tmps hr1.mapM,hrel.srn,fun b hb=>hrel.slt .ro b hb,hrel.sro,⟨.nilIface,?_⟩,htk.own.inj,fun q y b e1 e2=>?_,fun i j hij=>?_,fun s' k hS' hΦ=>?_⟩
 ·refine .vr _ _ us1 _ (fun j t e=>?_) htk.nil (fun i j hij=>?_)
  ·rw [← hrow] at e
   exact hget0 j t e
  ·rw [← hrow] at hij
   refine htk.out i j ?_
   rcases hij with hij | hij
   ·exact .inl hij
   ·refine .inr ?_
    rw [List.getElem?_eq_none_iff] at hij ⊢
    omega
 ·have:=htk.own.own _ _ _ e1 e2
  exact ⟨this.2.2,this.2.1,this.1 .ro⟩
 ·have hi:i<(mutJs 0 sg.ps).length:=(List.getElem?_eq_some_iff.mp hij).1
  have hread:∀ (js:List Nat) (L2:List Value),ReadsTo c.P w a.tmps (js.map ResultVar.tmp) L2→∀ (i j:Nat),js[i]?=some j→L2[i]?=some (a.tmps.getD j undef):=by
   intro js
   induction js with
   | nil=>intro L2 _ i j e; simp at e
   | cons j0 js ih =>
    intro L2 hL i j e
    obtain ⟨v,L',rfl,g1,g2⟩:=hL
    cases i with
    | zero =>
     simp only [List.getElem?_cons_zero,Option.some.injEq] at e
     subst e
     have g1:Result.ok (a.tmps.getD j0 undef) w = .ok v w:=by rw [← g1]; rfl
     simp only [Result.ok.injEq,and_true] at g1
     simp [g1]
    | succ i=>exact ih L' g2 i j (by simpa using e)
  rw [mapL_eq] at hr2
  have hv:=hread _ _ hr2 i j hij
  have hpin:=h.pins j ((mem_iff _ _).1 ((allB_iff _ _).1 b1 j (List.mem_of_getElem? hij)))
  rw [tv_zero (by rw [hG.off,h0])] at hpin
  have hval:a.tmps.getD j undef=B.PV j:=by simp [hpin]
  rw [hval] at hv
  have hus:=htail.2 i (B.PV j) (by rw [List.getElem?_append_right (by omega)]; rw [show L1.length+i - L1.length=i by omega]; exact hv)
  rw [Nat.zero_add,← hoff] at hus
  -- the cell there is a box
  have hlt:offM sg+i<ts.length:=by
   have h7:ts.length=szRs sg.rs:=by rw [hrow,length_resRow]
   have h8:=htail.1
   have h9:L1.length+L2.length=sg.rs.length:=by rw [← List.length_append]; exact hLlen
   omega
  have hpt:=(allB_iff _ _).1 hcl.2 ts[offM sg+i] (by
   rw [dropN_eq,List.mem_drop_iff_getElem]
   exact ⟨i,by omega,rfl⟩)
  have hrep:=hget0 (offM sg+i) _ (List.getElem?_eq_getElem hlt)
  have hz:zs.length=us.length:=by omega
  have hvl:=hvals (offM sg+i) (by omega)
  rw [hus,Option.some.injEq] at hvl
  generalize ts[offM sg+i]=t at hpt hrep
  unfold isPtT at hpt
  split at hpt
  ·rename_i e d
   have:=(box_lay hrep (t:=.pt .own e d) rfl).1
   rw [hvl]; exact this
  ·have:=(bld_lay hrep).1
   rw [hvl]; exact this
  ·cases hpt
 ·obtain ⟨g1,g2⟩:=views_rep (w:=w) hS' hΦ (us:=us) sg.rs r 0 (L1++L2) hget h5
  unfold resDM
  rw [hnR]
  generalize hVs:(resViews k 0 sg.rs r).take L1.length=Vs
  have hVl:Vs.length=L1.length:=by rw [← hVs,List.length_take,← g1]; simp
  have g2':∀ (j:Nat) V,Vs[j]?=some V→∃ v,L1[j]?=some v∧RepV w s' V v:=by
   intro j V e
   have hj:j<L1.length:=by have:=(List.getElem?_eq_some_iff.mp e).1; omega
   rw [← hVs,List.getElem?_take,if_pos hj] at e
   obtain ⟨v,f1,f2⟩:=g2 j V e
   rw [List.getElem?_append_left hj] at f1
   exact ⟨v,f1,f2⟩
  match Vs,L1 with
  | [V],[v] =>
   obtain ⟨v',f1,f2⟩:=g2' 0 V rfl
   simp only [List.getElem?_cons_zero,Option.some.injEq] at f1
   subst f1
   exact .v _ _ f2
  | [],[]=>exact .tup _ _ rfl (fun j V e=>by simp at e)
  | V1 :: V2 :: Vs,v1 :: v2 :: L=>exact .tup _ _ (by simpa using hVl.symm) (fun j V e=>by
   obtain ⟨v',f1,f2⟩:=g2' j V e
   exact ⟨v',by simpa using f1,f2⟩)
  | [],_ :: _=>simp at hVl
  | [_],[]=>simp at hVl
  | [_],_ :: _ :: _=>simp at hVl
  | _ :: _ :: _,[]=>simp at hVl
  | _ :: _ :: _,[_]=>simp at hVl
theorem sound_of_denM {Δ:List (Nat×Fn)} (hΔ:Known c.P c.G Δ) {f:FuncId} {fn:Func} {code:Code} {sg:Sig} {an:Ann} (hf:c.P.funcs[f]?=some fn) (hb:fn.body=some code) (hn:sg.ps.length≤fn.ntmps) (h0:c.off=0) :
 SoundM c.P c.G f sg (denM c Δ an fn.ntmps code fn.results.toList sg):=by
 intro w s vs d r hg hlen hargs hsem
 let B:Base:={ nt:=⟨0,fn.ntmps⟩,out:=fun _=>none,w0:=w,O0:=Handed s,R0:=s.S .ro,B0:=s.S .bo,G:=c.G,F:=s.F,muts:=[],Φ0:=fun _=>noLay,LC:=fun _ _=>none,LΦ:=fun _ _=>noLay,PV:=fun k=>(vs[k]?).getD .nilIface }
 have hstart:RelW B s (X.startM (mparsD 0 sg.ps d) (mrows 0 sg.ps d) (mutJs 0 sg.ps)) { tmps:=vs.toArray++Array.replicate (fn.ntmps - vs.toArray.size) undef,defers:=[] } w:={
  defers:=rfl
  size:=by show _=fn.ntmps; simp; omega
  env:=fun k D hD=>by
   obtain ⟨-,h2⟩:=startEnv_some hD
   rw [Nat.sub_zero] at h2
   obtain ⟨v,g1,g2⟩:=hargs k D h2
   have hk:k<vs.length:=(List.getElem?_eq_some_iff.mp g1).1
   exact ⟨v,by rw [tv_zero rfl]; simp [Array.getElem?_append,hk]; exact (List.getElem?_eq_some_iff.mp g1).2,g2⟩
  roots:=hg.roots
  rootn:=hg.rootn
  inj:=hg.inj
  own:=fun r p y b e1 e2=>by
   have:=hg.own r p y b e1 e2
   exact ⟨this.1,this.2,.inl ⟨r,p,y,e1,e2⟩⟩
  slt:=hg.slt
  sown:=hg.sown
  sro:=fun b hb=>hb
  srn:=fun b hb=>.inl hb
  sbo:=fun b hb=>hb
  srb:=hg.srb
  sbn:=fun b hb=>.inl hb
  F:=rfl
  os:=rfl
  tape:=rfl
  output:=rfl
  grow:=Nat.le_refl _
  kept:=fun _ _ _=>rfl
  glob:=hg.glob
  pins:=fun k hk=>by
   have hlt:=(mutJs_lt sg.ps 0 k hk).2
   have hk:k<vs.length:=by omega
   rw [tv_zero rfl]
   simp [Array.getElem?_append,hk,B]
  locks:=fun r d hd=>by simp [X.startM] at hd
  dirt:=fun r hr=>by simp [B] at hr }
 refine calls_of_wp hf hb (denC_sound hΔ an _ c ⟨0,fn.ntmps⟩ [] (.code code) (B:=B) rfl rfl ⟨rfl,h0.symm⟩ rfl rfl (fun e x s1 a w' hr hq=>?_) hstart hsem)
 have hfin:(e = .normal∨e = .ret)∧finMK c x fn.results.toList sg=some r:=by
  cases e <;> first | exact ⟨.inl rfl,hq⟩ | exact ⟨.inr rfl,hq⟩ | cases hq
 obtain ⟨v,ro,φ,g1,g2,g3,g4,g5,g6,g7,g8,g9⟩:=finM_sound (B:=B) ⟨rfl,h0.symm⟩ h0 hr hfin.2
 have hpost:a.defers=[]∧∃ v,(results fn a.tmps).run c.P w' = .ok v w'∧∃ v_1 ro φ,Ending.returned v = .returned v_1∧LeftM w s w' ro (resRow sg.rs r) φ ∧
  (∀ i j,(mutJs 0 sg.ps)[i]?=some j→∃ v,vs[j]?=some v∧φ [(0,offM sg+i)]=some v)∧∀ s' k,s'.S=roS ro→s'.Φ k=φ→RepD w' s' (resDM k sg r) v_1:=by
  refine ⟨hr.defers,v,g1,v,ro,φ,rfl,⟨hr.os,hr.tape,hr.output,hr.grow,hr.kept,g4,g2,g3,g5,g6,g7⟩,fun i j hij=>?_,g9⟩
  have hlt:=(mutJs_lt sg.ps 0 j (List.mem_of_getElem? hij)).2
  have hj:j<vs.length:=by omega
  have:=g8 i j hij
  simp only [B,List.getElem?_eq_getElem hj,Option.getD_some] at this
  exact ⟨vs[j],List.getElem?_eq_getElem hj,this⟩
 rcases hfin.1 with rfl | rfl <;> exact hpost
end
end Go.V
namespace Go.V
open Go.RowKit Go.ChangeShapes
def fieldsB (g:TypeId→Ty→Bool):Nat→List Field→Ty→Bool
 | _,[],e=>match e with
  | .unit=>true
  | _=>false
 | off,f :: fs,e=>match fs with
  | []=>and (Nat.beq f.offset off) (g f.type e)
  | _ :: _=>match e with
   | .pair a b=>and (Nat.beq f.offset off) (and (g f.type a) (fieldsB g (off+a.size) fs b))
   | _=>false
def fitsB (P:Program):Nat→TypeId→Ty→Bool
 | 0,_,_=>false
 | n+1,t,e=>and (Nat.beq (P.cellsOf t) e.size) (match P.underlying t with
  | some (.int k)=>match e with
   | .int k'=>kindEq k k'
   | _=>false
  | some .bool=>match e with
   | .bool=>true
   | _=>false
  | some .string=>match e with
   | .str=>true
   | _=>false
  | some (.slice t')=>match e with
   | .sl e'=>and (and (Nat.ble 1 e'.size) (Nat.ble 1 (P.bytesOf t'))) (fitsB P n t' e')
   | _=>false
  | some (.struct fs)=>fieldsB (fitsB P n) 0 fs.toList e
  | _=>false)
def okL {β:Type} (m:Nat) (p:β→Prop) (xs:List β):Prop:=xs.length≤m∧∀ x∈xs,p x
def okD:(e:Ty)→den e→Prop
 | .int k,n=>(Lit.int k n).wf=true
 | .str,l=>l.length≤maxLen
 | .sl e,xs=>okL maxLen (okD e) xs
 | .rsl e,xs=>okL maxLen (okD e) xs
 | .ptr e,d=>okD e d
 | .pair a b,d=>okD a d.1∧okD b d.2
 | _,_=>True
def lenD:(e:Ty)→den e→Nat
 | .sl _,xs=>xs.length
 | _,_=>0
def isSl (P:Program) (t:TypeId):Bool:=match P.underlying t with
 | some (.slice _)=>true
 | _=>false
def oldS (w:World):Fl→Nat→Prop:=fun f b=>f = .bo∧b<w.heap.size
section
variable {H:Type} {enc:TypeId×Value→H} {P:Program} {w:World} {base:Nat} {spare:Nat→Bool} {held:Bool}
def HasD (w:World) (e:Ty) (cs:List Value) (d:den e):Prop:=okD e d∧∀ (j:Nat) t,(cells .bo e d)[j]?=some t→∃ u,cs[j]?=some u∧RepR w (oldS w) t u
theorem fields_has {g:TypeId→Ty→Bool} {n:Nat} {cs:List Value}
 (hg:∀ t e,g t e=true→∀ cs' x,DataW.trod enc P w base spare held n t cs'=some x→P.cellsOf t=e.size∧cs'.length=e.size∧∃ d,HasD w e cs' d)  :
 ∀ (fs:List Field) (off:Nat) (e:Ty),fieldsB g off fs e=true→(∀ f∈fs,∃ x,DataW.trod enc P w base spare held n f.type ((cs.drop f.offset).take (P.cellsOf f.type))=some x) →
  ∃ d:den e,okD e d∧∀ (j:Nat) t,(cells .bo e d)[j]?=some t→∃ u,cs[off+j]?=some u∧RepR w (oldS w) t u:=by
 intro fs
 induction fs with
 | nil =>
  intro off e he _
  cases e <;> simp [fieldsB] at he
  exact ⟨(),trivial,fun j t h=>by simp [cells] at h⟩
 | cons f fs ih =>
  intro off e he hx
  obtain ⟨x,hx0⟩:=hx f List.mem_cons_self
  have at_:∀ {a:Ty} {d:den a},f.offset=off→P.cellsOf f.type=a.size→HasD w a ((cs.drop f.offset).take (P.cellsOf f.type)) d→∀ (j:Nat) t,(cells .bo a d)[j]?=some t→∃ u,cs[off+j]?=some u∧RepR w (oldS w) t u:=by
   intro a d ho hc hd j t ht
   obtain ⟨u,h1,h2⟩:=hd.2 j t ht
   have hj:j<a.size:=by have:=(List.getElem?_eq_some_iff.mp ht).1; rwa [length_cells] at this
   rw [List.getElem?_take,if_pos (by omega),List.getElem?_drop,ho] at h1
   exact ⟨u,h1,h2⟩
  cases fs with
  | nil =>
   simp only [fieldsB,Bool.and_eq_true] at he
   have ho:=Nat.eq_of_beq_eq_true he.1
   obtain ⟨hc,-,d,hd⟩:=hg _ _ he.2 _ _ hx0
   exact ⟨d,hd.1,at_ ho hc hd⟩
  | cons f' fs' =>
   cases e with
   | pair a b =>
    simp only [fieldsB,Bool.and_eq_true] at he
    have ho:=Nat.eq_of_beq_eq_true he.1
    obtain ⟨hc,-,d,hd⟩:=hg _ _ he.2.1 _ _ hx0
    obtain ⟨d',hd1,hd2⟩:=ih (off+a.size) b he.2.2 (fun f hf=>hx f (List.mem_cons_of_mem _ hf))
    refine ⟨(d,d'),⟨hd.1,hd1⟩,fun j t ht=>?_⟩
    simp only [cells,app_eq] at ht
    by_cases hj:j<a.size
    ·rw [List.getElem?_append_left (by rw [length_cells]; exact hj)] at ht
     exact at_ ho hc hd j t ht
    ·rw [List.getElem?_append_right (by rw [length_cells]; omega),length_cells] at ht
     obtain ⟨u,h1,h2⟩:=hd2 _ t ht
     exact ⟨u,by rw [show off+j=off+a.size+(j - a.size) by omega]; exact h1,h2⟩
   | _=>simp [fieldsB] at he
theorem pick_all {β γ:Type} {R:Nat→γ→Prop}:∀ (n:Nat),(∀ i,i<n→∃ d,R i d)→∃ xs:List γ,xs.length=n∧∀ i d,xs[i]?=some d→R i d
 | 0,_=>⟨[],rfl,fun i d h=>by simp at h⟩
 | n+1,h=>by
  obtain ⟨xs,h1,h2⟩:=pick_all (β:=β) n (fun i hi=>h i (by omega))
  obtain ⟨d,hd⟩:=h n (by omega)
  refine ⟨xs++[d],by simp [h1],fun i d' hi=>?_⟩
  by_cases e:i<n
  ·rw [List.getElem?_append_left (by omega)] at hi; exact h2 i d' hi
  ·have hlt:=(List.getElem?_eq_some_iff.mp hi).1
   simp [h1] at hlt
   have:i=n:=by omega
   subst this
   rw [List.getElem?_append_right (by omega),h1] at hi
   simp at hi
   subst hi; exact hd
theorem trod_has:∀ (n:Nat) (t:TypeId) (e:Ty),fitsB P n t e=true→∀ (fuel:Nat) (cs:List Value) (x:DataW H×List MemPlace),DataW.trod enc P w base spare held fuel t cs=some x →
 P.cellsOf t=e.size∧cs.length=e.size∧∃ d,HasD w e cs d∧(isSl P t=true→(∀ n∈x.1.weights P t,n≤reachBytes)→lenD e d≤reachBytes):=by
 intro n
 induction n with
 | zero=>intro t e h; cases h
 | succ n ih =>
  intro t e h fuel cs x hx
  unfold fitsB at h
  simp only [Bool.and_eq_true] at h
  obtain ⟨hc,h⟩:=h
  have hc:=Nat.eq_of_beq_eq_true hc
  refine ⟨hc,?_⟩
  have one:∀ {e:Ty} {d:den e} {u:Value},e.size=1→okD e d→(∀ t,(cells .bo e d)[0]?=some t→RepR w (oldS w) t u)→HasD w e [u] d:=by
   intro e d u hs ho hr
   refine ⟨ho,fun j t ht=>?_⟩
   have:=(List.getElem?_eq_some_iff.mp ht).1
   rw [length_cells,hs] at this
   have:j=0:=by omega
   subst this
   exact ⟨u,rfl,hr t ht⟩
  split at h
  ·rename_i k hu
   cases e <;> simp at h
   rw [← kindEq_eq h]
   obtain ⟨n,rfl,-,hw⟩:=DataW.trod_int hu hx
   refine ⟨rfl,n,one rfl hw (fun t ht=>?_),fun _ _=>Nat.zero_le _⟩
   simp only [cells,List.getElem?_cons_zero,Option.some.injEq] at ht
   subst ht; exact .v _ rfl
  ·rename_i hu
   cases e <;> simp at h
   obtain ⟨b,rfl,-⟩:=DataW.trod_bool hu hx
   refine ⟨rfl,b,one rfl trivial (fun t ht=>?_),fun _ _=>Nat.zero_le _⟩
   simp only [cells,List.getElem?_cons_zero,Option.some.injEq] at ht
   subst ht; exact .v _ rfl
  ·rename_i hu
   cases e <;> simp at h
   obtain ⟨s,rfl,-,hs⟩:=DataW.trod_string hu hx
   refine ⟨rfl,s.data.toList,one rfl (by simpa [okD] using hs) (fun t ht=>?_),fun _ _=>Nat.zero_le _⟩
   simp only [cells,List.getElem?_cons_zero,Option.some.injEq] at ht
   subst ht; exact .v _ rfl
  ·rename_i t' hu
   cases e with
   | sl e' =>
    simp only [Bool.and_eq_true] at h
    obtain ⟨⟨h1,hby⟩,h2⟩:=h
    have h1:=Nat.le_of_ble_eq_true h1
    have hby:=Nat.le_of_ble_eq_true hby
    rcases DataW.trod_slice hu hx with ⟨rfl,-⟩ | ⟨a,len,cap,elems,rest,m,-,rfl,hxe,hb,hl,hm,hlen,hel,-,-⟩
    ·refine ⟨rfl,[],one rfl ⟨Nat.zero_le _,fun x hx=>by simp at hx⟩ (fun t ht=>?_),fun _ _=>Nat.zero_le _⟩
     simp only [cells,List.getElem?_cons_zero,Option.some.injEq] at ht
     subst ht; exact .nil _ _ _ _
    ·have each:∀ i,i<len→∃ d:den e',okD e' d∧∀ (j:Nat) t,(cells .bo e' d)[j]?=some t→∃ u,w.cell? (a.add (i * e'.size+j))=some u∧RepR w (oldS w) t u:=by
      intro i hi
      have hi':=hel i hi
      rw [List.getElem?_eq_getElem (by omega)] at hi'
      obtain ⟨cs',k1,k2⟩:=Option.bind_eq_some_iff.mp hi'
      obtain ⟨c1,c2,d,⟨hd1,hd2⟩,-⟩:=ih t' e' h2 m cs' _ k2
      refine ⟨d,hd1,fun j t ht=>?_⟩
      obtain ⟨u,u1,u2⟩:=hd2 j t ht
      have hj:j<e'.size:=by have:=(List.getElem?_eq_some_iff.mp ht).1; rwa [length_cells] at this
      obtain ⟨-,-,g3⟩:=World.cells?_some k1
      have:=g3 j (by omega)
      rw [u1,c1] at this
      refine ⟨u,?_,u2⟩
      rw [← this]
      congr 1
      by_cases hz:i * e'.size=0
      ·simp [Addr.add,hz]
      ·by_cases hj0:j=0
       ·subst hj0; simp [Addr.add]
       ·simp only [Addr.add,hz,hj0,if_false]
        rw [if_neg (by omega),Nat.add_assoc]
     obtain ⟨xs,hxl,hxs⟩:=pick_all (β:=Unit) len each
     refine ⟨rfl,xs,one rfl ⟨by omega,fun x hx=>?_⟩ (fun t ht=>?_),fun _ hz=>?_⟩
     rotate_left 2
     ·have h9:=hz ((elems.length+rest.length) * P.bytesOf t') (by rw [hxe]; simp [DataW.weights,hu])
      have h8:elems.length+rest.length≤(elems.length+rest.length) * P.bytesOf t':=Nat.le_mul_of_pos_right _ hby
      show xs.length≤reachBytes
      omega
     ·obtain ⟨i,hi⟩:=List.getElem?_of_mem hx
      exact (hxs i x hi).1
     ·simp only [cells,List.getElem?_cons_zero,Option.some.injEq] at ht
      subst ht
      cases hxs0:xs with
      | nil =>
       rw [hxs0] at hxl
       simp only [List.length_nil] at hxl
       subst hxl
       exact .nil _ _ _ _
      | cons x0 xs0 =>
       rw [← hxs0]
       have h0:xs[0]?=some x0:=by rw [hxs0]; rfl
       obtain ⟨-,hc0⟩:=hxs 0 x0 h0
       have hl0:0<(cells .bo e' x0).length:=by rw [length_cells]; omega
       obtain ⟨u0,hu0,-⟩:=hc0 0 _ (List.getElem?_eq_getElem hl0)
       rw [Nat.zero_mul,Nat.add_zero] at hu0
       have ha:a.add 0=a:=by simp [Addr.add]
       rw [ha] at hu0
       obtain ⟨b,off,spot⟩:=a
       have hspot:spot=none:=by
        unfold World.cell? at hu0
        split at hu0
        ·split at hu0
         ·cases hu0
         ·rename_i hsp
          cases spot with
          | none=>rfl
          | some z=>exact absurd rfl hsp
        ·cases hu0
       subst hspot
       have hblt:b<w.heap.size:=World.block_lt_of_cell? w _ hu0
       have hcell:∀ i j t,cellOf (rows .bo e' xs) i j=some t→∃ u,w.cell? ⟨b,off+i * e'.size+j,none⟩=some u∧RepR w (oldS w) t u:=by
        intro i j t ht
        rw [cellOf_rows] at ht
        obtain ⟨d,d1,d2⟩:=Option.bind_eq_some_iff.mp ht
        rw [nth_eq] at d2
        obtain ⟨u,v1,v2⟩:=(hxs i d d1).2 j t d2
        refine ⟨u,?_,v2⟩
        rw [← v1]
        congr 1
        unfold Addr.add
        split
        ·rename_i hz; rw [Nat.add_assoc,hz]; rfl
        ·rw [Nat.add_assoc]
       rw [← hxl]
       refine .sl _ _ xs b off cap (fun i j=>(w.cell? ⟨b,off+i * e'.size+j,none⟩).getD .nilIface) ⟨rfl,hblt⟩ (by omega) (fun i j t ht=>?_) (fun i j t ht=>?_)
       ·obtain ⟨u,v1,-⟩:=hcell i j t ht
        rw [v1]; rfl
       ·obtain ⟨u,v1,v2⟩:=hcell i j t ht
        rw [v1]; exact v2
   | _=>simp at h
  ·rename_i fs hu
   obtain ⟨xs,m,-,-,hl,hlen,hall⟩:=DataW.trod_struct hu hx
   refine ⟨hl.trans hc,?_⟩
   obtain ⟨d,hd1,hd2⟩:=fields_has (enc:=enc) (P:=P) (w:=w) (base:=base) (spare:=spare) (held:=held) (g:=fitsB P n) (n:=m) (cs:=cs) (fun t e ht cs' x hx=>by
    obtain ⟨g1,g2,d,g3,-⟩:=ih t e ht m cs' x hx
    exact ⟨g1,g2,d,g3⟩) fs.toList 0 e h (fun f hf=>by
    obtain ⟨i,hi⟩:=List.getElem?_of_mem hf
    have hi:fs[i]?=some f:=by simpa using hi
    have:=hall i f hi
    have hlt:i<xs.length:=by rw [hlen]; exact (Array.getElem?_eq_some_iff.mp hi).1
    rw [List.getElem?_eq_getElem hlt] at this
    exact ⟨_,this⟩)
   refine ⟨d,⟨hd1,fun j t ht=>?_⟩,fun hsl _=>?_⟩
   ·have:=hd2 j t ht
    rwa [Nat.zero_add] at this
   ·unfold isSl at hsl
    rw [hu] at hsl; cases hsl
  ·cases h
end
end Go.V
namespace Go.V
open Go.RowKit Go.ChangeShapes
def fitsAll (P:Program):List TypeId→List PS→Bool
 | [],[]=>true
 | t :: ts,p :: ps=>and (fitsB P 64 t p.e) (and (isBo p.f) (and (match P.underlying t with
  | some (.struct _)=>p.agg
  | some (.int _)=>!p.agg
  | some .bool=>!p.agg
  | some .string=>!p.agg
  | some (.slice _)=>!p.agg
  | _=>false) (fitsAll P ts ps)))
 | _,_=>false
def okA:(l:List PS)→den (argTy l)→Prop
 | [],_=>True
 | [p],d=>okD p.e d
 | p :: q :: l,d=>okD p.e d.1∧okA (q :: l) d.2
def okZ:List Bool→(l:List PS)→den (argTy l)→Prop
 | _,[],_=>True
 | bs,[p],d=>bs.headD false=true→lenD p.e d≤reachBytes
 | bs,p :: q :: l,d=>(bs.headD false=true→lenD p.e d.1≤reachBytes)∧okZ bs.tail (q :: l) d.2
section
variable {H:Type} {enc:TypeId×Value→H} {P:Program} {w:World} {base:Nat} {spare:Nat→Bool} {held:Bool}
def oldSit (w:World):Sit:={ S:=oldS w,Φ:=fun _=>noLay,F:=fun _ _ _ _=>False }
theorem param_rep {b0:Nat} {t:TypeId} {p:PS} {v:Value} {d0:DataW H} {ps:List MemPlace} (hfit:fitsB P 64 t p.e=true) (hbo:isBo p.f=true)
 (hagg:(match P.underlying t with
  | some (.struct _)=>p.agg
  | some (.int _)=>!p.agg
  | some .bool=>!p.agg
  | some .string=>!p.agg
  | some (.slice _)=>!p.agg
  | _=>false)=true) (hval:Value.okWide P w .any b0 t v) (hd:DataW.Trod enc P w base spare held t v d0 ps):∃ d,(okD p.e d∧RepD w (oldSit w) (paramD p d) v)∧(isSl P t=true→(∀ n∈d0.weights P t,n≤reachBytes)→lenD p.e d≤reachBytes):=by
 obtain ⟨fuel,hf⟩:=hd
 obtain ⟨-,hlen,d,⟨hd1,hd2⟩,hz⟩:=trod_has 64 t p.e hfit fuel _ _ hf
 have hpf:p.f = .bo:=by
  cases hp:p.f <;> rw [hp] at hbo <;> first | rfl | cases hbo
 refine ⟨d,⟨hd1,?_⟩,hz⟩
 unfold paramD
 rw [hpf]
 have scalar:p.agg=false→v.cells = #[v]→RepD w (oldSit w) (.v (.c (.k (oneT (cells .bo p.e d))))) v:=by
  intro _ hv
  rw [hv] at hlen hd2
  have hl:=length_cells .bo p.e d
  rw [← hlen] at hl
  match hc:cells .bo p.e d,hl with
  | [t0],_ =>
   obtain ⟨u,h1,h2⟩:=hd2 0 t0 (by rw [hc]; rfl)
   simp only [List.getElem?_cons_zero,Option.some.injEq] at h1
   subst h1
   exact .v _ _ (.c _ _ (.k _ _ h2))
 have noagg:(∀ fs,P.underlying t≠some (.struct fs))→(∀ n e,P.underlying t≠some (.array n e))→(∀ ms,P.underlying t≠some (.interface ms))→(∀ k e,P.underlying t≠some (.map k e))→Cell.okWide P w .any b0 t v→v.cells = #[v]:=by
  intro h1 h2 h3 h4 hv
  cases v with
  | agg cs =>
   unfold Cell.okWide at hv
   split at hv <;> rename_i e1 e2 <;> first | (cases e2; done) | (unfold Cell.ok at hv; split at hv <;> first | (rename_i e2 e3; cases e3; done) | exact hv.elim)
  | _=>rfl
 cases hu:P.underlying t with
 | none=>rw [hu] at hagg; cases hagg
 | some td =>
  rw [hu] at hagg
  have ns:(∀ fs,td≠.struct fs)→(∀ n e,td≠.array n e)→(∀ ms,td≠.interface ms)→(∀ k e,td≠.map k e)→v.cells = #[v]:=by
   intro h1 h2 h3 h4
   refine noagg (fun fs e=>h1 fs (by rw [hu] at e; exact Option.some.inj e)) (fun n t e=>h2 n t (by rw [hu] at e; exact Option.some.inj e)) (fun n e=>h3 n (by rw [hu] at e; exact Option.some.inj e)) (fun n t e=>h4 n t (by rw [hu] at e; exact Option.some.inj e)) ?_
   unfold Value.okWide at hval
   rw [hu] at hval
   split at hval
   ·rename_i e; exact absurd (Option.some.inj e) (h1 _)
   ·rename_i e; exact absurd (Option.some.inj e) (h2 _ _)
   ·exact hval
  cases td with
  | struct fs =>
   simp only at hagg
   rw [hagg]
   unfold Value.okWide at hval
   rw [hu] at hval
   obtain ⟨cs,rfl,hs,-⟩:=hval
   refine .v _ _ (.ag _ cs ?_ (fun j y e=>?_))
   ·rw [mapL_eq,List.length_map,length_cells]
    simpa [Value.cells] using hlen
   ·rw [mapL_eq,List.getElem?_map] at e
    obtain ⟨t0,e1,rfl⟩:=Option.map_eq_some_iff.mp e
    obtain ⟨u,h1,h2⟩:=hd2 j t0 e1
    exact ⟨u,by simpa [Value.cells] using h1,.k _ _ h2⟩
  | int k=>simp only [Bool.not_eq_true'] at hagg; rw [hagg]; exact scalar hagg (ns (fun _ h=>by cases h) (fun _ _ h=>by cases h) (fun _ h=>by cases h) (fun _ _ h=>by cases h))
  | bool=>simp only [Bool.not_eq_true'] at hagg; rw [hagg]; exact scalar hagg (ns (fun _ h=>by cases h) (fun _ _ h=>by cases h) (fun _ h=>by cases h) (fun _ _ h=>by cases h))
  | string=>simp only [Bool.not_eq_true'] at hagg; rw [hagg]; exact scalar hagg (ns (fun _ h=>by cases h) (fun _ _ h=>by cases h) (fun _ h=>by cases h) (fun _ _ h=>by cases h))
  | slice e=>simp only [Bool.not_eq_true'] at hagg; rw [hagg]; exact scalar hagg (ns (fun _ h=>by cases h) (fun _ _ h=>by cases h) (fun _ h=>by cases h) (fun _ _ h=>by cases h))
  | _=>cases hagg
theorem params_rep {b0:Nat}:∀ (ts:List TypeId) (l:List PS) (vs:List Value) (ds:List (DataW H)) (ps:List MemPlace),fitsAll P ts l=true→DataW.TrodAll enc P w base spare held ts vs ds ps →
 (∀ (j:Nat) t v,ts[j]?=some t→vs[j]?=some v→Value.okWide P w .any b0 t v) →
 ∃ d:den (argTy l),okA l d∧vs.length=l.length∧(∀ (j:Nat) D,(paramsD l d)[j]?=some D→∃ v,vs[j]?=some v∧RepD w (oldSit w) D v) ∧
  ((∀ (j:Nat) t d,ts[j]?=some t→ds[j]?=some d→∀ n∈d.weights P t,n≤reachBytes)→okZ (ts.map (isSl P)) l d)
 | [],[],vs,ds,ps,_,h,_=>by
  obtain ⟨rfl,-,-⟩:=trodAll_nil h
  exact ⟨(),trivial,rfl,fun j D e=>by simp [paramsD] at e,fun _=>trivial⟩
 | t :: ts,p :: l,vs,ds,ps,hfit,h,hval=>by
  simp only [fitsAll,Bool.and_eq_true] at hfit
  obtain ⟨f1,f2,f3,f4⟩:=hfit
  obtain ⟨v,vs',d0,ds',p0,q0,rfl,rfl,rfl,h0,hr⟩:=trodAll_cons h
  obtain ⟨d,⟨o1,o2⟩,oz⟩:=param_rep f1 f2 f3 (hval 0 t v rfl rfl) h0
  obtain ⟨e,m1,m2,m3,mz⟩:=params_rep ts l vs' ds' q0 f4 hr (fun j t v h1 h2=>hval (j+1) t v (by simpa using h1) (by simpa using h2))
  cases l with
  | nil =>
   refine ⟨d,o1,by simpa using m2,fun j D hD=>?_,fun hz hb=>oz hb (hz 0 t d0 rfl rfl)⟩
   have hD:[paramD p d][j]?=some D:=hD
   cases j with
   | zero=>simp only [List.getElem?_cons_zero,Option.some.injEq] at hD; subst hD; exact ⟨_,rfl,o2⟩
   | succ j=>simp at hD
  | cons q l =>
   refine ⟨(d,e),⟨o1,m1⟩,by simpa using m2,fun j D hD=>?_,fun hz=>⟨fun hb=>oz hb (hz 0 t d0 rfl rfl),mz fun j t d h1 h2=>hz (j+1) t d (by simpa using h1) (by simpa using h2)⟩⟩
   have hD:(paramD p d :: paramsD (q :: l) e)[j]?=some D:=hD
   cases j with
   | zero=>simp only [List.getElem?_cons_zero,Option.some.injEq] at hD; subst hD; exact ⟨_,rfl,o2⟩
   | succ j =>
    obtain ⟨v,g1,g2⟩:=m3 j D (by simpa using hD)
    exact ⟨v,by simpa using g1,g2⟩
 | [],_ :: _,_,_,_,hfit,_,_=>by cases hfit
 | _ :: _,[],_,_,_,hfit,_,_=>by cases hfit
theorem args_stay (hl:laidOutB P=true) {w':World} (hb:Below w.heap.size w w'):∀ {ts:List TypeId} {vs:List Value} {ds:List (DataW H)} {ps:List MemPlace},
 ts.all (fun t=>and (P.readableRec t) (decide (t<P.types.size)))=true→DataW.TrodAll enc P w 0 (fun _=>true) true ts vs ds ps→DataW.TrodAll enc P w' 0 (fun b=>decide (b<w.heap.size)) true ts vs ds ps:=by
 intro ts
 induction ts with
 | nil =>
  intro vs ds ps _ h
  obtain ⟨rfl,rfl,rfl⟩:=trodAll_nil h
  exact trodAll_mk0
 | cons t ts ih =>
  intro vs ds ps hr h
  have hlt:=h.lt
  obtain ⟨v,vs',d0,ds',p0,q0,rfl,rfl,rfl,h0,hrest⟩:=trodAll_cons h
  simp only [List.all_cons,Bool.and_eq_true,decide_eq_true_eq] at hr
  exact trodAll_cons_mk (hb.trod hl hr.1.1 hr.1.2 h0 (fun x hx=>hlt x (List.mem_append.2 (.inl hx)))) (ih hr.2 hrest)
end
theorem Known.nil {P:Program} {G:List (Nat×T)}:Known P G []:=fun f F h=>by cases h
theorem Known.cons {P:Program} {G:List (Nat×T)} {f:FuncId} {F:Fn} {Δ:List (Nat×Fn)} {fn:Func} (h:SoundA P G f F.sg F.sem) (hf:P.funcs[f]?=some fn) (hb:fn.body.isSome=true) (hn:(fn.name == "runtime.NumGoroutine")=false)
 (hk:Known P G Δ):Known P G ((f,F) :: Δ):=by
 intro f' F' h'
 rw [look_cons] at h'
 split at h'
 ·rename_i e
  simp only [Option.some.injEq] at h'
  subst e h'
  exact ⟨h,fn,hf,hb,hn⟩
 ·exact hk f' F' h'
theorem SoundF.none {P:Program} {G:List (Nat×T)} {f:FuncId} {sg:Sig}:SoundF P G f sg fun _=>Option.none:=by
 intro w s vs d r _ _ _ _ _ _ _ h
 cases h
open Classical in
theorem SoundM.none {P:Program} {G:List (Nat×T)} {f:FuncId} {sg:Sig}:SoundM P G f sg fun _=>Option.none:=by
 intro w s vs d r _ _ _ h
 cases h
theorem inlOk_of {P:Program} {I:List (Nat×Func)} (h:∀ e∈I,P.funcs[e.1]?=some e.2∧(e.2.name == "runtime.NumGoroutine")=false) :
 ∀ f fn,look I f=some fn→P.funcs[f]?=some fn∧(fn.name == "runtime.NumGoroutine")=false:=by
 intro f fn hf
 induction I with
 | nil=>cases hf
 | cons e l ih =>
  rw [look_cons] at hf
  by_cases ht:f=e.1
  ·rw [if_pos ht,Option.some.injEq] at hf
   subst ht hf
   exact h e List.mem_cons_self
  ·rw [if_neg ht] at hf
   exact ih (fun e he=>h e (List.mem_cons_of_mem _ he)) hf
theorem tyOk_of {P:Program} {Ty:List (Nat×TyInfo)} (h:∀ e∈Ty,TyOk1 P e.1 e.2):TyOk P Ty:=by
 intro t i hi
 induction Ty with
 | nil=>cases hi
 | cons e l ih =>
  rw [look_cons] at hi
  by_cases ht:t=e.1
  ·rw [if_pos ht,Option.some.injEq] at hi
   subst ht hi
   exact h e List.mem_cons_self
  ·rw [if_neg ht] at hi
   exact ih (fun e he=>h e (List.mem_cons_of_mem _ he)) hi
end Go.V
namespace Go.V
open Go.RowKit Go.ChangeShapes
def datF {H:Type} (g:TypeId→(e:Ty)→DataW H→Option (den e)):List Field→(e:Ty)→List (DataW H)→Option (den e)
 | [],e,xs=>match e with
  | .unit=>match xs with
   | []=>some ()
   | _ :: _=>none
  | _=>none
 | f :: fs,e,xs=>match xs with
  | []=>none
  | x :: xs=>match fs with
   | []=>match xs with
    | []=>g f.type e x
    | _ :: _=>none
   | f' :: fs'=>match e with
    | .pair a b=>(g f.type a x).bind fun d=>(datF g (f' :: fs') b xs).map fun d'=>(d,d')
    | _=>none
def dat {H:Type} (P:Program):Nat→TypeId→(e:Ty)→DataW H→Option (den e)
 | 0,_,_,_=>none
 | n+1,t,e,x=>match P.underlying t with
  | some (.int _)=>match e with
   | .int _=>match x with
    | .lit (.int _ m)=>some m
    | _=>none
   | _=>none
  | some .bool=>match e with
   | .bool=>match x with
    | .lit (.bool b)=>some b
    | _=>none
   | _=>none
  | some .string=>match e with
   | .str=>match x with
    | .lit (.string l)=>some l
    | _=>none
   | _=>none
  | some (.struct fs)=>match x with
   | .agg xs=>datF (dat P n) fs.toList e xs
   | _=>none
  | _=>none
def datL {H:Type} (P:Program) (n:Nat) (t:TypeId) (e:Ty):List (DataW H)→Option (List (den e))
 | []=>some []
 | x :: xs=>(dat P n t e x).bind fun d=>(datL P n t e xs).map fun l=>d :: l
section
variable {H:Type} {enc:TypeId×Value→H} {P:Program} {w:World} {base:Nat} {spare:Nat→Bool} {held:Bool} {S:Fl→Nat→Prop} {f:Fl}
def DatD (w:World) (S:Fl→Nat→Prop) (f:Fl) (e:Ty) (cs:List Value) (d:den e):Prop:=∀ (j:Nat) t,(cells f e d)[j]?=some t→∃ u,cs[j]?=some u∧RepR w S t u
theorem fields_dat {g:TypeId→Ty→Bool} {gd:TypeId→(e:Ty)→DataW H→Option (den e)} {n:Nat} {cs:List Value}
 (hg:∀ t e,g t e=true→∀ cs' x d,DataW.trod enc P w base spare held n t cs'=some x→gd t e x.1=some d→P.cellsOf t=e.size∧DatD w S f e cs' d) :
 ∀ (fs:List Field) (off:Nat) (e:Ty) (ys:List (DataW H×List MemPlace)) (d:den e),fieldsB g off fs e=true→ys.length=fs.length →
  (∀ (i:Nat) fl,fs[i]?=some fl→DataW.trod enc P w base spare held n fl.type ((cs.drop fl.offset).take (P.cellsOf fl.type))=ys[i]?)→datF gd fs e (ys.map (·.1))=some d →
  ∀ (j:Nat) t,(cells f e d)[j]?=some t→∃ u,cs[off+j]?=some u∧RepR w S t u:=by
 intro fs
 induction fs with
 | nil =>
  intro off e ys d he _ _ hd j t ht
  cases e <;> simp [fieldsB] at he
  simp [cells] at ht
 | cons fl fs ih =>
  intro off e ys d he hl hx hd j t ht
  cases ys with
  | nil=>simp at hl
  | cons y ys =>
   have hy:=hx 0 fl rfl
   simp only [List.getElem?_cons_zero] at hy
   have at_:∀ {a:Ty} {d:den a},fl.offset=off→P.cellsOf fl.type=a.size→DatD w S f a ((cs.drop fl.offset).take (P.cellsOf fl.type)) d→∀ (j:Nat) t,(cells f a d)[j]?=some t→∃ u,cs[off+j]?=some u∧RepR w S t u:=by
    intro a d ho hc hd j t ht
    obtain ⟨u,h1,h2⟩:=hd j t ht
    have hj:j<a.size:=by have:=(List.getElem?_eq_some_iff.mp ht).1; rwa [length_cells] at this
    rw [List.getElem?_take,if_pos (by omega),List.getElem?_drop,ho] at h1
    exact ⟨u,h1,h2⟩
   cases fs with
   | nil =>
    simp only [fieldsB,Bool.and_eq_true] at he
    have ho:=Nat.eq_of_beq_eq_true he.1
    have:ys=[]:=by simpa using hl
    subst this
    have hd:gd fl.type e y.1=some d:=hd
    obtain ⟨hc,hdd⟩:=hg _ _ he.2 _ _ _ hy hd
    exact at_ ho hc hdd j t ht
   | cons fl' fs' =>
    cases e with
    | pair a b =>
     simp only [fieldsB,Bool.and_eq_true] at he
     have ho:=Nat.eq_of_beq_eq_true he.1
     have hd:(gd fl.type a y.1).bind (fun d=>(datF gd (fl' :: fs') b (ys.map (·.1))).map fun d'=>(d,d'))=some d:=hd
     obtain ⟨d1,h1,h2⟩:=Option.bind_eq_some_iff.mp hd
     obtain ⟨d2,h3,rfl⟩:=Option.map_eq_some_iff.mp h2
     obtain ⟨hc,hdd⟩:=hg _ _ he.2.1 _ _ _ hy h1
     have htail:=ih (off+a.size) b ys d2 he.2.2 (by simpa using hl) (fun i fl0 hi=>by have:=hx (i+1) fl0 (by simpa using hi); simpa using this) h3
     simp only [cells,app_eq] at ht
     by_cases hj:j<a.size
     ·rw [List.getElem?_append_left (by rw [length_cells]; exact hj)] at ht
      exact at_ ho hc hdd j t ht
     ·rw [List.getElem?_append_right (by rw [length_cells]; omega),length_cells] at ht
      obtain ⟨u,h1,h2⟩:=htail _ t ht
      exact ⟨u,by rw [show off+j=off+a.size+(j - a.size) by omega]; exact h1,h2⟩
    | _=>simp [fieldsB] at he
theorem dat_has:∀ (n:Nat) (t:TypeId) (e:Ty),fitsB P n t e=true→∀ (fuel:Nat) (cs:List Value) (x:DataW H×List MemPlace) (d:den e),DataW.trod enc P w base spare held fuel t cs=some x→dat P n t e x.1=some d →
 P.cellsOf t=e.size∧DatD w S f e cs d:=by
 intro n
 induction n with
 | zero=>intro t e h; cases h
 | succ n ih =>
  intro t e h fuel cs x d hx hd
  unfold fitsB at h
  simp only [Bool.and_eq_true] at h
  obtain ⟨hc,h⟩:=h
  have hc:=Nat.eq_of_beq_eq_true hc
  refine ⟨hc,?_⟩
  have one:∀ {e:Ty} {d:den e} {u:Value},e.size=1→(∀ t,(cells f e d)[0]?=some t→RepR w S t u)→DatD w S f e [u] d:=by
   intro e d u hs hr j t ht
   have:=(List.getElem?_eq_some_iff.mp ht).1
   rw [length_cells,hs] at this
   have:j=0:=by omega
   subst this
   exact ⟨u,rfl,hr t ht⟩
  unfold dat at hd
  split at h
  ·rename_i k hu
   rw [hu] at hd
   cases e <;> simp at h
   obtain ⟨m,rfl,hx1,-⟩:=DataW.trod_int hu hx
   rw [hx1] at hd
   have hd:=Option.some.inj hd
   subst hd
   refine one rfl (fun t ht=>?_)
   simp only [cells,List.getElem?_cons_zero,Option.some.injEq] at ht
   subst ht; rw [kindEq_eq h]; exact .v _ rfl
  ·rename_i hu
   rw [hu] at hd
   cases e <;> simp at h
   obtain ⟨b,rfl,hx1⟩:=DataW.trod_bool hu hx
   rw [hx1] at hd
   have hd:=Option.some.inj hd
   subst hd
   refine one rfl (fun t ht=>?_)
   simp only [cells,List.getElem?_cons_zero,Option.some.injEq] at ht
   subst ht; exact .v _ rfl
  ·rename_i hu
   rw [hu] at hd
   cases e <;> simp at h
   obtain ⟨s,rfl,hx1,-⟩:=DataW.trod_string hu hx
   rw [hx1] at hd
   have hd:=Option.some.inj hd
   subst hd
   refine one rfl (fun t ht=>?_)
   simp only [cells,List.getElem?_cons_zero,Option.some.injEq] at ht
   subst ht; exact .v _ rfl
  ·rename_i t' hu
   rw [hu] at hd
   cases hd
  ·rename_i fs hu
   rw [hu] at hd
   obtain ⟨xs,m,-,hx1,hl,hlen,hall⟩:=DataW.trod_struct hu hx
   rw [hx1] at hd
   have hd:datF (dat P n) fs.toList e (xs.map (·.1))=some d:=hd
   have:=fields_dat (enc:=enc) (P:=P) (w:=w) (base:=base) (spare:=spare) (held:=held) (S:=S) (f:=f) (g:=fitsB P n) (gd:=dat P n) (n:=m) (cs:=cs) (fun t e ht cs' x d hx hd=>ih t e ht m cs' x d hx hd) fs.toList 0 e xs d h (by simpa using hlen)
    (fun i fl hi=>hall i fl (by simpa using hi)) hd
   intro j t ht
   have:=this j t ht
   rwa [Nat.zero_add] at this
  ·cases h
theorem datL_get {n:Nat} {t:TypeId} {e:Ty}:∀ {xs:List (DataW H)} {l:List (den e)},datL P n t e xs=some l→l.length=xs.length∧∀ (i:Nat) d,l[i]?=some d→∃ x,xs[i]?=some x∧dat P n t e x=some d
 | [],l,h=>by
  simp only [datL,Option.some.injEq] at h
  subst h
  exact ⟨rfl,fun i d hd=>by simp at hd⟩
 | x :: xs,l,h=>by
  obtain ⟨d0,h1,h2⟩:=Option.bind_eq_some_iff.mp h
  obtain ⟨l',h3,rfl⟩:=Option.map_eq_some_iff.mp h2
  obtain ⟨g1,g2⟩:=datL_get h3
  refine ⟨by simp [g1],fun i d hd=>?_⟩
  cases i with
  | zero=>simp only [List.getElem?_cons_zero,Option.some.injEq] at hd; subst hd; exact ⟨x,rfl,h1⟩
  | succ i=>exact g2 i d (by simpa using hd)
theorem table_rep {nm:String} {g:Nat} {cs:Array Value} {t e:TypeId} {n:Nat} {el:Ty} {fuel:Nat} {D:List (DataW H)} {p:List MemPlace} {xs:List (den el)} (hg:P.globalNamed nm=some g) (hv:w.var? P nm=some cs)
 (hd:DataW.trod enc P w base spare held fuel t cs.toList=some (.agg D,p)) (ht:P.underlying t=some (.array n e)) (hcs:P.cellsOf t=n * el.size) (hf:fitsB P 64 e el=true) (hD:datL P 64 e el D=some xs) (hS:S .ro g) :
 RepR w S (.ga el xs) (.pointer (some ⟨g,0,none⟩)):=by
 obtain ⟨ys,m,-,hx,hl,hlen,hel⟩:=DataW.trod_array ht hd
 simp only [Prod.mk.injEq,DataW.agg.injEq] at hx
 obtain ⟨rfl,-⟩:=hx
 obtain ⟨l1,l2⟩:=datL_get hD
 rw [List.length_map] at l1
 have hcell:∀ i j t,cellOf (rows .ro el xs) i j=some t→∃ u,w.cell? ⟨g,0+i * el.size+j,none⟩=some u∧RepR w S t u:=by
  intro i j t ht
  rw [cellOf_rows] at ht
  obtain ⟨d,d1,d2⟩:=Option.bind_eq_some_iff.mp ht
  rw [nth_eq] at d2
  obtain ⟨x,e1,e2⟩:=l2 i d d1
  rw [List.getElem?_map] at e1
  obtain ⟨y,e3,rfl⟩:=Option.map_eq_some_iff.mp e1
  have hi:i<n:=by have:=(List.getElem?_eq_some_iff.mp e3).1; omega
  have:=hel i hi
  rw [e3] at this
  obtain ⟨hc,hdd⟩:=dat_has (S:=S) (f:=.ro) 64 e el hf m _ y d this e2
  obtain ⟨u,u1,u2⟩:=hdd j t d2
  have hj:j<el.size:=by have:=(List.getElem?_eq_some_iff.mp d2).1; rwa [length_cells] at this
  rw [List.getElem?_take,if_pos (by omega),List.getElem?_drop,hc] at u1
  refine ⟨u,?_,u2⟩
  rw [World.var?_cell hg hv,Nat.zero_add,← Array.getElem?_toList]
  exact u1
 have hblk:∃ arr el' fz,w.heap[g]?=some (.cells arr el' fz)∧arr.size=0+xs.length * el.size:=by
  unfold World.var? at hv
  rw [hg,Option.bind_some] at hv
  split at hv
  ·rename_i cs' t' fz hb
   simp only [Option.some.injEq] at hv
   subst hv
   refine ⟨_,_,_,hb,?_⟩
   rw [l1,hlen,Nat.zero_add,← hcs,← hl,Array.length_toList]
  ·cases hv
 refine .ga el xs g 0 (fun i j=>(w.cell? ⟨g,0+i * el.size+j,none⟩).getD .nilIface) hS hblk (fun i j t ht=>?_) (fun i j t ht=>?_)
 ·obtain ⟨u,u1,-⟩:=hcell i j t ht
  rw [u1]; rfl
 ·obtain ⟨u,u1,u2⟩:=hcell i j t ht
  rw [u1]; exact u2
def tabS (w:World) (G:List (Nat×T)):Fl→Nat→Prop:=fun f b=>(f = .bo∧b<w.heap.size)∨(f = .ro∧b<w.heap.size∧(look G b).isSome=true)
theorem law_calls_tab {G:List (Nat×T)} {f:FuncId} {ps:List PS} {sem:den (argTy ps)→Option Bool} (hs:SoundF P G f ⟨ps,[⟨false,.own,.bool⟩]⟩ sem) {ts:List TypeId} (hfit:fitsAll P ts ps=true) (hlaw:∀ d,okA ps d→okZ (ts.map (isSl P)) ps d→sem d=some true)
 (hG:∀ g t,look G g=some t→RepR w (tabS w G) t (.pointer (some ⟨g,0,none⟩)))
 {args:Array Value} {ds:List (DataW H)} {p:List MemPlace} {b0:Nat} (hA:DataW.TrodAll enc P w base spare held ts args.toList ds p) (hval:∀ (j:Nat) t v,ts[j]?=some t→args[j]?=some v→Value.okWide P w .any b0 t v)
 (hwt:∀ (j:Nat) t d,ts[j]?=some t→ds[j]?=some d→∀ n∈d.weights P t,n≤reachBytes) :
 Calls P f args w fun e w'=>e = .returned (.bool true)∧Below w.heap.size w w':=by
 obtain ⟨d,h1,h2,h3,hz⟩:=params_rep ts ps args.toList ds p hfit hA (fun j t v e1 e2=>hval j t v e1 (by simpa using e2))
 let s:Sit:={ S:=tabS w G,Φ:=fun _=>noLay,F:=fun _ _ _ _=>False }
 have hc:=hs w s args.toList d true (fun _=>rfl) (fun f b hb=>by rcases hb with hb | hb <;> first | exact hb.2 | exact hb.2.1) (fun b hb=>by rcases hb with hb | hb <;> cases hb.1)
  (fun b hb=>by rcases hb with hb | hb <;> first | (cases hb.1; done) | exact .inl ⟨rfl,hb.2.1⟩) hG h2
  (fun j D hD=>by
   obtain ⟨v,g1,g2⟩:=h3 j D hD
   exact ⟨v,g1,g2.mono (s':=s) (fun _ _ _=>rfl) (fun f b hb=>.inl hb) rfl (fun _ _=>rfl)⟩) (hlaw d h1 (hz hwt))
 have harr:args.toList.toArray=args:=by simp
 rw [harr] at hc
 refine hc.mono (fun e w' he=>?_)
 obtain ⟨v,ro,φ,rfl,hb,-,hr⟩:=he
 refine ⟨?_,hb⟩
 have:=hr { S:=roS ro,Φ:=fun _=>φ,F:=fun _ _ _ _=>False } 0 rfl rfl
 cases this with
 | v _ _ hv=>cases hv with
  | c _ _ hc=>cases hc with
   | k _ _ hk=>cases hk with
    | v _ _=>rfl
    | box _ _ _ hb=>cases hb
end
theorem law_holds_tab {C:Checked} {os:Os} {f:FuncId} {fn:Func} {s:ChangeSpec} {H:Type} {enc:TypeId×Value→H} {a:Assume} {laid:List (String×DataW Unit)} {G:List (Nat×T)}
 (own:ownKnob C.prog.godebug=none) (started:os.Started) (noInit:C.prog.inits.idxOf? f=none) (hfn:C.prog.funcs[f]?=some fn)
 (witness:∃ (w:World) (tape:Tape) (i:Input),w.os=os∧(w.forCall tape i).Shaped C.prog∧i.vars=[]∧Input.okWide C.prog (w.forCall tape i) .any w.heap.size f i ∧
  ((s.pre enc C.prog fn [] false (w.forCall tape i).memory i.args∧laidMetH C.prog laid (w.forCall tape i).memory)∧sizedMet enc C.prog fn (OpenSpec.ofChange s) false (w.forCall tape i).memory i.args)∧a.holds C.prog (lone (Frame.enter C.prog f i.args .normal) [] (w.forCall tape i)))
 (hvars:s.vars=[]) {ps:List PS} {sem:den (argTy ps)→Option Bool} (hs:SoundF C.prog G f ⟨ps,[⟨false,.own,.bool⟩]⟩ sem) (hfit:fitsAll C.prog fn.params.toList ps=true) {bs:List Bool} (hbs:fn.params.toList.map (isSl C.prog)=bs) (hlaw:∀ d,okA ps d→okZ bs ps d→sem d=some true)
 (hG:∀ W:World,laidMetH C.prog laid W→∀ g t,look G g=some t→RepR W (tabS W G) t (.pointer (some ⟨g,0,none⟩)))
 (hl:laidOutB C.prog=true) (hrow:fn.params.toList.all (fun t=>and (C.prog.readableRec t) (decide (t<C.prog.types.size)))=true) {tb:TypeId} (hres:fn.resultTypes = #[tb]) (htb:C.prog.underlying tb=some .bool)
 (hspec:∀ ds:List (DataW H),ds.length=fn.params.toList.length→(s.fn H ds).results=[.lit (.bool true)]∧(s.fn H ds).args=ds∧(s.fn H ds).vars=[]) :
 ReturnsInHanded a C os f .any (fun w args=>(s.pre enc C.prog fn [] false w args∧laidMetH C.prog laid w)∧sizedMet enc C.prog fn (OpenSpec.ofChange s) false w args) (s.post enc C.prog fn false true false false):=by
 refine returnsInHanded_of_change_and (X:=fun w _=>laidMetH C.prog laid w) (fun _ _ _ hh h=>h.of_heap hh) own started noInit hfn witness ?_
 intro W base args ds gs before hval hW hcnd hsz hL _
 have hW':=hW
 obtain ⟨p,q,hA,hV,rfl,hfz,hnd⟩:=hW
 rw [hvars] at hV
 obtain ⟨rfl,rfl⟩:=trodVars_none hV
 refine (law_calls_tab hs hfit (by rw [hbs]; exact hlaw) (hG W hL) hA (fun j t v e1 e2=>hval j t v (by simpa using e1) e2) (fun j t d e1 e2 n hn=>?_)).mono fun e W' ⟨he,bel⟩=>?_
 ·have hm:=DataW.weights_mem_each (ts:=fn.params.toList++s.plain.varTypes C.prog) (ds:=ds++[]) (by rw [List.getElem?_append_left (List.getElem?_eq_some_iff.mp e1).1]; exact e1) (by rw [List.append_nil]; exact e2) n hn
  have:=List.all_eq_true.1 hsz _ hm
  simpa using this
 subst he
 obtain ⟨s1,s2,s3⟩:=hspec ds (by exact (trodAll_length hA).2)
 refine ⟨_,rfl,ds,[],_,[],p,[],hW',?_,?_,?_,bel.frame _,fun h=>by cases h⟩
 ·rw [hres,List.append_nil,s1]
  exact trodAll_mk1 (shut_bool htb _)
 ·rw [List.append_nil,s2]
  exact args_stay hl bel hrow hA
 ·rw [hvars,List.append_nil,s3]
  exact rfl
end Go.V
namespace Go.V
open Go.RowKit Go.ChangeShapes
def ReadsAs (P:Program) (w:World) (n:String) (g:Nat) (t:TypeId) (d:DataW Unit):Prop :=
 ∃ cs fuel p,P.globalNamed n=some g∧w.var? P n=some cs∧DataW.trod (fun _=>()) P w 0 (fun _=>true) false fuel t cs.toList=some (d,p)
theorem reads_of_laid {P:Program} {w:World} {n:String} {d:DataW Unit} {g:Nat} {t:TypeId} (hg:P.globalNamed n=some g) (ht:(P.globals[g]?).map (·.type)=some t) :
 ∀ {l:List (String×DataW Unit)} {ps:List MemPlace},DataW.LaidVars P w l ps→(n,d)∈l→ReadsAs P w n g t d
 | [],_,_,hm=>by cases hm
 | (n',d') :: l,_,h,hm=>by
  obtain ⟨g0,t0,cs,fuel,p,q,h1,h2,h3,h4,h5,-⟩:=h
  rcases List.mem_cons.1 hm with e | hm
  ·simp only [Prod.mk.injEq] at e
   obtain ⟨rfl,rfl⟩:=e
   obtain rfl:=Option.some.inj (hg.symm.trans h1)
   obtain rfl:=Option.some.inj (ht.symm.trans h2)
   exact ⟨cs,fuel,p,h1,h3,h4⟩
  ·exact reads_of_laid hg ht h5 hm
theorem reads_of {P:Program} {w:World} {laid:List (String×DataW Unit)} (hp:(laid.all fun x=>x.2.handleName?.isNone)=true) (h:laidMetH P laid w) {n:String} {d:DataW Unit} {g:Nat} {t:TypeId}
 (hg:P.globalNamed n=some g) (ht:(P.globals[g]?).map (·.type)=some t) (hm:(n,d)∈laid):ReadsAs P w n g t d:=by
 rw [MakeChecks.laidMetH_plain _ _ _ hp] at h
 obtain ⟨ps,h,_⟩:=h
 exact reads_of_laid hg ht h hm
theorem var_lt {P:Program} {w:World} {n:String} {g:Nat} {cs:Array Value} (hg:P.globalNamed n=some g) (hv:w.var? P n=some cs):g<w.heap.size:=by
 unfold World.var? at hv
 rw [hg,Option.bind_some] at hv
 split at hv
 ·rename_i hb
  exact (Array.getElem?_eq_some_iff.1 hb).1
 ·cases hv
theorem table_of {P:Program} {w:World} {nm:String} {g:Nat} {t e:TypeId} {n:Nat} {el:Ty} {D:List (DataW Unit)} {xs:List (den el)} {G:List (Nat×T)} (h:ReadsAs P w nm g t (.agg D))
 (ht:P.underlying t=some (.array n e)) (hcs:P.cellsOf t=n * el.size) (hf:fitsB P 64 e el=true) (hD:datL P 64 e el D=some xs) (hS:(look G g).isSome=true) :
 RepR w (tabS w G) (.ga el xs) (.pointer (some ⟨g,0,none⟩)):=by
 obtain ⟨cs,fuel,p,h1,h2,h3⟩:=h
 exact table_rep h1 h2 h3 ht hcs hf hD (.inr ⟨rfl,var_lt h1 h2,hS⟩)
end Go.V
namespace Go.V
open Go.RowKit
variable {P:Program} {G:List (Nat×T)} {f:FuncId}
end Go.V
