import Derived.Test.YtlfcemfcgmidlaaDoorLibC
import Derived.Laws.MakeOwn
namespace Go.V
open Go.RowKit
variable {α:Type}
theorem setT_snoc:∀ {q:Path} {i j:Nat} {t t' n:T},setT (q++[(i,j)]) t n=some t'→∃ row row',getT q t=some row∧putChild row i j n=some row'∧getT q t'=some row'
 | [],i,j,t,t',n,h=>by
  simp only [List.nil_append,setT] at h
  obtain ⟨c,hc,h⟩:=Option.bind_eq_some_iff.mp h
  exact ⟨t,t',rfl,by simpa using h,rfl⟩
 | (k,l) :: q,i,j,t,t',n,h=>by
  obtain ⟨c,hc,h⟩:=Option.bind_eq_some_iff.mp h
  obtain ⟨c',h1,h2⟩:=Option.bind_eq_some_iff.mp h
  obtain ⟨row,row',g1,g2,g3⟩:=setT_snoc h1
  refine ⟨row,row',by simp only [getT,hc,Option.bind_some]; exact g1,g2,?_⟩
  simp only [getT]
  rw [putChild_child hc h2,if_pos ⟨rfl,rfl⟩,Option.bind_some]
  exact g3
theorem closeS_idx {e:Ty} {xs:List (den e)} {i:Nat} {cs:List T} (v:Option Value) (k l:Nat):(closeS e xs i cs).idx v k l=(match v with | some x=>offOf x | none=>0)+(k * e.size+l)∧∀ cs',closeS e xs i cs≠.vr cs':=by
 unfold closeS
 split <;> exact ⟨rfl,nofun⟩
theorem closeB_idx {e:Ty} {cs:List T} (v:Option Value) (k l:Nat):(closeB e cs).idx v k l=l∧∀ cs',closeB e cs≠.vr cs':=by
 unfold closeB
 split <;> exact ⟨rfl,nofun⟩
theorem putChild_idx {t t' n:T} {i j:Nat} (h:putChild t i j n=some t') (v:Option Value) (k l:Nat):t'.idx v k l=t.idx v k l∧((∃ cs,t' = .vr cs)→∃ cs,t = .vr cs):=by
 cases t with
 | sl f e xs =>
  cases f <;> simp only [putChild,reduceCtorEq] at h
  obtain ⟨x,_,rfl⟩:=Option.map_eq_some_iff.mp h
  obtain ⟨h1,h2⟩:=closeS_idx (e:=e) (xs:=xs) (i:=i) (cs:=setN (cells .own e x) j n) v k l
  exact ⟨h1,fun ⟨cs,e⟩=>absurd e (h2 cs)⟩
 | pt f e d =>
  cases f <;> simp only [putChild,reduceCtorEq] at h
  split at h
  ·simp only [Option.some.injEq] at h
   subst h
   obtain ⟨h1,h2⟩:=closeB_idx (e:=e) (cs:=setN (cells .own e d) j n) v k l
   exact ⟨h1,fun ⟨cs,e⟩=>absurd e (h2 cs)⟩
  ·cases h
 | slo e xs i' cs0 =>
  simp only [putChild] at h
  obtain ⟨x,_,h⟩:=Option.bind_eq_some_iff.mp h
  split at h
  ·simp only [Option.some.injEq] at h
   subst h
   obtain ⟨h1,h2⟩:=closeS_idx (e:=e) (xs:=xs) (i:=i') (cs:=setN cs0 j n) v k l
   exact ⟨h1,fun ⟨cs,e⟩=>absurd e (h2 cs)⟩
  ·obtain ⟨x',_,rfl⟩:=Option.map_eq_some_iff.mp h
   exact ⟨rfl,nofun⟩
 | po e cs0 =>
  simp only [putChild] at h
  split at h
  ·simp only [Option.some.injEq] at h
   subst h
   obtain ⟨h1,h2⟩:=closeB_idx (e:=e) (cs:=setN cs0 j n) v k l
   exact ⟨h1,fun ⟨cs,e⟩=>absurd e (h2 cs)⟩
  ·cases h
 | pp f cs =>
  cases f <;> simp only [putChild,reduceCtorEq] at h
  split at h
  ·cases h; exact ⟨rfl,nofun⟩
  ·cases h
 | vr cs=>exact ⟨by simp only [putChild] at h; split at h <;> cases h; rfl,fun _=>⟨cs,rfl⟩⟩
 | _=>simp [putChild] at h
def growS (s:Sit) (ψ:Lay):Sit:={ s with S:=fun f b=>s.S f b∨((f = .ro∨f = .bo)∧∃ q y,ψ q=some y∧blkOf y=some b) }
section
variable {c:Ctx} {B:Base} {s:Sit} {x:X} {a:Act} {w:World}
theorem RelW.growRo (h:RelW B s x a w) {ψ:Lay} (ho:OwnOut B s w ψ):RelW B (growS s ψ) x a w :=
 { h with
  env:=fun k d e=>by
   obtain ⟨v,h1,h2⟩:=h.env k d e
   exact ⟨v,h1,h2.mono (fun _ _ _=>rfl) (fun f b hS=>.inl hS) rfl (fun _ _=>rfl)⟩
  roots:=fun r row e=>by
   obtain ⟨y,hy⟩:=h.roots r row e
   exact ⟨y,hy.mono (fun _ _ _=>rfl) (fun f b hS=>.inl hS) (fun _ _ _ _ _=>rfl)⟩
  own:=fun r p y b e1 e2=>by
   have:=h.own r p y b e1 e2
   refine ⟨fun f hS=>?_,this.2⟩
   rcases hS with hS | ⟨_,q,z,e3,e4⟩
   ·exact this.1 f hS
   ·exact ho.out _ _ _ e3 e4 _ _ _ e1 e2
  slt:=fun f b hS=>by
   rcases hS with hS | ⟨_,q,z,e3,e4⟩
   ·exact h.slt f b hS
   ·exact (ho.own _ _ _ e3 e4).2.1
  sown:=fun b hS=>by
   rcases hS with hS | ⟨e,_⟩
   ·exact h.sown b hS
   ·simp at e
  sro:=fun b hR=>.inl (h.sro b hR)
  srn:=fun b hS=>by
   rcases hS with hS | ⟨_,q,z,e3,e4⟩
   ·exact h.srn b hS
   ·exact .inr (ho.own _ _ _ e3 e4).2.2
  sbo:=fun b hB=>.inl (h.sbo b hB)
  srb:=fun b hS=>by
   rcases hS with hS | ⟨_,e⟩
   ·exact .inl (h.srb b hS)
   ·exact .inr ⟨.inr rfl,e⟩
  sbn:=fun b hS=>by
   rcases hS with hS | ⟨_,e⟩
   ·exact (h.sbn b hS).imp id .inl
   ·exact .inr (.inr ⟨.inl rfl,e⟩)
  glob:=fun g t e=>(h.glob g t e).mono (fun _ _ _=>rfl) (fun f b hS=>.inl hS) }
def freezeK (x:X) (r:Nat) (p:Path) (K:T→X→Option α):Option α:=match p with
 | []=>none
 | _ :: _=>setAtK x r p .dead fun t x1=>match t with
  | .sl .own e xs=>setAtK x1 r p (.sl .ro e xs) fun _ x2=>K (.sl .ro e xs) x2
  | _=>none
structure Frozen (B:Base) (s:Sit) (x2:X) (a:Act) (w:World) (r:Nat) (p:Path) (t:T) (s2:Sit):Prop where
 rel:RelW B s2 x2 a w
 rep:∀ v,s.Φ r p=some v→RepC w s2 (.k t) v
 S:∀ f b,s.S f b→s2.S f b
 F:s2.F=s.F
 sub:∀ r p z,s2.Φ r p=some z→s.Φ r p=some z
 live:∀ z u,RepC w s z u→RepC w s2 (z.kill r (jp p)) u
theorem freeze_sound (h:RelW B s x a w) {r:Nat} {p:Path} {K:T→X→Option α} {q:α} (he:freezeK x r p K=some q):∃ t x2 s2,K t x2=some q∧Frozen B s x2 a w r p t s2:=by
 unfold freezeK at he
 split at he
 ·cases he
 rename_i c0 p0
 obtain ⟨old,x1,h1,h2,h3⟩:=setAtK_some he
 split at h3
 rotate_left
 ·cases h3
 rename_i e xs
 obtain ⟨dd,x2,g1,g2,g3⟩:=setAtK_some h3
 obtain ⟨q0,i,j,hp⟩:=last_split (p:=c0 :: p0) (by simp)
 rw [hp] at h1 h2 g1 g2 ⊢
 -- what stands there
 obtain ⟨rowR,k1,k2⟩:=Option.bind_eq_some_iff.mp h1
 obtain ⟨y0,hy0⟩:=h.roots r rowR k1
 obtain ⟨rw1,y,hrw,hch,hu,hblk,hcell⟩:=place_cell hy0 k2
 obtain ⟨-,-,ht1,ho1⟩:=h.take h1 h2
 have hG:=ht1.growRo ho1
 have hrepro:=hu.toRo (S':=(growS (setΦ s r ((s.Φ r).graft (q0++[(i,j)]) noLay)) ((s.Φ r).under (q0++[(i,j)]))).S) (fun f b hS=>.inl hS) (fun p' z b e1 e2=>.inr ⟨.inl rfl,p',z,e1,e2⟩)
 have hrow1:∃ row1 row1',x.at r q0=some row1∧putChild row1 i j .dead=some row1'∧x1.at r q0=some row1':=by
  unfold X.setAt at h2
  split at h2
  ·cases h2
  ·obtain ⟨row,e1,h2⟩:=Option.bind_eq_some_iff.mp h2
   obtain ⟨row',e2,rfl⟩:=Option.map_eq_some_iff.mp h2
   obtain ⟨t',e3,e4⟩:=Option.bind_eq_some_iff.mp e2
   obtain ⟨row1,row1',f1,f2,f3⟩:=setT_snoc e3
   have e5:t' = .vr row':=by
    cases t' <;> first | (simp only [Option.some.injEq] at e4; rw [e4]) | cases e4
   subst e5
   refine ⟨row1,row1',by simp only [X.at,e1,Option.bind_some]; exact f1,f2,?_⟩
   have:look (x.turned r (q0++[(i,j)]) row' (and (T.sl Fl.own e xs).isSh T.dead.isSh)).roots r=some row':=by
    unfold X.turned
    split <;> simp [look_cons]
   simp only [X.at,this,Option.bind_some]
   exact f3
 obtain ⟨row1,row1',r1,r2,r3⟩:=hrow1
 have hq0:(growS (setΦ s r ((s.Φ r).graft (q0++[(i,j)]) noLay)) ((s.Φ r).under (q0++[(i,j)]))).Φ r q0=s.Φ r q0:=by
  show (setΦ s r _).Φ r q0=_
  rw [setΦ_same,graft_eq]
  have:strip (q0++[(i,j)]) q0=none:=by
   cases es:strip (q0++[(i,j)]) q0 with
   | none=>rfl
   | some p'=>have:=congrArg List.length (strip_some es); simp at this
  rw [this]
 have hfin:=hG.setAt (w':=w) (ψ:=noLay) (y:=y) (n:=.sl .ro e xs) g1 g2 (.sh _ _ hrepro rfl) (OwnOut.none _ _ _) (Same.refl w) (fun _ _=>rfl) (fun row' hr'=>by
  rw [r3,Option.some.injEq] at hr'
  subst hr'
  rw [hq0]
  have hrw':x.at r q0=some rw1:=by simp only [X.at,k1,Option.bind_some]; exact hrw
  rw [r1,Option.some.injEq] at hrw'
  subst hrw'
  have hid:=fun k l=>putChild_idx r2 (s.Φ r q0) k l
  have hnv:=(hid 0 0).2
  cases hrv:row1' with
  | vr cs=>trivial
  | _ =>
   have hnv1:∀ cs,row1≠.vr cs:=by
    intro cs e1
    subst e1
    simp only [putChild] at r2
    split at r2
    ·cases r2; cases hrv
    ·cases r2
   have hb2:∃ b,(s.Φ r q0).bind blkOf=some b∧∀ arr el,w.heap[b]?=some (.cells arr el (0,0))→w.heap[b]?=some (.cells (arr.setIfInBounds (row1.idx (s.Φ r q0) i j) y) el (0,0)):=by
    revert hblk
    unfold RowBlk
    split
    ·exact absurd rfl (hnv1 _)
    ·exact fun h=>h
   rw [← (hid i j).1,hrv] at hb2
   exact hb2)
 have hb0:∀ r' p',(setΦ s r ((s.Φ r).graft (q0++[(i,j)]) noLay)).Φ r' p'=(setΦ (growS (setΦ s r ((s.Φ r).graft (q0++[(i,j)]) noLay)) ((s.Φ r).under (q0++[(i,j)]))) r
  (((growS (setΦ s r ((s.Φ r).graft (q0++[(i,j)]) noLay)) ((s.Φ r).under (q0++[(i,j)]))).Φ r).graft (q0++[(i,j)]) noLay)).Φ r' p':=by
  intro r' p'
  by_cases e:r'=r
  ·subst e
   rw [setΦ_same,setΦ_same]
   show _=Lay.graft ((setΦ s r' _).Φ r') _ _ p'
   rw [setΦ_same,graft_eq,graft_eq]
   cases es:strip (q0++[(i,j)]) p' with
   | none=>simp only [graft_eq,es]
   | some p2=>rfl
  ·rw [setΦ_ne _ _ e,setΦ_ne _ _ e]
   show _=(setΦ s r _).Φ r' p'
   rw [setΦ_ne _ _ e]
 refine ⟨_,x2,_,g3,hfin,fun v hv=>?_,fun f b hS=>.inl hS,rfl,fun r' p' z hz=>by rw [← hb0] at hz; exact graft_sub hz,fun z u hz=>?_⟩
 ·have hy:y=v:=by
   have hv':((s.Φ r).under (q0++[(i,j)])) []=some v:=by rw [Lay.under_apply_nil]; exact hv
   generalize (s.Φ r).under (q0++[(i,j)])=φ at hu hv'
   cases hu with
   | sh _ _ _ ht=>simp [T.isSh] at ht
   | nil e ad φ h0 hn=>rw [h0,Option.some.injEq] at hv'; exact hv'
   | sl e xs b off cap arr el vs φ hb hcap hsz hc hr h0 hn=>rw [h0,Option.some.injEq] at hv'; exact hv'
   | box _ cs ht=>simp [T.box?] at ht
  subst hy
  exact .k _ _ (hrepro.mono (fun _ _ _=>rfl) (fun _ _ h=>h))
 ·refine hz.kill (fun _ _ _=>rfl) (fun f b hS=>.inl hS) rfl (fun r' p' hn=>?_)
  rw [← hb0]
  by_cases e:r'=r
  ·subst e
   rw [setΦ_same,graft_eq]
   cases es:strip (q0++[(i,j)]) p' with
   | none=>rfl
   | some p2=>exact absurd ⟨rfl,pre_of_strip es⟩ hn
  ·rw [setΦ_ne _ _ e]
def prepK:List (Option Ty)→List C→List C→X→(List C→X→Option α)→Option α
 | fr :: fs,acc,y :: ys,x,K=>match fr with
  | some e=>match y with
   | .own r p _=>freezeK x r p fun t x1=>prepK fs (app (mapL (C.kill r (jp p)) acc) [.k t]) (mapL (C.kill r (jp p)) ys) x1 K
   | .nil=>prepK fs (app acc [.k (.sl .ro e [])]) ys x K
   | y=>prepK fs (app acc [y]) ys x K
  | none=>prepK fs (app acc [y]) ys x K
 | [],acc,ys,x,K=>K (app acc ys) x
 | _,acc,[],x,K=>K acc x
structure Prep (B:Base) (s:Sit) (x2:X) (a:Act) (w:World) (s2:Sit):Prop where
 rel:RelW B s2 x2 a w
 S:∀ f b,s.S f b→s2.S f b
 F:s2.F=s.F
 sub:∀ r p z,s2.Φ r p=some z→s.Φ r p=some z
theorem prep_sound:∀ (fs:List (Option Ty)) (acc ys:List C) {s:Sit} {x:X} {vals:List Value} {K:List C→X→Option α} {q:α},RelW B s x a w →
 (∀ (j:Nat) y,(acc++ys)[j]?=some y→∃ u,vals[j]?=some u∧RepC w s y u)→prepK fs acc ys x K=some q →
 ∃ zs x2 s2,K zs x2=some q∧Prep B s x2 a w s2∧zs.length=acc.length+ys.length∧∀ (j:Nat) z,zs[j]?=some z→∃ u,vals[j]?=some u∧RepC w s2 z u:=by
 intro fs
 induction fs with
 | nil =>
  intro acc ys s x vals K q h hv he
  cases ys with
  | nil=>exact ⟨_,x,s,by simpa [prepK,app_eq] using he,⟨h,fun _ _ h=>h,rfl,fun _ _ _ h=>h⟩,by simp,by simpa using hv⟩
  | cons y ys=>exact ⟨_,x,s,by simpa [prepK,app_eq] using he,⟨h,fun _ _ h=>h,rfl,fun _ _ _ h=>h⟩,by simp,hv⟩
 | cons fr fs ih =>
  intro acc ys s x vals K q h hv he
  cases ys with
  | nil=>exact ⟨_,x,s,by simpa [prepK] using he,⟨h,fun _ _ h=>h,rfl,fun _ _ _ h=>h⟩,by simp,by simpa using hv⟩
  | cons y ys =>
   have plain:∀ y',(∀ u,RepC w s y u→RepC w s y' u)→prepK fs (app acc [y']) ys x K=some q →
    ∃ zs x2 s2,K zs x2=some q∧Prep B s x2 a w s2∧zs.length=acc.length+(y :: ys).length∧∀ (j:Nat) z,zs[j]?=some z→∃ u,vals[j]?=some u∧RepC w s2 z u:=by
    intro y' hy' he
    rw [app_eq] at he
    obtain ⟨zs,x2,s2,k1,k2,k3,k4⟩:=ih (acc++[y']) ys h (fun j z hz=>by
     rw [List.append_assoc] at hz
     by_cases hj:j<acc.length
     ·rw [List.getElem?_append_left hj] at hz
      exact hv j z (by rw [List.getElem?_append_left hj]; exact hz)
     ·rw [List.getElem?_append_right (by omega)] at hz
      have h2:=fun z=>hv j z
      rw [List.getElem?_append_right (by omega)] at h2
      cases hk:j - acc.length with
      | zero =>
       rw [hk] at hz h2
       simp only [List.singleton_append,List.getElem?_cons_zero,Option.some.injEq] at hz h2
       subst hz
       obtain ⟨u,g1,g2⟩:=h2 y rfl
       exact ⟨u,g1,hy' u g2⟩
      | succ k =>
       rw [hk] at hz h2
       exact h2 z (by simpa using hz)) he
    exact ⟨zs,x2,s2,k1,k2,by simp at k3 ⊢; omega,k4⟩
   simp only [prepK] at he
   cases fr with
   | none=>exact plain y (fun _ h=>h) he
   | some ee =>
    simp only at he
    split at he
    ·rename_i r p e0
     obtain ⟨t,x1,s1,g1,fz⟩:=freeze_sound h he
     rw [app_eq,mapL_eq,mapL_eq] at g1
     obtain ⟨zs,x2,s2,k1,k2,k3,k4⟩:=ih _ _ (vals:=vals) fz.rel (fun j z hz=>by
      rw [List.append_assoc] at hz
      by_cases hj:j<acc.length
      ·rw [List.getElem?_append_left (by simpa using hj),List.getElem?_map] at hz
       obtain ⟨z0,e1,rfl⟩:=Option.map_eq_some_iff.mp hz
       obtain ⟨u,f1,f2⟩:=hv j z0 (by rw [List.getElem?_append_left hj]; exact e1)
       exact ⟨u,f1,fz.live _ _ f2⟩
      ·rw [List.getElem?_append_right (by simp; omega)] at hz
       have h2:=fun z=>hv j z
       rw [List.getElem?_append_right (by omega)] at h2
       simp only [List.length_map] at hz
       cases hk:j - acc.length with
       | zero =>
        rw [hk] at hz h2
        simp only [List.singleton_append,List.getElem?_cons_zero,Option.some.injEq] at hz h2
        subst hz
        obtain ⟨u,f1,f2⟩:=h2 _ rfl
        refine ⟨u,f1,?_⟩
        cases f2 with
        | own _ _ _ _ hΦ=>exact fz.rep _ hΦ
       | succ k =>
        rw [hk] at hz h2
        simp only [List.singleton_append,List.getElem?_cons_succ,List.getElem?_map] at hz h2
        obtain ⟨z0,e1,rfl⟩:=Option.map_eq_some_iff.mp hz
        obtain ⟨u,f1,f2⟩:=h2 z0 e1
        exact ⟨u,f1,fz.live _ _ f2⟩) g1
     refine ⟨zs,x2,s2,k1,⟨k2.rel,fun f b hS=>k2.S f b (fz.S f b hS),k2.F.trans fz.F,fun r p z e=>fz.sub _ _ _ (k2.sub _ _ _ e)⟩,by simp at k3 ⊢; omega,k4⟩
    ·exact plain _ (fun u hu=>by cases hu with | nil ad=>exact .k _ _ (.nil .ro ee ad 0)) he
    ·exact plain y (fun _ h=>h) he
def takeAllK (i:TyInfo) (vd:D) (x:X) (K:List T→X→Option α):Option α :=
 match and (Nat.beq vd.cells.length i.size) (and (Nat.ble 1 i.size) (allB okCell vd.cells)) with
 | true=>prepK i.zfr [] vd.cells x fun ys x1=>takeCsK i.zel ys i.size x1 K
 | false=>none
structure TakenAll (B:Base) (s:Sit) (x1:X) (a:Act) (w:World) (vv:Value) (n:Nat) (ts:List T) (us:Nat→Value) (φ:Lay) (s1:Sit):Prop where
 rel:RelW B s1 x1 a w
 tk:Taken B s1 w ts us φ
 S:∀ f b,s.S f b→s1.S f b
 F:s1.F=s.F
 sub:∀ r p z,s1.Φ r p=some z→s.Φ r p=some z
 len:ts.length=n
 size:vv.cells.size=n
 pos:1≤n
 vals:∀ j,j<n→vv.cells[j]?=some (us j)
 one:∀ v∈vv.cells.toList,v.oneCell'=true
theorem takeAll_sound (h:RelW B s x a w) {vd:D} {vv:Value} (hv:RepD w s vd vv) {i:TyInfo} {K:List T→X→Option α} {q:α} (he:takeAllK i vd x K=some q) :
 ∃ ts x1 s1 us φ,K ts x1=some q∧TakenAll B s x1 a w vv i.size ts us φ s1:=by
 unfold takeAllK at he
 split at he
 ·rename_i hb
  simp only [Bool.and_eq_true] at hb
  obtain ⟨hb1,hb2,hb3⟩:=hb
  have hb1:=Nat.eq_of_beq_eq_true hb1
  have hb2:=Nat.le_of_ble_eq_true hb2
  have hne:vd.cells≠[]:=by intro e; rw [e] at hb1; simp at hb1; omega
  have hall:=Dcells_sound h hv hb3 hne
  obtain ⟨ys,x0,s0,k1,k2,k3,k4⟩:=prep_sound i.zfr [] vd.cells (vals:=vv.cells.toList) h (fun k y hk=>by
   obtain ⟨u,g1,g2⟩:=hall.2 k y (by simpa using hk)
   exact ⟨u,by simpa using g1,g2⟩) he
  obtain ⟨ts,x1,s1,us,φ,hK,hrel,htk,hS,hF,hsub,-,hlen,hvals⟩:=takeCs_sound i.size i.zel ys (vals:=vv.cells.toList) k2.rel (Taken.empty (fun _=>.nilIface)) k4 (by simp at k3; omega) k1
  simp only [List.nil_append,List.length_nil,Nat.zero_add] at htk hvals k3
  refine ⟨ts,x1,s1,us,φ,hK,hrel,htk,fun f b e=>by rw [hS]; exact k2.S f b e,hF.trans k2.F,fun r p z e=>k2.sub _ _ _ (hsub _ _ _ e),by omega,by rw [hall.1,hb1],hb2,fun j hj=>by rw [← Array.getElem?_toList]; exact hvals j (by omega),fun z hz=>?_⟩
  obtain ⟨m,hm⟩:=List.getElem?_of_mem hz
  have hm':m<vd.cells.length:=by rw [← hall.1]; have:=(List.getElem?_eq_some_iff.mp hm).1; simpa using this
  obtain ⟨u,f1,f2⟩:=hall.2 m _ (List.getElem?_eq_getElem hm')
  have:u=z:=by
   rw [← Array.getElem?_toList,hm,Option.some.injEq] at f1
   exact f1.symm
  subst this
  exact cell_one h f2 ((allB_iff _ _).1 hb3 _ (List.getElem_mem hm'))
 ·cases he
end
end Go.V
namespace Go.V
open Go.RowKit
variable {α:Type}
def nodeK:Path→T→(T→(T→Option T)→Option α)→Option α
 | [],t,K=>K t some
 | e :: p,t,K=>stepK t e.1 e.2 fun c up=>nodeK p c fun n up'=>K n fun n'=>(up' n').bind up
theorem nodeK_some:∀ {p:Path} {t:T} {K:T→(T→Option T)→Option α} {q:α},nodeK p t K=some q→∃ n,getT p t=some n∧K n (fun n'=>setT p t n')=some q
 | [],t,K,q,h=>⟨t,rfl,by simp only [nodeK] at h; exact h⟩
 | (i,j) :: p,t,K,q,h=>by
  obtain ⟨c,hc,h1⟩:=stepK_some h
  obtain ⟨n,hn,h2⟩:=nodeK_some h1
  refine ⟨n,by simp only [getT,hc,Option.bind_some]; exact hn,?_⟩
  have e:(fun n'=>setT ((i,j) :: p) t n')=fun n'=>(setT p c n').bind fun c'=>putChild t i j c':=by
   funext n'
   simp only [setT,hc,Option.bind_some]
  rw [e]
  exact h2
theorem setRow_of:∀ {p:Path} {t n n' t':T} {i:Nat} {cs:List T},getT p t=some n→putRowT n i cs=some n'→setT p t n'=some t'→setRowT p t i cs=some t'
 | [],t,n,n',t',i,cs,h1,h2,h3=>by
  simp only [getT,Option.some.injEq] at h1
  simp only [setT,Option.some.injEq] at h3
  subst h1 h3
  exact h2
 | (k,l) :: p,t,n,n',t',i,cs,h1,h2,h3=>by
  simp only [getT] at h1
  obtain ⟨c,hc,h1⟩:=Option.bind_eq_some_iff.mp h1
  simp only [setT,hc,Option.bind_some] at h3
  obtain ⟨c',hc',h3⟩:=Option.bind_eq_some_iff.mp h3
  simp only [setRowT,hc,Option.bind_some,setRow_of h1 h2 hc']
  exact h3
def dsOf (l:List Nat):Nat→List T→List T→List (List Nat)
 | j,o :: os,n :: ns=>match and o.isSh n.isSh with
  | true=>dsOf l (j+1) os ns
  | false=>app l [j] :: dsOf l (j+1) os ns
 | _,_,_=>[]
theorem dsOf_spec {l:List Nat}:∀ {ns os:List T} {j k:Nat} {o n:T},os[k]?=some o→ns[k]?=some n→(o.isSh=true∧n.isSh=true)∨(l++[j+k])∈dsOf l j os ns
 | [],os,j,k,o,n,h1,h2=>by simp at h2
 | n0 :: ns,[],j,k,o,n,h1,h2=>by simp at h1
 | n0 :: ns,o0 :: os,j,k,o,n,h1,h2=>by
  cases k with
  | zero =>
   simp only [List.getElem?_cons_zero,Option.some.injEq] at h1 h2
   subst h1 h2
   unfold dsOf
   cases h:and o0.isSh n0.isSh with
   | true=>exact .inl (by simpa using h)
   | false=>exact .inr (by simp [app_eq])
  | succ k =>
   simp only [List.getElem?_cons_succ] at h1 h2
   rcases dsOf_spec (l:=l) (j:=j+1) h1 h2 with h | h
   ·exact .inl h
   ·refine .inr ?_
    have e:j+(k+1)=j+1+k:=by omega
    rw [e]
    unfold dsOf
    split
    ·exact h
    ·exact List.mem_cons_of_mem _ h
def locksOk (x:X) (r:Nat) (l:List Nat):Nat→List T→Bool
 | _,[]=>true
 | j,_ :: ts=>match lockOk x r (app l [j]) with
  | true=>locksOk x r l (j+1) ts
  | false=>false
theorem locksOk_spec {x:X} {r:Nat} {l:List Nat}:∀ {ts:List T} {j k:Nat},locksOk x r l j ts=true→k<ts.length→lockOk x r (l++[j+k])=true
 | [],j,k,h,hk=>by simp at hk
 | t :: ts,j,k,h,hk=>by
  unfold locksOk at h
  split at h
  ·rename_i h1
   cases k with
   | zero=>simpa [app_eq] using h1
   | succ k =>
    have:=locksOk_spec h (k:=k) (by simpa using hk)
    rwa [show j+(k+1)=j+1+k by omega]
  ·cases h
def putRowK (x:X) (r:Nat) (p:Path) (i j sz:Nat) (ts:List T) (K:X→Option α):Option α :=
 (look x.roots r).bind fun row=>nodeK p (.vr row) fun n up=>rowK n i sz fun cs =>
  match and (Nat.ble (j+ts.length) cs.length) (and (Nat.ble 1 ts.length) (locksOk x r (jp p) j ts)) with
  | false=>none
  | true=>(putRowT n i (setFrom cs j ts)).bind fun n'=>(up n').bind fun t'=>match t' with
   | .vr row'=>K (x.turnedL r (dsOf (jp p) j (dropN j cs) ts) row')
   | _=>none
section
variable {c:Ctx} {B:Base} {s:Sit} {x:X} {a:Act} {w:World}
theorem rowOf_get {t:T} {i sz:Nat} {cs:List T} (h:rowOf t i sz=some cs):getRowT t i=some cs∧(∀ cs,t≠.vr cs):=by
 unfold rowOf rowK at h
 split at h
 ·split at h
  ·obtain ⟨y,hy,h⟩:=Option.bind_eq_some_iff.mp h
   simp only [Option.some.injEq] at h
   subst h
   simp only [idxN] at hy
   exact ⟨by simp [getRowT,hy],nofun⟩
  ·cases h
 ·split at h
  ·simp only [Option.some.injEq] at h; subst h; exact ⟨rfl,nofun⟩
  ·cases h
 ·split at h
  ·simp only [Option.some.injEq] at h; subst h; exact ⟨rfl,nofun⟩
  ·cases h
 ·split at h
  ·rename_i hb
   simp only [Bool.and_eq_true] at hb
   obtain ⟨y,hy,h⟩:=Option.bind_eq_some_iff.mp h
   rcases cond_some h with ⟨hb2,h3⟩ | ⟨_,h3⟩
   ·simp only [Option.some.injEq] at h3
    subst h3
    simp only [idxN] at hy
    exact ⟨by simp only [getRowT,hy,Option.bind_some,hb2,hb.2]; rfl,nofun⟩
   ·cases h3
  ·cases h
 ·split at h
  ·simp only [Option.some.injEq] at h; subst h; exact ⟨rfl,nofun⟩
  ·cases h
 ·cases h
theorem node_block (h:RelW B s x a w) {r:Nat} {p:Path} {t:T} {i sz:Nat} {cs:List T} (hp:x.at r p=some t) (hr:rowOf t i sz=some cs) (hne:cs≠[]) :
 ∃ y b,s.Φ r p=some y∧blkOf y=some b∧(∀ j,t.idx (s.Φ r p) i j=offOf y+(i * sz+j)):=by
 obtain ⟨hg,hnv⟩:=rowOf_get hr
 cases cs with
 | nil=>exact absurd rfl hne
 | cons u us =>
  obtain ⟨v,-,-,h3⟩:=own_cell h hp (rowOf_child hr 0 u rfl)
  rcases h3 with ⟨cs',e⟩ | ⟨b,arr,el,g1,g2,g3⟩
  ·exact absurd e (hnv cs')
  ·obtain ⟨y,hy,hb⟩:=Option.bind_eq_some_iff.mp g1
   refine ⟨y,b,hy,hb,fun j=>?_⟩
   rw [hy]
   exact (rowOf_idx hr j y (fun hns hns2=>by
    have hp':=hp
    unfold X.at at hp'
    obtain ⟨rw0,g1,g2⟩:=Option.bind_eq_some_iff.mp hp'
    obtain ⟨y0,hy0⟩:=h.roots r rw0 g1
    obtain ⟨x',hx'⟩:=getT_own p hy0 g2
    have hy':((s.Φ r).under p) []=some y:=by rw [Lay.under_apply_nil]; exact hy
    generalize (s.Φ r).under p=φ at hx' hy'
    cases hx' with
    | sh=>simp [noLay] at hy'
    | nil=>exact absurd rfl (hns _ _ _)
    | sl=>exact absurd rfl (hns _ _ _)
    | slo=>exact absurd rfl (hns2 _ _ _ _)
    | box _ cs ht b arr el vs φ hb hsz hc hr h0=>rw [h0,Option.some.injEq] at hy'; subst hy'; rfl
    | bld t0 bs b x0 x1 φ hb hx hr h0 h1=>rw [h0,Option.some.injEq] at hy'; subst hy'; rfl
    | vr cs _ vs φ hr h0=>rw [h0] at hy'; cases hy')).1
theorem putRow_sound {s1:Sit} (h:RelW B s1 x a w) {r:Nat} {p:Path} {i j sz:Nat} {ts:List T} {K:X→Option α} {q:α} (he:putRowK x r p i j sz ts K=some q)
 {us:Nat→Value} {φ:Lay} (ht:Taken B s1 w ts us φ) :
 ∃ x' s' y b arr el,K x'=some q∧s1.Φ r p=some y∧blkOf y=some b∧w.heap[b]?=some (.cells arr el (0,0))∧offOf y+(i * sz+j)+ts.length≤arr.size ∧
  ∀ vs:List Value,vs.length=ts.length→(∀ m,m<ts.length→vs[m]?=some (us m)) →
  RelW B s' x' a (w.setRow b (arr.toList.take (offOf y+(i * sz+j))++vs++arr.toList.drop (offOf y+(i * sz+j)+ts.length)).toArray):=by
 unfold putRowK at he
 obtain ⟨row,h1,he⟩:=Option.bind_eq_some_iff.mp he
 obtain ⟨n,h2,he⟩:=nodeK_some he
 rw [rowK_eq] at he
 obtain ⟨cs,h3,he⟩:=Option.bind_eq_some_iff.mp he
 split at he
 ·cases he
 rename_i hb
 simp only [Bool.and_eq_true] at hb
 obtain ⟨hb1,hb2,hb3⟩:=hb
 have hb1:=Nat.le_of_ble_eq_true hb1
 have hb2:=Nat.le_of_ble_eq_true hb2
 obtain ⟨n',h4,he⟩:=Option.bind_eq_some_iff.mp he
 obtain ⟨t',h5,he⟩:=Option.bind_eq_some_iff.mp he
 split at he
 rotate_left
 ·cases he
 rename_i row'
 have hat:x.at r p=some n:=by simp only [X.at,h1,Option.bind_some]; exact h2
 obtain ⟨hget,hnv⟩:=rowOf_get h3
 have hcne:cs≠[]:=by intro e; subst e; simp only [List.length_nil] at hb1; omega
 obtain ⟨y,b,hy,hbk,hidx⟩:=node_block h hat h3 hcne
 have hcell:∀ k,k<cs.length→∃ v arr el,w.heap[b]?=some (.cells arr el (0,0))∧arr[offOf y+(i * sz+k)]?=some v:=fun k hk=>by
  obtain ⟨v,arr,el,g1,g2,_⟩:=own_row h hat h3 hy hbk (List.getElem?_eq_getElem hk)
  exact ⟨v,arr,el,g1,g2⟩
 obtain ⟨v0,arr,el,hheap,hv0⟩:=hcell (j+ts.length - 1) (by omega)
 have hfit:offOf y+(i * sz+j)+ts.length≤arr.size:=by
  have:=(Array.getElem?_eq_some_iff.mp hv0).1
  omega
 let ys:Nat→Option Value:=fun k=>if j≤k∧k<j+ts.length then some (us (k - j)) else none
 let ch:Nat→Bool:=fun k=>(ys k).isSome
 let ψ:Lay:=fun q=>match q with
  | (0,l) :: q=>if j≤l∧l<j+ts.length then φ ((0,l - j) :: q) else none
  | _=>none
 have hψ:∀ q z,ψ q=some z→∃ q',φ q'=some z∧(∃ l q0,q=(0,l) :: q0∧q'=(0,l - j) :: q0∧j≤l):=by
  intro q z hz
  match q with
  | []=>cases hz
  | (k+1,l) :: q=>cases hz
  | (0,l) :: q =>
   simp only [ψ] at hz
   split at hz
   ·rename_i hl; exact ⟨_,hz,l,q,rfl,rfl,hl.1⟩
   ·cases hz
 have hψat:∀ k,k<ts.length→ψ.at 0 (j+k)=φ.at 0 k:=by
  intro k hk
  funext q
  simp only [Lay.at,ψ]
  rw [if_pos (by omega),show j+k - j=k by omega]
 refine ⟨_,setΦ s1 r ((s1.Φ r).rowGraft p i ch ψ),y,b,arr,el,he,hy,hbk,hheap,hfit,fun vs hvl hvs=>?_⟩
 have hother:∀ b',b'≠b→(w.setRow b (arr.toList.take (offOf y+(i * sz+j))++vs++arr.toList.drop (offOf y+(i * sz+j)+ts.length)).toArray).heap[b']?=w.heap[b']?:=fun b' hb'=>setRow_other _ _ _ _ hb'
 have hSb:∀ f b',s1.S f b'→b'≠b:=fun f b' hS e=>(h.own r p y b hy hbk).1 f (e▸hS)
 have hφb:∀ q z b',φ q=some z→blkOf z=some b'→b'≠b:=fun q z b' e1 e2 e=>ht.own.out q z b' e1 e2 r p y hy (by rw [hbk,e])
 refine h.setRow h1 h2 hget (setFrom_length _ _ _) (setRow_of h2 h4 h5) (fun k=>rfl) (fun k hk=>?_) (fun k u hk=>?_) (fun k o nw hc ho hn=>?_) (fun k hk=>?_) ⟨j,?_⟩ ?_ ⟨rfl,rfl,rfl,by simp⟩ (fun b' hb'=>hother b' (fun e=>hb' (by rw [hy,Option.bind_some,hbk,e]))) ?_
 ·have:=List.getElem?_eq_none_iff.mp hk
  show (if _ then _ else _)=_
  rw [if_neg (by omega)]
 ·rw [setFrom_get] at hk
  by_cases hjk:j≤k∧k<j+ts.length
  ·rw [if_pos ⟨hjk.1,hjk.2,by omega⟩] at hk
   refine .inl ⟨us (k - j),by show (if _ then _ else _)=_; rw [if_pos hjk],?_⟩
   have e:k=j+(k - j):=by omega
   have:=hψat (k - j) (by omega)
   rw [← e] at this
   rw [this]
   exact (ht.get _ _ hk).mono (fun f b' hS=>hother b' (hSb f b' hS)) (fun _ _ h=>h) (fun q z b' e1 e2=>hother b' (hφb _ _ _ e1 e2))
  ·rw [if_neg (by omega)] at hk
   exact .inr ⟨by show (if _ then _ else _)=_; rw [if_neg hjk],hk⟩
 ·have hjk:j≤k∧k<j+ts.length:=by
   simp only [ch,ys] at hc
   split at hc
   ·assumption
   ·cases hc
  rw [setFrom_get,if_pos ⟨hjk.1,hjk.2,by omega⟩] at hn
  have:=dsOf_spec (l:=jp p) (j:=j) (k:=k - j) (os:=dropN j cs) (ns:=ts) (o:=o) (n:=nw) (by rw [dropN_eq,List.getElem?_drop,show j+(k - j)=k by omega]; exact ho) hn
  rw [show j+(k - j)=k by omega] at this
  exact this
 ·have hjk:j≤k∧k<j+ts.length:=by
   simp only [ch,ys] at hk
   split at hk
   ·assumption
   ·cases hk
  have:=locksOk_spec hb3 (k:=k - j) (by omega)
  rwa [show j+(k - j)=k by omega] at this
 ·simp only [ch,ys]
  rw [if_pos (by omega)]; rfl
 ·refine ⟨fun q z q' z' b' e1 e2 e3 e4=>?_,fun q z b' e1 e2=>?_,fun q z b' e1 e2 r' p' z' e3=>?_⟩
  ·obtain ⟨q1,f1,l1,q0,rfl,rfl,g1⟩:=hψ q z e1
   obtain ⟨q2,f2,l2,q3,rfl,rfl,g2⟩:=hψ q' z' e3
   have:=ht.own.inj _ _ _ _ _ f1 e2 f2 e4
   simp only [List.cons.injEq,Prod.mk.injEq,true_and] at this
   rw [this.2,show l1=l2 by omega]
  ·obtain ⟨q1,f1,-⟩:=hψ q z e1
   have:=ht.own.own _ _ _ f1 e2
   exact ⟨this.1,by rw [setRow_size]; exact this.2.1,this.2.2⟩
  ·obtain ⟨q1,f1,-⟩:=hψ q z e1
   exact ht.own.out _ _ _ f1 e2 _ _ _ e3
 ·have key : ∃ b0, (s1.Φ r p).bind blkOf = some b0 ∧ ∀ arr0 el0, w.heap[b0]? = some (.cells arr0 el0 (0, 0)) → ∃ arr', (w.setRow b (arr.toList.take (offOf y + (i * sz + j)) ++ vs ++ arr.toList.drop (offOf y + (i * sz + j) + ts.length)).toArray).heap[b0]? = some (.cells arr' el0 (0, 0)) ∧ arr'.size = arr0.size ∧
   (∀ k z,ys k=some z→arr'[n.idx (s1.Φ r p) i k]?=some z)∧(∀ m,(∀ k z,ys k=some z→m≠n.idx (s1.Φ r p) i k)→arr'[m]?=arr0[m]?):=by
   refine ⟨b,by rw [hy,Option.bind_some,hbk],fun arr0 el0 h0=>?_⟩
   rw [hheap] at h0
   simp only [Option.some.injEq,Obj.cells.injEq,and_true] at h0
   obtain ⟨rfl,rfl⟩:=h0
   have hl1:(arr.toList.take (offOf y+(i * sz+j))).length=offOf y+(i * sz+j):=by simp; omega
   refine ⟨_,setRow_heap _ _ _ _ _ _ hheap,by simp; omega,fun k z hk=>?_,fun m hm=>?_⟩
   ·have hjk:j≤k∧k<j+ts.length:=by
     simp only [ys] at hk
     split at hk
     ·assumption
     ·cases hk
    simp only [ys] at hk
    rw [if_pos hjk] at hk
    rw [hidx,← hk]
    simp only [List.getElem?_toArray]
    rw [List.append_assoc,List.getElem?_append_right (by omega),hl1,List.getElem?_append_left (by omega)]
    rw [show offOf y+(i * sz+k) - (offOf y+(i * sz+j))=k - j by omega]
    exact hvs _ (by omega)
   ·simp only [List.getElem?_toArray]
    by_cases hlt:m<offOf y+(i * sz+j)
    ·rw [List.append_assoc,List.getElem?_append_left (by omega),List.getElem?_take,if_pos hlt]; simp
    ·have hge:offOf y+(i * sz+j)+ts.length≤m:=by
      refine Nat.le_of_not_lt fun hlt2=>?_
      refine hm (m - (offOf y+i * sz)) (us (m - (offOf y+(i * sz+j)))) ?_ ?_
      ·show (if _ then _ else _)=_
       rw [if_pos (by omega)]
       congr 2; omega
      ·rw [hidx]; omega
     rw [List.getElem?_append_right (by simp; omega),List.getElem?_drop]
     simp only [List.length_append,hl1,hvl]
     rw [show offOf y+(i * sz+j)+ts.length+(m - (offOf y+(i * sz+j)+ts.length))=m by omega]
     simp
  cases n with
  | vr=>exact absurd rfl (hnv _)
  | _=>exact key
def storeK (cx:Ctx) (x:X) (t:TypeId) (pd vd:D) (K:X→Option α):Option α:=(look cx.Ty t).bind fun i=>match pd with
 | .v (.c (.pt r p ip j sz))=>takeAllK i vd x fun ts x1=>putRowK x1 r p ip j sz ts K
 | _=>none
theorem store_sound (h:RelW B s x a w) {t:TypeId} {pd vd:D} {pv vv:Value} (hp:RepD w s pd pv) (hv:RepD w s vd vv) {K:X→Option α} {q:α} (he:storeK c x t pd vd K=some q) :
 ∃ x' s' w',K x'=some q∧(Instr.storeAt t pv vv).run c.P w = .ok () w'∧RelW B s' x' a w':=by
 unfold storeK at he
 obtain ⟨i,e1,he⟩:=Option.bind_eq_some_iff.mp he
 have hok:=c.hTy t i e1
 split at he
 rotate_left
 ·cases he
 rename_i r p ip j sz _
 obtain ⟨ts,x1,s1,us,φ,hK,tk⟩:=takeAll_sound h hv he
 obtain ⟨x',s',y,b,arr,el,k1,k2,k3,k4,k5,k6⟩:=putRow_sound tk.rel hK tk.tk
 cases hp with
 | v _ _ hp=>cases hp with
  | c _ _ hp=>cases hp with
   | pt _ _ _ _ _ y' b' g1 g2 =>
    have e2:=tk.sub _ _ _ k2
    rw [g1,Option.some.injEq] at e2
    subst e2
    rw [k3,Option.some.injEq] at g2
    subst g2
    have hlen:=tk.len
    have hsize:=tk.size
    refine ⟨x',s',_,k1,?_,k6 vv.cells.toList (by rw [Array.length_toList,hsize,hlen]) (fun m hm=>by rw [Array.getElem?_toList]; exact tk.vals m (by omega))⟩
    have hsz : ¬ (vv.cells.size≠i.size):=by rw [hsize]; simp
    have hst:=run_storeCells_at c.P b (offOf y'+(ip * sz+j)) el vv.cells.toList 0 arr w k4 (by
     rw [Array.length_toList,hsize,← hlen]; omega) tk.one
    simp only [Instr.storeAt,Instr.sureAddr,storeVar,Sem.run_bind,Sem.run_pure,Result.andThen_ok,hok.run_sizeOf,Sem.run_ite,if_neg hsz,hst]
    rw [Nat.add_zero,Array.length_toList,hsize,← hlen]
end
end Go.V
namespace Go.V
open Go.RowKit
variable {α:Type}
def putK (nt:Fr) (x:X) (k:Nat) (d:D) (K:X→Option α):Option α:=match inFr nt k with
 | true=>match mem x.pin k with
  | true=>none
  | false=>K { x with env:=(k,d) :: x.env }
 | false=>none
def newK (nt:Fr) (x:X) (k:Nat) (t:T) (y:C) (K:X→Option α):Option α:=(x.hang k [t]).bind fun x'=>putK nt x' k (.v (.c y)) K
def topLay (v:Value) (χ:Lay):Lay:=fun q=>match q with
 | []=>some v
 | c :: q=>χ (c :: q)
def inVr (ψ:Lay):Lay:=fun q=>match q with
 | []=>none
 | (i,j) :: q=>if i=0∧j=0 then ψ q else none
section
variable {c:Ctx} {B:Base} {s:Sit} {x:X} {a:Act} {w:World}
theorem put_sound {nt:Fr} {k:Nat} {d:D} {v:Value} {K:X→Option α} {q:α} (hnt:B.nt=nt) (h:RelW B s x a w) (he:putK nt x k d K=some q) (hv:RepD w s d v) :
 ∃ x',K x'=some q∧RelW B s x' (a.gput B k v) w:=by
 unfold putK at he
 split at he
 ·rename_i hb
  rw [← hnt] at hb
  split at he
  ·cases he
  ·rename_i hm
   exact ⟨_,he,h.put hb (fun e=>by rw [(mem_iff _ _).2 e] at hm; cases hm) hv⟩
 ·cases he
theorem putK_in {nt:Fr} {k:Nat} {d:D} {K:X→Option α} {q:α} (he:putK nt x k d K=some q):inFr nt k=true:=by
 unfold putK at he
 split at he
 ·rename_i hb; exact hb
 ·cases he
theorem inVr_cons (ψ:Lay):(inVr ψ).at 0 0=ψ:=by funext q; simp [Lay.at,inVr]
theorem inVr_some {ψ:Lay} {q:Path} {y:Value} (h:inVr ψ q=some y):∃ q',q=(0,0) :: q'∧ψ q'=some y:=by
 match q with
 | []=>cases h
 | (i,j) :: q =>
  simp only [inVr] at h
  split at h
  ·rename_i e; obtain ⟨rfl,rfl⟩:=e; exact ⟨q,rfl,h⟩
  ·cases h
theorem OwnOut.inVr {ψ:Lay} (h:OwnOut B s w ψ):OwnOut B s w (inVr ψ):=by
 refine ⟨fun q y q' y' b e1 e2 e3 e4=>?_,fun q y b e1 e2=>?_,fun q y b e1 e2 r p z e3=>?_⟩
 ·obtain ⟨q1,rfl,f1⟩:=inVr_some e1
  obtain ⟨q2,rfl,f2⟩:=inVr_some e3
  rw [h.inj _ _ _ _ _ f1 e2 f2 e4]
 ·obtain ⟨q1,rfl,f1⟩:=inVr_some e1
  exact h.own _ _ _ f1 e2
 ·obtain ⟨q1,rfl,f1⟩:=inVr_some e1
  exact h.out _ _ _ f1 e2 _ _ _ e3
theorem RepO.inVr {S:Fl→Nat→Prop} {t:T} {y:Value} {ψ:Lay} (h:RepO w S t y ψ) (x0:Value):RepO w S (.vr [t]) x0 (inVr ψ):=by
 refine .vr [t] x0 (fun _=>y) _ (fun j u hu=>?_) rfl (fun i j hij=>?_)
 ·cases j with
  | zero =>
   simp only [List.getElem?_cons_zero,Option.some.injEq] at hu
   subst hu
   rw [inVr_cons]; exact h
  | succ j=>simp at hu
 ·funext q
  simp only [Lay.at,V.inVr,noLay]
  rw [if_neg]
  rintro ⟨rfl,rfl⟩
  rcases hij with hij | hij
  ·exact hij rfl
  ·simp at hij
theorem new_sound {nt:Fr} {k:Nat} {t:T} {y:C} {u v:Value} {ψ:Lay} {K:X→Option α} {q:α} (hnt:B.nt=nt) (h:RelW B s x a w) (he:newK nt x k t y K=some q) (hy:RepO w s.S t u ψ) (ho:OwnOut B s w ψ)
 (hv:∀ s',s'.S=s.S→(∀ p,s'.Φ k ((0,0) :: p)=ψ p)→RepC w s' y v):∃ x' s',K x'=some q∧RelW B s' x' (a.gput B k v) w:=by
 obtain ⟨x1,h1,he⟩:=Option.bind_eq_some_iff.mp he
 have hr:=h.hang (hy.inVr .nilIface) ho.inVr h1
 obtain ⟨x',h2,h3⟩:=put_sound hnt hr he (.v _ _ (.c _ _ (hv _ rfl (fun p=>by rw [setΦ_same]; simp [V.inVr]))))
 exact ⟨x',_,h2,h3⟩
theorem topLay_at (v:Value) (χ:Lay) (i j:Nat):(topLay v χ).at i j=χ.at i j:=rfl
theorem heap_push_lt {o:Obj} {b:Nat} (hb:b<w.heap.size):({ w with heap:=w.heap.push o }:World).heap[b]?=w.heap[b]?:=by
 simp [Array.getElem?_push,Nat.ne_of_lt hb]
theorem topLay_out {χ:Lay} {v:Value} {o:Obj} (h:RelW B s x a w) (ho:OwnOut B s w χ) (hv:∀ b,blkOf v=some b→b=w.heap.size) :
 OwnOut B s { w with heap:=w.heap.push o } (topLay v χ):=by
 refine ⟨fun q y q' y' b e1 e2 e3 e4=>?_,fun q y b e1 e2=>?_,fun q y b e1 e2 r p z e3 e4=>?_⟩
 ·cases q with
  | nil =>
   simp only [topLay,Option.some.injEq] at e1
   subst e1
   have hb:=hv _ e2
   cases q' with
   | nil=>rfl
   | cons c0 q' =>
    have:=(ho.own _ _ _ e3 e4).2.1
    omega
  | cons c0 q =>
   cases q' with
   | nil =>
    simp only [topLay,Option.some.injEq] at e3
    subst e3
    have hb:=hv _ e4
    have:=(ho.own _ _ _ e1 e2).2.1
    omega
   | cons c1 q'=>exact ho.inj _ _ _ _ _ e1 e2 e3 e4
 ·cases q with
  | nil =>
   simp only [topLay,Option.some.injEq] at e1
   subst e1
   have hb:=hv _ e2
   subst hb
   exact ⟨fun f hS=>by have:=h.slt _ _ hS; omega,by simp,.inr h.grow⟩
  | cons c0 q =>
   have:=ho.own _ _ _ e1 e2
   exact ⟨this.1,by simp; omega,this.2.2⟩
 ·cases q with
  | nil =>
   simp only [topLay,Option.some.injEq] at e1
   subst e1
   have hb:=hv _ e2
   have:=(h.own _ _ _ _ e3 e4).2.1
   omega
  | cons c0 q=>exact ho.out _ _ _ e1 e2 _ _ _ e3 e4
theorem RelW.push (h:RelW B s x a w) (o:Obj):RelW B s x a { w with heap:=w.heap.push o } :=
 h.world (fun b hb=>heap_push_lt hb) (by simp) rfl rfl rfl
theorem box_rep {ts:List T} {us:Nat→Value} {φ:Lay} (h:RelW B s x a w) (ht:Taken B s w ts us φ) {arr:Array Value} {el:TypeId} (hsz:ts.length≤arr.size) (hu:∀ j,j<ts.length→arr[j]?=some (us j)) :
 RepO { w with heap:=w.heap.push (.cells arr el) } s.S (.pp .own ts) (.pointer (some ⟨w.heap.size,0,none⟩)) (topLay (.pointer (some ⟨w.heap.size,0,none⟩)) φ):=by
 refine .box _ ts rfl w.heap.size arr el us _ (by simp) hsz (fun j t e=>hu j (List.getElem?_eq_some_iff.mp e).1) (fun j t e=>?_) rfl (fun i j hij=>?_)
 ·rw [topLay_at]
  exact (ht.get j t e).mono (fun f b hS=>heap_push_lt (h.slt _ _ hS)) (fun _ _ h=>h) (fun p z b e1 e2=>heap_push_lt (ht.own.own _ _ _ e1 e2).2.1)
 ·rw [topLay_at]
  exact ht.out i j hij
def packN (e:Ty):Nat→List T→Option (List (den e))
 | 0,[]=>some []
 | 0,_ :: _=>none
 | n+1,ts=>(pack .own e ts).bind fun p=>(packN e n p.2).map (p.1 :: ·)
theorem packN_some {e:Ty}:∀ {n:Nat} {ts:List T} {xs:List (den e)},packN e n ts=some xs→xs.length=n∧ts.length=n * e.size∧∀ i j t,cellOf (rows .own e xs) i j=some t→ts[i * e.size+j]?=some t
 | 0,[],xs,h=>by simp only [packN,Option.some.injEq] at h; subst h; exact ⟨rfl,by simp,fun i j t e=>by simp [cellOf,rows] at e⟩
 | 0,t :: ts,xs,h=>by cases h
 | n+1,ts,xs,h=>by
  obtain ⟨⟨d,ts'⟩,h1,h⟩:=Option.bind_eq_some_iff.mp h
  obtain ⟨ys,h2,rfl⟩:=Option.map_eq_some_iff.mp h
  obtain ⟨g1,g2,g3⟩:=packN_some h2
  have:=pack_some .own e h1
  subst this
  simp only at g2 g3
  refine ⟨by simp [g1],by simp [length_cells,g2,Nat.add_mul]; omega,fun i j t e'=>?_⟩
  have hj:=(rows_lt e').2
  cases i with
  | zero =>
   rw [cellOf_rows] at e'
   simp only [List.getElem?_cons_zero,Option.bind_some,nth_eq] at e'
   rw [Nat.zero_mul,Nat.zero_add,List.getElem?_append_left (by rw [length_cells]; exact hj)]
   exact e'
  | succ i =>
   have:=g3 i j t (by rw [cellOf_rows] at e' ⊢; simpa using e')
   rw [List.getElem?_append_right (by rw [length_cells,Nat.add_mul]; omega),length_cells]
   rw [show (i+1) * e.size+j - e.size=i * e.size+j by rw [Nat.add_mul]; omega]
   exact this
def rowLay (φ:Lay) (n sz:Nat):Lay:=fun q=>match q with
 | []=>none
 | (i,j) :: q=>if i<n∧j<sz then φ ((0,i * sz+j) :: q) else none
theorem rowLay_some {φ:Lay} {n sz:Nat} {q:Path} {y:Value} (h:rowLay φ n sz q=some y):∃ i j q0,q=(i,j) :: q0∧i<n∧j<sz∧φ ((0,i * sz+j) :: q0)=some y:=by
 match q with
 | []=>cases h
 | (i,j) :: q =>
  simp only [rowLay] at h
  split at h
  ·rename_i e; exact ⟨i,j,q,rfl,e.1,e.2,h⟩
  ·cases h
theorem rowLay_out {φ:Lay} {n sz:Nat} (h:OwnOut B s w φ):OwnOut B s w (rowLay φ n sz):=by
 refine ⟨fun q y q' y' b e1 e2 e3 e4=>?_,fun q y b e1 e2=>?_,fun q y b e1 e2 r p z e3=>?_⟩
 ·obtain ⟨i,j,q1,rfl,a1,b1,f1⟩:=rowLay_some e1
  obtain ⟨k,l,q2,rfl,a2,b2,f2⟩:=rowLay_some e3
  have:=h.inj _ _ _ _ _ f1 e2 f2 e4
  simp only [List.cons.injEq,Prod.mk.injEq,true_and] at this
  obtain ⟨rfl,rfl⟩:=flat_inj b1 b2 this.1
  rw [this.2]
 ·obtain ⟨i,j,q1,rfl,a1,b1,f1⟩:=rowLay_some e1
  exact h.own _ _ _ f1 e2
 ·obtain ⟨i,j,q1,rfl,a1,b1,f1⟩:=rowLay_some e1
  exact h.out _ _ _ f1 e2 _ _ _ e3
theorem sl_rep {e:Ty} {xs:List (den e)} {cap:Nat} {χ:Lay} (h:RelW B s x a w) (ho:OwnOut B s w χ) {arr:Array Value} {el:TypeId} (hn:xs.length≤cap) (hsz:cap * e.size≤arr.size)
 (hc:∀ i j t,cellOf (rows .own e xs) i j=some t→∃ u,arr[i * e.size+j]?=some u∧RepO w s.S t u (χ.at i j)) (hn0:∀ i j,cellOf (rows .own e xs) i j=none→χ.at i j=noLay) :
 RepO { w with heap:=w.heap.push (.cells arr el) } s.S (.sl .own e xs) (.slice (some ⟨w.heap.size,0,none⟩) xs.length cap) (topLay (.slice (some ⟨w.heap.size,0,none⟩) xs.length cap) χ):=by
 cases cap with
 | zero =>
  have:xs=[]:=List.length_eq_zero_iff.mp (by omega)
  subst this
  refine .nil e _ _ rfl (fun c0 p=>?_)
  obtain ⟨i,j⟩:=c0
  exact congrFun (hn0 i j (by simp [cellOf,rows])) p
 | succ cap =>
  have hex:∀ i j,∃ u,∀ t,cellOf (rows .own e xs) i j=some t→arr[i * e.size+j]?=some u∧RepO w s.S t u (χ.at i j):=by
   intro i j
   cases hh:cellOf (rows .own e xs) i j with
   | none=>exact ⟨.nilIface,fun t e=>by cases e⟩
   | some t =>
    obtain ⟨u,g1,g2⟩:=hc i j t hh
    exact ⟨u,fun t' e=>by cases e; exact ⟨g1,g2⟩⟩
  have hch:∃ vs:Nat→Nat→Value,∀ i j t,cellOf (rows .own e xs) i j=some t→arr[i * e.size+j]?=some (vs i j)∧RepO w s.S t (vs i j) (χ.at i j) :=
   ⟨fun i j=>(hex i j).choose,fun i j=>(hex i j).choose_spec⟩
  obtain ⟨vs,hvs⟩:=hch
  refine .sl e xs w.heap.size 0 cap arr el vs _ (by simp) hn (by omega) (fun i j t e'=>by rw [Nat.zero_add]; exact (hvs i j t e').1) (fun i j t e'=>?_) rfl (fun i j e'=>hn0 i j e')
  rw [topLay_at]
  exact (hvs i j t e').2.mono (fun f b hS=>heap_push_lt (h.slt _ _ hS)) (fun _ _ h=>h) (fun p z b e1 e2=>heap_push_lt (ho.own ((i,j) :: p) _ _ e1 e2).2.1)
theorem rows_hc {e:Ty} {n:Nat} {ts:List T} {xs:List (den e)} {us:Nat→Value} {φ:Lay} (ht:Taken B s w ts us φ) (hp:packN e n ts=some xs) {arr:Array Value} (hu:∀ j,j<ts.length→arr[j]?=some (us j)) :
 (∀ i j t,cellOf (rows .own e xs) i j=some t→∃ u,arr[i * e.size+j]?=some u∧RepO w s.S t u ((rowLay φ n e.size).at i j))∧(∀ i j,cellOf (rows .own e xs) i j=none→(rowLay φ n e.size).at i j=noLay):=by
 obtain ⟨g1,g2,g3⟩:=packN_some hp
 refine ⟨fun i j t e'=>?_,fun i j e'=>?_⟩
 ·have hlt:=rows_lt e'
  have hg:=g3 i j t e'
  refine ⟨us (i * e.size+j),hu _ (List.getElem?_eq_some_iff.mp hg).1,?_⟩
  have:(rowLay φ n e.size).at i j=φ.at 0 (i * e.size+j):=by
   funext q
   simp only [Lay.at,rowLay]
   rw [if_pos ⟨by omega,hlt.2⟩]
  rw [this]
  exact ht.get _ _ hg
 ·funext q
  simp only [Lay.at,rowLay,noLay]
  split
  ·rename_i hij
   exfalso
   rw [cellOf_rows,List.getElem?_eq_getElem (by omega),Option.bind_some,nth_eq] at e'
   have:=List.getElem?_eq_none_iff.mp e'
   rw [length_cells] at this
   omega
  ·rfl
def zTs:List Value→List (Option Ty)→List T
 | v :: vs,z :: zs=>(match z with | some e=>.sl .own e [] | none=>.v v) :: zTs vs zs
 | _,_=>[]
theorem zTs_get:∀ {vs:List Value} {zs:List (Option Ty)} (_:vs.length=zs.length) (j:Nat),(zTs vs zs)[j]?=(vs[j]?).bind fun v=>(zs[j]?).map fun z=>(match z with | some e=>.sl .own e [] | none=>.v v)
 | [],[],_,j=>by simp [zTs]
 | v :: vs,z :: zs,h,0=>by simp [zTs]
 | v :: vs,z :: zs,h,j+1=>by simpa [zTs] using zTs_get (by simpa using h) j
theorem zTs_length:∀ {vs:List Value} {zs:List (Option Ty)} (_:vs.length=zs.length),(zTs vs zs).length=vs.length
 | [],[],_=>rfl
 | v :: vs,z :: zs,h=>by simp [zTs,zTs_length (by simpa using h:vs.length=zs.length)]
def zLay (zs:List (Option Ty)):Lay:=fun q=>match q with
 | [(i,j)]=>if i=0 then (match zs[j]? with | some (some _)=>some (.slice none 0 0) | _=>none) else none
 | _=>none
theorem zTaken {vs:List Value} {zs:List (Option Ty)} (hz:zeroOk vs zs=true):Taken B s w (zTs vs zs) (fun j=>(vs[j]?).getD .nilIface) (zLay zs):=by
 obtain ⟨hlen,hall⟩:=zeroOk_spec hz
 have hb:∀ q y,zLay zs q=some y→blkOf y=none:=by
  intro q y h
  match q with
  | []=>cases h
  | [(i,j)] =>
   simp only [zLay] at h
   split at h
   ·split at h
    ·cases h; rfl
    ·cases h
   ·cases h
  | _ :: _ :: _=>cases h
 refine ⟨fun j t e=>?_,rfl,fun i j hij=>?_,⟨fun q y q' y' b e1 e2 _ _=>absurd ((hb _ _ e1).symm.trans e2) nofun,fun q y b e1 e2=>absurd ((hb _ _ e1).symm.trans e2) nofun,fun q y b e1 e2 _ _ _ _=>absurd ((hb _ _ e1).symm.trans e2) nofun⟩⟩
 ·rw [zTs_get hlen] at e
  obtain ⟨v,e1,e⟩:=Option.bind_eq_some_iff.mp e
  obtain ⟨z,e2,rfl⟩:=Option.map_eq_some_iff.mp e
  obtain ⟨g1,z',g2,g3⟩:=hall j v e1
  rw [e2,Option.some.injEq] at g2
  subst g2
  simp only [e1,Option.getD_some]
  cases z with
  | none =>
   have:(zLay zs).at 0 j=noLay:=by funext q; cases q <;> simp [Lay.at,zLay,e2,noLay]
   rw [this]
   exact .sh _ _ (.v v g1) rfl
  | some e0 =>
   rw [g3 e0 rfl]
   refine .nil e0 none _ ?_ (fun c0 p=>rfl)
   simp [Lay.at,zLay,e2]
 ·funext q
  cases q with
  | nil =>
   simp only [Lay.at,zLay,noLay]
   rcases hij with hij | hij
   ·rw [if_neg hij]
   ·have:zs[j]?=none:=by
     rw [List.getElem?_eq_none_iff] at hij ⊢
     rw [zTs_length hlen] at hij
     omega
    rw [this]; simp
  | cons=>rfl
def freshB (zero:List Value) (zel:List (Option Ty)):Bool:=match zero with
 | []=>false
 | v :: l=>match v with
  | .pointer a=>match a with
   | some _=>false
   | none=>match l with
    | []=>false
    | v1 :: l1=>match l1 with
     | _ :: _=>false
     | []=>match v1 with
      | .slice a1 n c=>match a1 with
       | some _=>false
       | none=>match zel with
        | []=>false
        | _ :: zl=>match zl with
         | []=>false
         | z1 :: _=>match z1 with
          | none=>false
          | some e=>and (and (Nat.beq n 0) (Nat.beq c 0)) (e.beq (.int .u8))
      | _=>false
  | _=>false
theorem freshB_some {zero:List Value} {zel:List (Option Ty)} (h:freshB zero zel=true):zero=[.pointer none,.slice none 0 0]∧zel[1]?=some (some (.int .u8)):=by
 unfold freshB at h
 split at h
 ·cases h
 split at h
 rotate_left
 ·cases h
 split at h
 ·cases h
 split at h
 ·cases h
 split at h
 ·cases h
 split at h
 rotate_left
 ·cases h
 split at h
 ·cases h
 split at h
 ·cases h
 split at h
 ·cases h
 split at h
 ·cases h
 simp only [Bool.and_eq_true] at h
 obtain ⟨⟨h1,h2⟩,h3⟩:=h
 rw [Nat.eq_of_beq_eq_true h1,Nat.eq_of_beq_eq_true h2,Ty.beq_eq h3]
 exact ⟨rfl,rfl⟩
def fieldEl (cx:Ctx) (i:TyInfo):Nat:=match i.d with
 | .st l=>match l with
  | []=>0
  | _ :: l=>match l with
   | []=>0
   | f :: _=>match look cx.Ty f.2 with
    | some j=>match j.d with
     | .sl e=>e
     | _=>0
    | none=>0
 | _=>0
def newBox (t:Nat×Nat) (zero:List Value) (zel:List (Option Ty)):T:=match freshB zero zel with
 | true=>.bld t []
 | false=>.pp .own (zTs zero zel)
def allocK (cx:Ctx) (nt:Fr) (x:X) (t:TypeId) (k:Nat) (K:X→Option α):Option α:=(look cx.Ty t).bind fun i=>match and (zeroOk i.zero i.zel) (Nat.ble 1 i.size) with
 | true=>newK nt x k (newBox (t,fieldEl cx i) i.zero i.zel) (.pt k [(0,0)] 0 0 i.size) K
 | false=>none
theorem alloc_sound {nt:Fr} (hnt:B.nt=nt) (h:RelW B s x a w) {t:TypeId} {k:Nat} {K:X→Option α} {q:α} (he:allocK c nt x t k K=some q) :
 ∃ x' s' u w',K x'=some q∧(Instr.alloc t true (.tuple #[])).run c.P w = .ok u w'∧RelW B s' x' (a.gput B k u) w':=by
 unfold allocK at he
 obtain ⟨i,e1,he⟩:=Option.bind_eq_some_iff.mp he
 have hok:=c.hTy t i e1
 split at he
 rotate_left
 ·cases he
 rename_i hb
 simp only [Bool.and_eq_true] at hb
 obtain ⟨z,hz1,hz2⟩:=hok.run_zeroValue w
 have htk:=zTaken (B:=B) (s:=s) (w:=w) hb.1
 obtain ⟨hlen,hall⟩:=zeroOk_spec hb.1
 have hrep0:=box_rep (arr:=z.cells) (el:=t) h htk (by rw [zTs_length hlen,← hz2]; simp) (fun j hj=>by
  rw [zTs_length hlen] at hj
  rw [← Array.getElem?_toList,hz2,List.getElem?_eq_getElem hj]; rfl)
 have hrep:RepO { w with heap:=w.heap.push (.cells z.cells t) } s.S (newBox (t,fieldEl c i) i.zero i.zel) (.pointer (some ⟨w.heap.size,0,none⟩)) (topLay (.pointer (some ⟨w.heap.size,0,none⟩)) (zLay i.zel)):=by
  unfold newBox
  cases hf:freshB i.zero i.zel with
  | false=>exact hrep0
  | true =>
   obtain ⟨f1,f2⟩:=freshB_some hf
   have hcells:z.cells = #[.pointer none,.slice none 0 0]:=by
    apply Array.ext'; rw [hz2,f1]
   refine .bld _ [] w.heap.size (.pointer none) (.slice none 0 0) _ (by simp [hcells]) (.inl rfl) (.inl ⟨rfl,rfl⟩) rfl ?_ (fun q hq1 hq2=>?_)
   ·simp [topLay,zLay,f2]
   ·have hz0:i.zel.length=2:=by rw [← hlen,f1]; rfl
    match q with
    | []=>exact absurd rfl hq1
    | _ :: _ :: _=>rfl
    | [(i',j)] =>
     show zLay i.zel [(i',j)]=none
     simp only [zLay]
     by_cases hi:i'=0
     ·subst hi
      rw [if_pos rfl]
      match j with
      | 0 =>
       obtain ⟨g1,z',g2,g3⟩:=hall 0 (.pointer none) (by rw [f1]; rfl)
       rw [g2]
       cases z' with
       | none=>rfl
       | some e0=>exact absurd (g3 e0 rfl) nofun
      | 1=>exact absurd rfl hq2
      | j+2 =>
       have:i.zel[j+2]?=none:=List.getElem?_eq_none (by omega)
       rw [this]
     ·rw [if_neg hi]
 have hout:=topLay_out (o:=.cells z.cells t) (v:=.pointer (some ⟨w.heap.size,0,none⟩)) h htk.own (fun b hb=>by simp only [blkOf,Option.some.injEq] at hb; exact hb.symm)
 obtain ⟨x',s',k1,k2⟩:=new_sound (v:=.pointer (some ⟨w.heap.size,0,none⟩)) hnt (h.push _) he hrep hout (fun s' _ hΦ=>by
  have:=RepC.pt (w:={ w with heap:=w.heap.push (.cells z.cells t) }) (s:=s') k [(0,0)] 0 0 i.size _ w.heap.size (hΦ []) rfl
  simpa [offOf] using this)
 exact ⟨x',s',_,_,k1,by simp [Instr.alloc,hz1,newVar,newRow],k2⟩
def boxK (cx:Ctx) (nt:Fr) (x:X) (t:TypeId) (vd:D) (k:Nat) (K:X→Option α):Option α:=(look cx.Ty t).bind fun i =>
 takeAllK i vd x fun ts x1=>newK nt x1 k (.pp .own ts) (.pt k [(0,0)] 0 0 i.size) K
theorem box_sound {nt:Fr} (hnt:B.nt=nt) (h:RelW B s x a w) {t:TypeId} {vd:D} {vv:Value} (hv:RepD w s vd vv) {k:Nat} {K:X→Option α} {q:α} (he:boxK c nt x t vd k K=some q) :
 ∃ x' s' u w',K x'=some q∧(Instr.box t vv).run c.P w = .ok u w'∧RelW B s' x' (a.gput B k u) w':=by
 unfold boxK at he
 obtain ⟨i,e1,he⟩:=Option.bind_eq_some_iff.mp he
 obtain ⟨ts,x1,s1,us,φ,hK,tk⟩:=takeAll_sound h hv he
 have hlen:=tk.len
 have hsize:=tk.size
 have hrep:=box_rep (arr:=vv.cells) (el:=t) tk.rel tk.tk (by omega) (fun j hj=>tk.vals j (by omega))
 have hout:=topLay_out (o:=.cells vv.cells t) (v:=.pointer (some ⟨w.heap.size,0,none⟩)) tk.rel tk.tk.own (fun b hb=>by simp only [blkOf,Option.some.injEq] at hb; exact hb.symm)
 obtain ⟨x',s',k1,k2⟩:=new_sound (v:=.pointer (some ⟨w.heap.size,0,none⟩)) hnt (tk.rel.push _) hK hrep hout (fun s' _ hΦ=>by
  have:=RepC.pt (w:={ w with heap:=w.heap.push (.cells vv.cells t) }) (s:=s') k [(0,0)] 0 0 i.size _ w.heap.size (hΦ []) rfl
  simpa [offOf] using this)
 exact ⟨x',s',_,_,k1,by simp [Instr.box,newVar,newRow],k2⟩
end
end Go.V
namespace Go.V
open Go.RowKit
variable {α:Type}
def stripB:Path→Path→Option Path
 | [],q=>some q
 | _ :: _,[]=>none
 | c :: p,d :: q=>match and (Nat.beq c.1 d.1) (Nat.beq c.2 d.2) with
  | true=>stripB p q
  | false=>none
theorem stripB_some:∀ {p q r:Path},stripB p q=some r→q=p++r
 | [],q,r,h=>by
  simp only [stripB,Option.some.injEq] at h
  simp [h]
 | _ :: _,[],r,h=>by cases h
 | (a,b) :: p,(c,d) :: q,r,h=>by
  simp only [stripB] at h
  split at h
  ·rename_i hb
   simp only [Bool.and_eq_true] at hb
   rw [Nat.eq_of_beq_eq_true hb.1,Nat.eq_of_beq_eq_true hb.2,stripB_some h]; rfl
  ·cases h
def movedC (r:Nat) (p:Path) (k:Nat) (base:Path):C→Option C
 | .pt r' p' i j sz=>match Nat.beq r' r with
  | true=>(stripB p p').map fun q=>.pt k (app base q) i j sz
  | false=>none
 | _=>none
def movedE (env:List (Nat×D)) (r:Nat) (p:Path) (k:Nat) (base:Path):List (Nat×D)→List (Nat×D)
 | []=>[]
 | e :: l=>match look env e.1 with
  | some d=>match d with
   | .v (.c y)=>match movedC r p k base y with
    | some z=>(e.1,.v (.c z)) :: movedE env r p k base l
    | none=>movedE env r p k base l
   | _=>movedE env r p k base l
  | none=>movedE env r p k base l
theorem movedE_some {env:List (Nat×D)} {r:Nat} {p:Path} {k:Nat} {base:Path}:∀ {l:List (Nat×D)} {m:Nat} {d:D},look (movedE env r p k base l) m=some d→∃ y z,look env m=some (.v (.c y))∧movedC r p k base y=some z∧d = .v (.c z)
 | [],m,d,h=>by cases h
 | e :: l,m,d,h=>by
  unfold movedE at h
  split at h
  ·rename_i d' hd
   split at h
   ·rename_i y
    split at h
    ·rename_i z hz
     rw [look_cons] at h
     split at h
     ·rename_i hk
      simp only [Option.some.injEq] at h
      subst hk h
      exact ⟨y,z,hd,hz,rfl⟩
     ·exact movedE_some h
    ·exact movedE_some h
   ·exact movedE_some h
  ·exact movedE_some h
section
variable {c:Ctx} {B:Base} {s:Sit} {x:X} {a:Act} {w:World}
theorem look_appM {β:Type} (l m:List (Nat×β)) (k:Nat):look (app l m) k=match look l k with | some x=>some x | none=>look m k:=by
 induction l with
 | nil=>rfl
 | cons e l ih =>
  obtain ⟨j,b⟩:=e
  simp only [app,look_cons]
  by_cases h:k=j
  ·simp [h]
  ·simp [h,ih]
theorem RelW.moved {w':World} {s2:Sit} {x2:X} (h:RelW B s x a w) (h2:RelW B s2 x2 a w') {r:Nat} {p:Path} {k:Nat} {base:Path} (hΦ:∀ q,s2.Φ k (base++q)=s.Φ r (p++q)) :
 RelW B s2 { x2 with env:=app (movedE x.env r p k base x.env) x2.env } a w' :=
 { h2 with
  env:=fun m d hd=>by
   have hd:look (app (movedE x.env r p k base x.env) x2.env) m=some d:=hd
   rw [look_appM] at hd
   cases hk:look (movedE x.env r p k base x.env) m with
   | none=>rw [hk] at hd; exact h2.env m d hd
   | some d' =>
    rw [hk] at hd
    simp only [Option.some.injEq] at hd
    subst hd
    obtain ⟨y,z,f1,f2,rfl⟩:=movedE_some hk
    obtain ⟨u,f3,f4⟩:=h.env m _ f1
    refine ⟨u,f3,?_⟩
    cases f4 with
    | v _ _ f4=>cases f4 with
     | c _ _ f4 =>
      refine .v _ _ (.c _ _ ?_)
      cases f4 with
      | pt r' p' i j sz x0 b g1 g2 =>
       simp only [movedC] at f2
       split at f2
       ·rename_i hb
        obtain ⟨q,e1,rfl⟩:=Option.map_eq_some_iff.mp f2
        rw [Nat.eq_of_beq_eq_true hb,stripB_some e1] at g1
        rw [app_eq]
        exact .pt k (base++q) i j sz x0 b (by rw [hΦ]; exact g1) g2
       ·cases f2
      | _=>simp [movedC] at f2 }
theorem RelW.takeP (h:RelW B s x a w) {r:Nat} {c0:Nat×Nat} {p:Path} {sz:Nat} {v:Value} (hy:RepC w s (.pt r (c0 :: p) 0 0 sz) v) {old:T} {x1:X} (h1:x.at r (c0 :: p)=some old) (h2:x.setAt r (c0 :: p) old .dead=some x1) {cs:List T} (hbox:old.box?=some cs) :
 ∃ b,v = .pointer (some ⟨b,0,none⟩)∧RepO w s.S old v ((s.Φ r).under (c0 :: p))∧RelW B (setΦ s r ((s.Φ r).graft (c0 :: p) noLay)) x1 a w∧OwnOut B (setΦ s r ((s.Φ r).graft (c0 :: p) noLay)) w ((s.Φ r).under (c0 :: p))∧(s.Φ r).under (c0 :: p) []=some v:=by
 obtain ⟨p0,i,j,hp⟩:=last_split (p:=c0 :: p) (by simp)
 rw [hp] at h1 h2 hy ⊢
 obtain ⟨y1,g1,g2,g3⟩:=h.take h1 h2
 cases hy with
 | pt _ _ _ _ _ x0 b hΦ hb =>
  have e1:((s.Φ r).under (p0++[(i,j)])) []=some x0:=by rw [Lay.under_apply_nil]; exact hΦ
  have hval:y1 = .pointer (some ⟨b,0,none⟩)∧x0 = .pointer (some ⟨b,0,none⟩):=by
   generalize (s.Φ r).under (p0++[(i,j)])=φ at g1 e1
   cases g1 with
   | sh _ _ _ ht'=>cases old with
    | pp f cs'=>cases f <;> simp [T.isSh] at ht' <;> simp [T.box?] at hbox
    | pt f e d=>cases f <;> simp [T.isSh] at ht' <;> simp [T.box?] at hbox
    | po=>simp [T.isSh] at ht'
    | _=>simp [T.box?] at hbox
   | nil=>simp [T.box?] at hbox
   | sl=>simp [T.box?] at hbox
   | slo=>simp [T.box?] at hbox
   | vr=>simp [T.box?] at hbox
   | bld=>simp [T.box?] at hbox
   | box _ cs ht b' arr el vs φ hb' hsz hc' hr h0' hn' =>
    rw [h0',Option.some.injEq] at e1
    subst e1
    simp only [blkOf,Option.some.injEq] at hb
    subst hb
    exact ⟨rfl,rfl⟩
  obtain ⟨rfl,rfl⟩:=hval
  have hz:offOf (Value.pointer (some ⟨b,0,none⟩))+(0 * sz+0)=0:=by simp [offOf]
  rw [hz]
  exact ⟨b,rfl,g1,g2,g3,e1⟩
def boxPK (cx:Ctx) (nt:Fr) (x:X) (t:TypeId) (r:Nat) (p:Path) (k:Nat) (K:X→Option α):Option α:=(look cx.Ty t).bind fun i=>match p with
 | []=>none
 | _ :: _=>setAtK x r p .dead fun old x1=>(old.box?).bind fun _=>(x1.hang k [.pp .own [old]]).bind fun x2 =>
  putK nt { x2 with env:=app (movedE x.env r p k [(0,0),(0,0)] x.env) x2.env } k (.v (.c (.pt k [(0,0)] 0 0 i.size))) K
theorem boxP_sound {nt:Fr} (hnt:B.nt=nt) (h:RelW B s x a w) {t:TypeId} {r:Nat} {p:Path} {sz:Nat} {vv:Value} (hv:RepD w s (.v (.c (.pt r p 0 0 sz))) vv) {k:Nat} {K:X→Option α} {q:α} (he:boxPK c nt x t r p k K=some q) :
 ∃ x' s' u w',K x'=some q∧(Instr.box t vv).run c.P w = .ok u w'∧RelW B s' x' (a.gput B k u) w':=by
 unfold boxPK at he
 obtain ⟨i,e1,he⟩:=Option.bind_eq_some_iff.mp he
 cases p with
 | nil=>cases he
 | cons c0 p =>
 simp only at he
 obtain ⟨old,x1,h1,h2,he⟩:=setAtK_some he
 obtain ⟨cs,hbox,he⟩:=Option.bind_eq_some_iff.mp he
 obtain ⟨x2,h3,he⟩:=Option.bind_eq_some_iff.mp he
 have hv':RepC w s (.pt r (c0 :: p) 0 0 sz) vv:=by cases hv with | v _ _ hv=>cases hv with | c _ _ hv=>exact hv
 obtain ⟨b,rfl,g1,g2,g3,g4⟩:=h.takeP hv' h1 h2 hbox
 generalize hs1:setΦ s r ((s.Φ r).graft (c0 :: p) noLay)=s1 at g2 g3
 have hS:s1.S=s.S:=by rw [← hs1]; rfl
 rw [← hS] at g1
 have htk:Taken B s1 w [old] (fun _=>.pointer (some ⟨b,0,none⟩)) (inVr ((s.Φ r).under (c0 :: p))):=by
  refine ⟨fun j t e=>?_,rfl,fun i j hij=>?_,g3.inVr⟩
  ·cases j with
   | zero =>
    simp only [List.getElem?_cons_zero,Option.some.injEq] at e
    subst e
    rw [inVr_cons]; exact g1
   | succ j=>simp at e
  ·funext q
   simp only [Lay.at,V.inVr,noLay]
   rw [if_neg]
   rintro ⟨rfl,rfl⟩
   rcases hij with hij | hij
   ·exact hij rfl
   ·simp at hij
 have hcells:(Value.pointer (some ⟨b,0,none⟩)).cells = #[.pointer (some ⟨b,0,none⟩)]:=rfl
 have hrep:=box_rep (arr:=(Value.pointer (some ⟨b,0,none⟩)).cells) (el:=t) g2 htk (by rw [hcells]; simp) (fun j hj=>by
  rw [hcells]
  simp only [List.length_singleton] at hj
  have:j=0:=by omega
  subst this; rfl)
 have hout:=topLay_out (o:=.cells (Value.pointer (some ⟨b,0,none⟩)).cells t) (v:=.pointer (some ⟨w.heap.size,0,none⟩)) g2 htk.own (fun b hb=>by simp only [blkOf,Option.some.injEq] at hb; exact hb.symm)
 have hr:=(g2.push (.cells (Value.pointer (some ⟨b,0,none⟩)).cells t)).hang (hrep.inVr .nilIface) hout.inVr h3
 have hm:=h.moved hr (r:=r) (p:=c0 :: p) (k:=k) (base:=[(0,0),(0,0)]) (fun q=>by
  rw [setΦ_same]
  simp only [List.cons_append,List.nil_append,V.inVr,topLay,and_self,if_true]
  rw [← List.cons_append]
  simp [Lay.under])
 obtain ⟨x',k1,k2⟩:=put_sound hnt hm he (v:=.pointer (some ⟨w.heap.size,0,none⟩)) (.v _ _ (.c _ _ (by
  have:=RepC.pt (w:={ w with heap:=w.heap.push (.cells (Value.pointer (some ⟨b,0,none⟩)).cells t) }) (s:=setΦ s1 k (inVr (topLay (.pointer (some ⟨w.heap.size,0,none⟩)) (inVr ((s.Φ r).under (c0 :: p)))))) k [(0,0)] 0 0 i.size (.pointer (some ⟨w.heap.size,0,none⟩)) w.heap.size (by rw [setΦ_same]; simp [V.inVr,topLay]) rfl
  simpa [offOf] using this)))
 exact ⟨x',_,_,_,k1,by simp [Instr.box,newVar,newRow],k2⟩
def boxMK (cx:Ctx) (nt:Fr) (x:X) (t:TypeId) (vd:D) (k:Nat) (K:X→Option α):Option α:=match (match vd with | .v (.c (.pt r p i j sz))=>(match and (Nat.beq i 0) (Nat.beq j 0) with | true=>some (r,(p,sz)) | false=>none) | _=>none) with
 | some z=>boxPK cx nt x t z.1 z.2.1 k K
 | none=>boxK cx nt x t vd k K
theorem boxM_sound {nt:Fr} (hnt:B.nt=nt) (h:RelW B s x a w) {t:TypeId} {vd:D} {vv:Value} (hv:RepD w s vd vv) {k:Nat} {K:X→Option α} {q:α} (he:boxMK c nt x t vd k K=some q) :
 ∃ x' s' u w',K x'=some q∧(Instr.box t vv).run c.P w = .ok u w'∧RelW B s' x' (a.gput B k u) w':=by
 unfold boxMK at he
 split at he
 ·rename_i z hz
  split at hz
  ·rename_i r p i j sz
   split at hz
   ·rename_i hb
    simp only [Bool.and_eq_true] at hb
    simp only [Option.some.injEq] at hz
    subst hz
    rw [Nat.eq_of_beq_eq_true hb.1,Nat.eq_of_beq_eq_true hb.2] at hv
    exact boxP_sound hnt h hv he
   ·cases hz
  ·cases hz
 ·exact box_sound hnt h hv he
end
end Go.V
namespace Go.V
open Go.RowKit
structure RowsAt (w:World) (S:Fl→Nat→Prop) (e:Ty) (xs:List (den e)) (us:List Value) (χ:Lay):Prop where
 len:us.length=xs.length * e.size
 get:∀ i j t,cellOf (rows .own e xs) i j=some t→∃ u,us[i * e.size+j]?=some u∧RepO w S t u (χ.at i j)
 out:∀ i j,cellOf (rows .own e xs) i j=none→χ.at i j=noLay
def catLay (n:Nat) (φ χ:Lay):Lay:=fun q=>match q with
 | []=>none
 | (i,j) :: q=>if i<n then φ ((i,j) :: q) else χ ((i - n,j) :: q)
theorem catLay_some {n:Nat} {φ χ:Lay} {q:Path} {y:Value} (h:catLay n φ χ q=some y) :
 (∃ i j q',q=(i,j) :: q'∧i<n∧φ q=some y)∨(∃ i j q',q=(i,j) :: q'∧n≤i∧χ ((i - n,j) :: q')=some y):=by
 cases q with
 | nil=>cases h
 | cons c0 q =>
  obtain ⟨i,j⟩:=c0
  simp only [catLay] at h
  split at h
  ·exact .inl ⟨i,j,q,rfl,by assumption,h⟩
  ·exact .inr ⟨i,j,q,rfl,by omega,h⟩
theorem cellOf_append {e:Ty} {xs ys:List (den e)} {i j:Nat}:cellOf (rows .own e (xs++ys)) i j=if i<xs.length then cellOf (rows .own e xs) i j else cellOf (rows .own e ys) (i - xs.length) j:=by
 simp only [cellOf_rows,List.getElem?_append]
 split <;> rfl
section
variable {c:Ctx} {B:Base} {s:Sit} {x:X} {a:Act} {w:World}
theorem RowsAt.append {S:Fl→Nat→Prop} {e:Ty} {xs ys:List (den e)} {os us:List Value} {φ χ:Lay} (h1:RowsAt w S e xs os φ) (h2:RowsAt w S e ys us χ) :
 RowsAt w S e (xs++ys) (os++us) (catLay xs.length φ χ):=by
 have hat:∀ i j,(catLay xs.length φ χ).at i j=if i<xs.length then φ.at i j else χ.at (i - xs.length) j:=by
  intro i j; funext q; simp only [Lay.at,catLay]; split <;> rfl
 refine ⟨by simp [h1.len,h2.len,Nat.add_mul],fun i j t e'=>?_,fun i j e'=>?_⟩
 ·rw [cellOf_append] at e'
  rw [hat]
  split at e'
  ·rename_i hi
   obtain ⟨u,g1,g2⟩:=h1.get i j t e'
   rw [if_pos hi]
   exact ⟨u,by rw [List.getElem?_append_left (List.getElem?_eq_some_iff.mp g1).1]; exact g1,g2⟩
  ·rename_i hi
   obtain ⟨u,g1,g2⟩:=h2.get _ j t e'
   rw [if_neg hi]
   have e2:i * e.size+j=os.length+((i - xs.length) * e.size+j):=by
    rw [h1.len,← Nat.add_assoc,← Nat.add_mul]; congr 2; omega
   exact ⟨u,by rw [e2,List.getElem?_append_right (by omega),Nat.add_sub_cancel_left]; exact g1,g2⟩
 ·rw [cellOf_append] at e'
  rw [hat]
  split at e'
  ·rename_i hi; rw [if_pos hi]; exact h1.out i j e'
  ·rename_i hi; rw [if_neg hi]; exact h2.out _ j e'
theorem cell_oneT {e:Ty} {d:den e} {t:T} {u:Value} {S:Fl→Nat→Prop} {φ:Lay} (ht:t∈cells .own e d) (h:RepO w S t u φ):u.oneCell'=true:=by
 have nd:t≠.dead∧∀ cs,t≠.vr cs:=by
  clear h
  induction e with
  | pair a b iha ihb =>
   simp only [cells,app_eq,List.mem_append] at ht
   rcases ht with ht | ht
   ·exact iha ht
   ·exact ihb ht
  | unit | nat | sum | fn=>simp [cells] at ht
  | _=>simp only [cells,List.mem_singleton] at ht; subst ht; exact ⟨nofun,nofun⟩
 cases h with
 | sh _ _ h _=>cases h with
  | v _ h1=>exact h1
  | dead=>exact absurd rfl nd.1
  | _=>rfl
 | vr=>exact absurd rfl (nd.2 _)
 | _=>rfl
theorem RowsAt.one {S:Fl→Nat→Prop} {e:Ty} {xs:List (den e)} {us:List Value} {χ:Lay} (h:RowsAt w S e xs us χ):∀ u∈us,u.oneCell'=true:=by
 intro u hu
 obtain ⟨k,hk⟩:=List.mem_iff_getElem?.mp hu
 have hlt:k<xs.length * e.size:=by rw [← h.len]; exact (List.getElem?_eq_some_iff.mp hk).1
 have hsz:0<e.size:=Nat.pos_of_ne_zero (fun e0=>by rw [e0] at hlt; simp at hlt)
 have hdiv:k / e.size<xs.length:=Nat.div_lt_of_lt_mul (by rw [Nat.mul_comm]; exact hlt)
 have hmod:k % e.size<e.size:=Nat.mod_lt _ hsz
 have hl:(cells .own e xs[k / e.size]).length=e.size:=length_cells _ _ _
 have hcell:cellOf (rows .own e xs) (k / e.size) (k % e.size)=some ((cells .own e xs[k / e.size])[k % e.size]'(by omega)):=by
  rw [cellOf_rows,List.getElem?_eq_getElem hdiv,Option.bind_some,nth_eq,List.getElem?_eq_getElem]
 obtain ⟨u',g1,g2⟩:=h.get _ _ _ hcell
 have e4:k / e.size * e.size+k % e.size=k:=by rw [Nat.mul_comm]; exact Nat.div_add_mod k e.size
 rw [e4,hk,Option.some.injEq] at g1
 subst g1
 exact cell_oneT (List.getElem_mem _) g2
theorem RowsAt.mono {S:Fl→Nat→Prop} {e:Ty} {xs:List (den e)} {us:List Value} {χ:Lay} {w':World} (h:RowsAt w S e xs us χ) (hS:∀ f b,S f b→w'.heap[b]?=w.heap[b]?)
 (hχ:∀ c0 p y b,χ (c0 :: p)=some y→blkOf y=some b→w'.heap[b]?=w.heap[b]?):RowsAt w' S e xs us χ :=
 ⟨h.len,fun i j t e'=>by
  obtain ⟨u,g1,g2⟩:=h.get i j t e'
  exact ⟨u,g1,g2.mono hS (fun _ _ h=>h) (fun p y b e1 e2=>hχ (i,j) p y b e1 e2)⟩,h.out⟩
theorem RowsAt.toSl {S:Fl→Nat→Prop} {e:Ty} {xs:List (den e)} {us:List Value} {χ:Lay} (h:RowsAt w S e xs us χ) {b off cap:Nat} {arr:Array Value} {el:TypeId} (hb:w.heap[b]?=some (.cells arr el (0,0)))
 (hcap:xs.length≤cap+1) (hsz:off+(cap+1) * e.size≤arr.size) (hu:∀ (k:Nat) u,us[k]?=some u→arr[off+k]?=some u) :
 RepO w S (.sl .own e xs) (.slice (some ⟨b,off,none⟩) xs.length (cap+1)) (topLay (.slice (some ⟨b,off,none⟩) xs.length (cap+1)) χ):=by
 have hex:∀ i j,∃ u,∀ t,cellOf (rows .own e xs) i j=some t→us[i * e.size+j]?=some u∧RepO w S t u (χ.at i j):=by
  intro i j
  cases hh:cellOf (rows .own e xs) i j with
  | none=>exact ⟨.nilIface,fun t e=>by cases e⟩
  | some t =>
   obtain ⟨u,g1,g2⟩:=h.get i j t hh
   exact ⟨u,fun t' e=>by cases e; exact ⟨g1,g2⟩⟩
 have hch:∃ vs:Nat→Nat→Value,∀ i j t,cellOf (rows .own e xs) i j=some t→us[i * e.size+j]?=some (vs i j)∧RepO w S t (vs i j) (χ.at i j) :=
  ⟨fun i j=>(hex i j).choose,fun i j=>(hex i j).choose_spec⟩
 obtain ⟨vs,hvs⟩:=hch
 exact .sl e xs b off cap arr el vs _ hb hcap hsz (fun i j t e'=>hu _ _ (hvs i j t e').1) (fun i j t e'=>(hvs i j t e').2) rfl (fun i j e'=>h.out i j e')
theorem RelW.worldBut (h:RelW B s x a w) {w':World} {b0:Nat} (hb:∀ b:Nat,b<w.heap.size→b≠b0→w'.heap[b]?=w.heap[b]?) (hs:w'.heap.size=w.heap.size) (h1:w'.os=w.os) (h2:w'.tape=w.tape) (h3:w'.output=w.output)
 (hS:∀ f,¬ s.S f b0) (hΦ:∀ r p z,s.Φ r p=some z→blkOf z≠some b0) (hO:B.O0 b0∨B.w0.heap.size≤b0):RelW B s x a w' :=
 have hSb:∀ f b,s.S f b→w'.heap[b]?=w.heap[b]?:=fun f b hR=>hb b (h.slt f b hR) (fun e=>hS f (e▸hR))
 { h with
  env:=fun k d hd=>by
   obtain ⟨v,e1,e2⟩:=h.env k d hd
   exact ⟨v,e1,e2.mono hSb (fun _ _ h=>h) rfl (fun _ _=>rfl)⟩
  roots:=fun r t hr=>by
   obtain ⟨y,hy⟩:=h.roots r t hr
   exact ⟨y,hy.mono hSb (fun _ _ h=>h) (fun p z b hz hbz=>hb b (h.own _ _ _ _ hz hbz).2.1 (fun e=>hΦ _ _ _ hz (e▸hbz)))⟩
  own:=fun r p y b e1 e2=>by
   have:=h.own r p y b e1 e2
   exact ⟨this.1,by omega,this.2.2⟩
  slt:=fun f b hR=>by have:=h.slt f b hR; omega
  os:=h1.trans h.os
  tape:=h2.trans h.tape
  output:=h3.trans h.output
  grow:=by have:=h.grow; omega
  kept:=fun b e1 e2=>by
   rw [hb b (by have:=h.grow; omega) (fun e=>by subst e; exact hO.elim (fun hO=>e2 hO) (fun hO=>by omega))]
   exact h.kept b e1 e2
  glob:=fun g t hg=>(h.glob g t hg).mono hSb (fun _ _ h=>h) }
theorem growBy_le (nl:Nat):∀ (r c:Nat),c≤2 * nl+192→Builtin.growBy nl r c≤2 * nl+192
 | 0,c,h=>h
 | r+1,c,h=>by
  simp only [Builtin.growBy]
  split
  ·exact h
  ·exact growBy_le nl r _ (by omega)
theorem nextslicecap_le (need cap:Nat) (h:cap<need):Builtin.nextslicecap need cap≤2 * need+192:=by
 unfold Builtin.nextslicecap
 split
 ·omega
 ·split
  ·omega
  ·exact growBy_le need 4 cap (by omega)
theorem nextslicecap_zero (need:Nat) (h:0<need):Builtin.nextslicecap need 0=need:=by
 unfold Builtin.nextslicecap
 rw [if_pos (by omega)]
theorem run_firstCells {us:List Value} {b:Option Addr} {n cap sz:Nat} (hl:us.length=n * sz) (h:n=0∨∃ bb o,b=some ⟨bb,o,none⟩∧∀ (k:Nat) u,us[k]?=some u→w.cell? ⟨bb,o+k,none⟩=some u) :
 (Builtin.firstCells sz n (.slice b n cap)).run c.P w = .ok us.toArray w:=by
 rcases h with h | ⟨bb,o,rfl,h⟩
 ·subst h
  have:us=[]:=by simpa using hl
  subst this
  cases b with
  | none=>rfl
  | some ad=>simp [Builtin.firstCells,loadCells,loadCellsFrom]
 ·have:=run_loadCells_list (P:=c.P) w ⟨bb,o,none⟩ us (fun j v hj=>by rw [addr_add]; exact h j v hj)
  rw [hl] at this
  exact this
variable {ats:Array TypeId} {st xt e ty:TypeId} {i xi ei:TyInfo} {e':TypeId}
structure SrcRuns (P:Program) (w:World) (sz:Nat) (v:Value) (n:Nat) (us:List Value):Prop where
 len:(Builtin.lenOf v).run P w = .ok n w
 cells:∀ d,(Builtin.firstCells sz n v).run P { w with drawn:=d } = .ok us.toArray { w with drawn:=d }
theorem run_append (h0:ats[0]?=some st) (h1:ats[1]?=some xt) (hi:TyOk1 c.P st i) (hd:i.d = .sl e) {xd:TypeDesc} (hxu:c.P.underlying xt=some xd) (hxd:∀ k,xd≠.int k) (hei:TyOk1 c.P e ei)
 {base:Option Addr} {sLen sCap:Nat} {v2:Value} {n:Nat} {us:List Value} (hsrc:SrcRuns c.P w ei.size v2 n us) :
 (sLen+n≤sCap→(Builtin.append_ ats ty #[.slice base sLen sCap,v2]).run c.P w =
  ((match base with | some ad=>storeCells (ad.add (sLen * ei.size)) us | none=>(pure ():Sem Unit)).run c.P w).andThen fun _ w'=>.ok (.slice base (sLen+n) sCap) w') ∧
 (¬ sLen+n≤sCap→0<ei.bytes→Builtin.nextslicecap (sLen+n) sCap * ei.bytes≤2 ^ 48→∀ old,(∀ d,(Builtin.firstCells ei.size sLen (.slice base sLen sCap)).run c.P { w with drawn:=d } = .ok old { w with drawn:=d }) →
  ∃ newCap rest w',sLen+n≤newCap ∧
   rest.size=(newCap - (sLen+n)) * ei.zero.length∧w'.heap=w.heap.push (.cells (old++us.toArray++rest) e)∧w'.os=w.os∧w'.tape=w.tape∧w'.output=w.output ∧
   (Builtin.append_ ats ty #[.slice base sLen sCap,v2]).run c.P w = .ok (.slice (some ⟨w.heap.size,0,none⟩) (sLen+n) newCap) w'):=by
 have hu:=hi.slice hd
 have hus:=hsrc.cells w.drawn
 have hus:(Builtin.firstCells ei.size n v2).run c.P w = .ok us.toArray w:=hus
 constructor
 ·intro hle
  cases base with
  | none=>simp [Builtin.append_,h0,h1,run_underlying hu,run_underlying hxu,hei.run_sizeOf,hsrc.len,hle,hus]
  | some ad=>simp [Builtin.append_,h0,h1,run_underlying hu,run_underlying hxu,hei.run_sizeOf,hsrc.len,hle,hus]
 ·intro hgt hb hcap old hold
  obtain ⟨j,hj,hj1,hj2⟩:=hei.run_typeInfo w
  obtain ⟨z,hz1,hz2⟩:=hei.run_zeroValue { w with drawn:=w.drawn+1 }
  have hz3:z.cells.size=ei.zero.length:=by rw [← hz2]; simp
  have hno : ¬ (j.bytes=0):=by rw [hj2]; omega
  have hno2 : ¬ (Builtin.nextslicecap (sLen+n) sCap * j.bytes > 2 ^ 48):=by rw [hj2]; omega
  have hj':∀ d,(typeInfo e).run c.P { w with drawn:=d } = .ok j { w with drawn:=d }:=by
   intro d
   obtain ⟨j',hj',_⟩:=hei.run_typeInfo { w with drawn:=d }
   have:j'=j:=by
    simp only [typeInfo,Sem.run_bind,run_program,Result.andThen_ok] at hj hj'
    cases e3:c.P.info? e with
    | none=>simp [e3] at hj
    | some q=>simp [e3] at hj hj'; rw [← hj,← hj']
   rw [hj',this]
  refine ⟨(Question.appendCap (sLen+n) sCap e).cut (w.tape w.drawn (.appendCap (sLen+n) sCap e)),Builtin.zeroCells z.cells ((Question.appendCap (sLen+n) sCap e).cut (w.tape w.drawn (.appendCap (sLen+n) sCap e)) - (sLen+n)),
   { w with drawn:=w.drawn+1,heap:=w.heap.push (.cells (old++us.toArray++Builtin.zeroCells z.cells ((Question.appendCap (sLen+n) sCap e).cut (w.tape w.drawn (.appendCap (sLen+n) sCap e)) - (sLen+n))) e) },
   ?_,?_,rfl,rfl,rfl,rfl,?_⟩
  ·simp only [Question.cut]; omega
  ·simp [Builtin.zeroCells,hz3]
  ·have hq:Question.forced (.appendCap (sLen+n) sCap e)=false:=rfl
   have g1:(typeInfo e).run c.P w.drew = .ok j w.drew:=hj' _
   have g2:(Builtin.firstCells ei.size sLen (.slice base sLen sCap)).run c.P w.drew = .ok old w.drew:=hold _
   have g3:(Builtin.firstCells ei.size n v2).run c.P w.drew = .ok us.toArray w.drew:=hsrc.cells _
   have g4:(zeroValue e).run c.P w.drew = .ok z w.drew:=hz1
   simp [Builtin.append_,h0,h1,run_underlying hu,run_underlying hxu,hei.run_sizeOf,hsrc.len,hgt,hj,hno,hno2,hq,g1,g2,g3,g4,newRow]
   rfl
end
end Go.V
namespace Go.V
open Go.RowKit
variable {α:Type}
def CB.of:C→Option CB
 | .k u=>match and u.isSh (okCell (.k u)) with
  | true=>some (.sh u)
  | false=>none
 | .own r p e=>some (.ow r p e)
 | _=>none
def cbsOf:List C→Option (List CB)
 | []=>some []
 | y :: l=>(CB.of y).bind fun b=>(cbsOf l).map fun m=>b :: m
theorem cbsOf_get:∀ {l:List C} {m:List CB},cbsOf l=some m→m.length=l.length∧∀ (j:Nat) b,m[j]?=some b→l[j]?=some b.toC∧okCell b.toC=true
 | [],m,h=>by
  simp only [cbsOf,Option.some.injEq] at h
  subst h
  exact ⟨rfl,fun j b e=>by simp at e⟩
 | y :: l,m,h=>by
  obtain ⟨b0,h1,h⟩:=Option.bind_eq_some_iff.mp h
  obtain ⟨m',h2,rfl⟩:=Option.map_eq_some_iff.mp h
  obtain ⟨g1,g2⟩:=cbsOf_get h2
  refine ⟨by simp [g1],fun j b e=>?_⟩
  cases j with
  | zero =>
   simp only [List.getElem?_cons_zero,Option.some.injEq] at e
   subst e
   unfold CB.of at h1
   split at h1
   ·split at h1
    ·rename_i hb
     simp only [Bool.and_eq_true] at hb
     simp only [Option.some.injEq] at h1
     subst h1
     exact ⟨rfl,hb.2⟩
    ·cases h1
   ·simp only [Option.some.injEq] at h1
    subst h1
    exact ⟨rfl,rfl⟩
   ·cases h1
  | succ j=>simpa using g2 j b (by simpa using e)
def initP:Path→Path
 | []=>[]
 | c :: p=>match p with
  | []=>[]
  | _ :: _=>c :: initP p
def tabC (x:X) (y:C):Bool:=match y with
 | .own r p _=>match p with
  | []=>false
  | _ :: _=>match x.at r (initP p) with
   | some t=>(match t with
    | .sl _ _ _=>true
    | .slo _ _ _ _=>true
    | _=>false)
   | none=>false
 | _=>false
def anyTab (x:X):List C→Bool
 | []=>false
 | y :: l=>match tabC x y with
  | true=>true
  | false=>anyTab x l
def copyOf (x:X) (vd:D) (n:Nat):Option (List CB):=match vd with
 | .v v=>match v with
  | .ag cs=>match and (anyTab x cs) (Nat.beq cs.length n) with
   | true=>cbsOf cs
   | false=>none
  | .c _=>none
 | _=>none
theorem copyOf_some {x:X} {vd:D} {n:Nat} {l:List CB} (h:copyOf x vd n=some l):∃ cs,vd = .v (.ag cs)∧cs.length=n∧cbsOf cs=some l:=by
 unfold copyOf at h
 split at h
 ·split at h
  ·split at h
   ·rename_i hb
    simp only [Bool.and_eq_true] at hb
    exact ⟨_,rfl,Nat.eq_of_beq_eq_true hb.2,h⟩
   ·cases h
  ·cases h
 ·cases h
def boxBK (cx:Ctx) (nt:Fr) (x:X) (t:TypeId) (vd:D) (k:Nat) (K:X→Option α):Option α:=(look cx.Ty t).bind fun i=>match copyOf x vd i.size with
 | some l=>putK nt x k (.v (.c (.cb l 0))) K
 | none=>boxMK cx nt x t vd k K
def wholeBox (d:D):Option Nat:=match d with
 | .v v=>match v with
  | .c y=>match y with
   | .pt r p i j _=>match p with
    | []=>none
    | c :: q=>match q with
     | []=>match and (and (Nat.beq c.1 0) (Nat.beq c.2 0)) (and (Nat.beq i 0) (Nat.beq j 0)) with
      | true=>some r
      | false=>none
     | _ :: _=>none
   | _=>none
  | _=>none
 | _=>none
theorem wholeBox_some {d:D} {r:Nat} (h:wholeBox d=some r):∃ sz,d = .v (.c (.pt r [(0,0)] 0 0 sz)):=by
 unfold wholeBox at h
 split at h
 rotate_left
 ·cases h
 split at h
 rotate_left
 ·cases h
 split at h
 rotate_left
 ·cases h
 split at h
 ·cases h
 split at h
 rotate_left
 ·cases h
 split at h
 ·rename_i c0 p0 hb
  simp only [Bool.and_eq_true] at hb
  simp only [Option.some.injEq] at h
  subst h
  have hc:=Prod.ext (y:=((0:Nat),(0:Nat))) (Nat.eq_of_beq_eq_true hb.1.1) (Nat.eq_of_beq_eq_true hb.1.2)
  rw [hc,Nat.eq_of_beq_eq_true hb.2.1,Nat.eq_of_beq_eq_true hb.2.2]
  exact ⟨_,rfl⟩
 ·cases h
def cbE (env:List (Nat×D)) (r:Nat) (l:List CB):List (Nat×D)→List (Nat×D)
 | []=>[]
 | e :: m=>match (look env e.1).bind wholeBox with
  | some r'=>match Nat.beq r' r with
   | true=>(e.1,.v (.c (.cb l 0))) :: cbE env r l m
   | false=>cbE env r l m
  | none=>cbE env r l m
theorem cbE_some {env:List (Nat×D)} {r:Nat} {l:List CB}:∀ {m:List (Nat×D)} {k:Nat} {d:D},look (cbE env r l m) k=some d→d = .v (.c (.cb l 0))∧∃ sz,look env k=some (.v (.c (.pt r [(0,0)] 0 0 sz)))
 | [],k,d,h=>by cases h
 | e :: m,k,d,h=>by
  unfold cbE at h
  split at h
  ·rename_i r' hr
   split at h
   ·rename_i hb
    rw [look_cons] at h
    split at h
    ·rename_i hk
     simp only [Option.some.injEq] at h
     subst hk h
     obtain ⟨d',g1,g2⟩:=Option.bind_eq_some_iff.mp hr
     obtain ⟨sz,rfl⟩:=wholeBox_some g2
     exact ⟨rfl,sz,by rw [g1,Nat.eq_of_beq_eq_true hb]⟩
    ·exact cbE_some h
   ·exact cbE_some h
  ·exact cbE_some h
def notIn (r:Nat):List CB→Bool
 | []=>true
 | y :: l=>match y with
  | .sh _=>notIn r l
  | .ow r' _ _=>match Nat.beq r' r with
   | true=>false
   | false=>notIn r l
theorem notIn_get {r:Nat}:∀ {l:List CB},notIn r l=true→∀ (j:Nat) r' p e,l[j]?=some (.ow r' p e)→r'≠r
 | [],_,j,r',p,e,h=>by simp at h
 | y :: l,hn,j,r',p,e,h=>by
  cases j with
  | zero =>
   simp only [List.getElem?_cons_zero,Option.some.injEq] at h
   subst h
   simp only [notIn] at hn
   split at hn
   ·cases hn
   ·rename_i hb
    intro he
    rw [he,Nat.beq_refl] at hb
    cases hb
  | succ j =>
   refine notIn_get (l:=l) ?_ j r' p e (by simpa using h)
   cases y with
   | sh u=>exact hn
   | ow r1 p1 e1 =>
    simp only [notIn] at hn
    split at hn
    ·cases hn
    ·exact hn
def storeBK (cx:Ctx) (x:X) (t:TypeId) (pd vd:D) (K:X→Option α):Option α:=match (look cx.Ty t).bind fun i=>(copyOf x vd i.size).bind fun l=>(wholeBox pd).map fun r=>(i.size,(l,r)) with
 | some z=>setAtK x z.2.2 [(0,0)] .dead fun old x1=>(old.box?).bind fun cs=>match and (Nat.beq cs.length z.1) (notIn z.2.2 z.2.1) with
  | true=>K { x1 with env:=app (cbE x.env z.2.2 z.2.1 x.env) x1.env }
  | false=>none
 | none=>storeK cx x t pd vd K
section
variable {c:Ctx} {B:Base} {s:Sit} {x:X} {a:Act} {w:World}
theorem ownOut_block {s:Sit} {w:World} {b:Nat} (h1:∀ f,¬ s.S f b) (h2:b<w.heap.size) (h3:B.O0 b∨B.w0.heap.size≤b) (h4:∀ r p z,s.Φ r p=some z→blkOf z≠some b) :
 OwnOut B s w (topLay (.pointer (some ⟨b,0,none⟩)) noLay):=by
 have key:∀ q y,topLay (.pointer (some ⟨b,0,none⟩)) noLay q=some y→q=[]∧y = .pointer (some ⟨b,0,none⟩):=by
  intro q y e
  cases q with
  | nil=>simp only [topLay,Option.some.injEq] at e; exact ⟨rfl,e.symm⟩
  | cons c0 q=>simp [topLay,noLay] at e
 refine ⟨fun q y q' y' b' e1 e2 e3 e4=>?_,fun q y b' e1 e2=>?_,fun q y b' e1 e2 r p z e3=>?_⟩
 ·rw [(key _ _ e1).1,(key _ _ e3).1]
 ·obtain ⟨-,rfl⟩:=key _ _ e1
  simp only [blkOf,Option.some.injEq] at e2
  subst e2
  exact ⟨h1,h2,h3⟩
 ·obtain ⟨-,rfl⟩:=key _ _ e1
  simp only [blkOf,Option.some.injEq] at e2
  subst e2
  exact h4 r p z e3
theorem cb_rep {cs:List C} {l:List CB} {arr:Array Value} (hl:cbsOf cs=some l) (hv:RepV w s (.ag cs) (.agg arr)) {w':World} {s':Sit} {b:Nat}
 (hw:∀ f b,s.S f b→w'.heap[b]?=w.heap[b]?) (hS:∀ f b,s.S f b→s'.S f b) (hΦ:∀ (j:Nat) r p e,l[j]?=some (.ow r p e)→s'.Φ r p=s.Φ r p) (hb:s'.S .ro b)
 (hc:∀ j,j<arr.size→w'.cell? ⟨b,j,none⟩=arr[j]?):RepC w' s' (.cb l 0) (.pointer (some ⟨b,0,none⟩)):=by
 obtain ⟨g1,g2⟩:=cbsOf_get hl
 cases hv with
 | ag _ _ hs h =>
  have val:∀ (j:Nat) y,l[j]?=some y→∃ v,arr[j]?=some v∧RepC w s y.toC v:=fun j y e=>h j _ (g2 j y e).1
  refine .cb l 0 b (fun j=>(arr[j]?).getD .nilIface) hb (fun j y e=>?_) (fun j t e=>?_) (fun j r p e he=>?_)
  ·obtain ⟨v,h1,-⟩:=val j y e
   rw [hc j (Array.getElem?_eq_some_iff.mp h1).1,h1]; rfl
  ·obtain ⟨v,h1,h2⟩:=val j _ e
   simp only [h1,Option.getD_some]
   cases h2 with
   | k _ _ h2=>exact h2.mono hw hS
  ·obtain ⟨v,h1,h2⟩:=val j _ he
   simp only [h1,Option.getD_some]
   rw [hΦ j r p e he]
   cases h2 with
   | own _ _ _ _ h2=>exact h2
theorem boxB_sound {nt:Fr} (hnt:B.nt=nt) (h:RelW B s x a w) {t:TypeId} {vd:D} {vv:Value} (hv:RepD w s vd vv) {k:Nat} {K:X→Option α} {q:α} (he:boxBK c nt x t vd k K=some q) :
 ∃ x' s' u w',K x'=some q∧(Instr.box t vv).run c.P w = .ok u w'∧RelW B s' x' (a.gput B k u) w':=by
 unfold boxBK at he
 obtain ⟨i,e1,he2⟩:=Option.bind_eq_some_iff.mp he
 clear he
 split at he2
 rotate_left
 ·exact boxM_sound hnt h hv he2
 rename_i l hl
 obtain ⟨cs,rfl,hn,hcs⟩:=copyOf_some hl
 cases hv with
 | v _ _ hv =>
 cases hv with
 | ag _ arr hs hh =>
 have hV:RepV w s (.ag cs) (.agg arr):=.ag cs arr hs hh
 have hp:=h.push (.cells arr t)
 have hout:OwnOut B s { w with heap:=w.heap.push (.cells arr t) } (topLay (.pointer (some ⟨w.heap.size,0,none⟩)) noLay) :=
  ownOut_block (fun f hS=>by have:=h.slt _ _ hS; omega) (by simp) (.inr h.grow) (fun r p z e1 e2=>by have:=(h.own _ _ _ _ e1 e2).2.1; omega)
 have hg:=hp.growRo hout
 obtain ⟨x',k1,k2⟩:=put_sound hnt hg he2 (v:=.pointer (some ⟨w.heap.size,0,none⟩)) (.v _ _ (.c _ _ (cb_rep hcs hV (fun f b hS=>heap_push_lt (h.slt _ _ hS)) (fun f b hS=>.inl hS) (fun _ _ _ _ _=>rfl)
  (.inr ⟨.inl rfl,[],_,rfl,rfl⟩) (fun j hj=>cell?_of_cells (arr:=arr) (el:=t) (fz:=(0,0)) (show ({ w with heap:=w.heap.push (.cells arr t) }:World).heap[w.heap.size]?=_ by simp)))))
 exact ⟨x',_,_,_,k1,by simp [Instr.box,newVar,newRow,Value.cells],k2⟩
theorem box_heap {S:Fl→Nat→Prop} {t:T} {b:Nat} {φ:Lay} {cs:List T} (h:RepO w S t (.pointer (some ⟨b,0,none⟩)) φ) (hb:t.box?=some cs) :
 ∃ arr el,w.heap[b]?=some (.cells arr el (0,0))∧cs.length≤arr.size:=by
 cases h with
 | sh _ _ _ ht'=>cases t with
  | pp f cs'=>cases f <;> simp [T.isSh] at ht' <;> simp [T.box?] at hb
  | pt f e d=>cases f <;> simp [T.isSh] at ht' <;> simp [T.box?] at hb
  | po=>simp [T.isSh] at ht'
  | _=>simp [T.box?] at hb
 | box _ cs' ht b' arr el vs φ hh hsz hc' hr h0' hn' =>
  rw [hb,Option.some.injEq] at ht
  subst ht
  exact ⟨arr,el,hh,hsz⟩
 | vr=>simp [T.box?] at hb
 | bld=>simp [T.box?] at hb
theorem RelW.cbs {s2:Sit} {x2:X} {w':World} (h:RelW B s x a w) (h2:RelW B s2 x2 a w') {r b:Nat} {l:List CB} (hb:∀ sz u,RepC w s (.pt r [(0,0)] 0 0 sz) u→u = .pointer (some ⟨b,0,none⟩))
 (hc:RepC w' s2 (.cb l 0) (.pointer (some ⟨b,0,none⟩))):RelW B s2 { x2 with env:=app (cbE x.env r l x.env) x2.env } a w' :=
 { h2 with
  env:=fun m d hd=>by
   have hd:look (app (cbE x.env r l x.env) x2.env) m=some d:=hd
   rw [look_appM] at hd
   cases hk:look (cbE x.env r l x.env) m with
   | none=>rw [hk] at hd; exact h2.env m d hd
   | some d' =>
    rw [hk] at hd
    simp only [Option.some.injEq] at hd
    subst hd
    obtain ⟨rfl,sz,f1⟩:=cbE_some hk
    obtain ⟨u,f3,f4⟩:=h.env m _ f1
    refine ⟨u,f3,?_⟩
    cases f4 with
    | v _ _ f4=>cases f4 with
     | c _ _ f4 =>
      rw [hb sz u f4]
      exact .v _ _ (.c _ _ hc) }
theorem storeB_sound (h:RelW B s x a w) {t:TypeId} {pd vd:D} {pv vv:Value} (hp:RepD w s pd pv) (hv:RepD w s vd vv) {K:X→Option α} {q:α} (he:storeBK c x t pd vd K=some q) :
 ∃ x' s' w',K x'=some q∧(Instr.storeAt t pv vv).run c.P w = .ok () w'∧RelW B s' x' a w':=by
 unfold storeBK at he
 split at he
 rotate_left
 ·exact store_sound h hp hv he
 rename_i z hz
 obtain ⟨i,e1,hz⟩:=Option.bind_eq_some_iff.mp hz
 obtain ⟨l,hl,hz⟩:=Option.bind_eq_some_iff.mp hz
 obtain ⟨r,hr,rfl⟩:=Option.map_eq_some_iff.mp hz
 simp only at he
 have hok:=c.hTy t i e1
 obtain ⟨cs,rfl,hn,hcs⟩:=copyOf_some hl
 obtain ⟨sz,rfl⟩:=wholeBox_some hr
 obtain ⟨old,x1,h1,h2,he1⟩:=setAtK_some he
 clear he
 obtain ⟨bs,hbox,he⟩:=Option.bind_eq_some_iff.mp he1
 clear he1
 split at he
 rotate_left
 ·cases he
 rename_i hb
 simp only [Bool.and_eq_true] at hb
 have hlen:=Nat.eq_of_beq_eq_true hb.1
 have hni:=notIn_get hb.2
 have hp':RepC w s (.pt r [(0,0)] 0 0 sz) pv:=by cases hp with | v _ _ hp=>cases hp with | c _ _ hp=>exact hp
 cases hv with
 | v _ _ hv =>
 cases hv with
 | ag _ arr hs hh =>
 have hV:RepV w s (.ag cs) (.agg arr):=.ag cs arr hs hh
 obtain ⟨b,rfl,g1,g2,g3,g4⟩:=h.takeP hp' h1 h2 hbox
 obtain ⟨arr0,el,k1,k2⟩:=box_heap g1 hbox
 have hown:=g3.own [] _ b g4 rfl
 have hout:=fun r p z e=>g3.out [] _ b g4 rfl r p z e
 obtain ⟨q1,q2⟩:=cbsOf_get hcs
 have hone:∀ v∈arr.toList,v.oneCell'=true:=fun v hv=>by
  obtain ⟨j,hj⟩:=List.getElem?_of_mem hv
  rw [Array.getElem?_toList] at hj
  have hjl:j<l.length:=by have:=(Array.getElem?_eq_some_iff.mp hj).1; omega
  have hlj:l[j]?=some l[j]:=List.getElem?_eq_getElem hjl
  obtain ⟨u,u1,u2⟩:=hh j _ (q2 j _ hlj).1
  rw [hj,Option.some.injEq] at u1
  subst u1
  exact cell_one h u2 (q2 j _ hlj).2
 have hst:=run_storeCells_at c.P b 0 el arr.toList 0 arr0 w k1 (by rw [Array.length_toList]; omega) hone
 have hw':RelW B (setΦ s r ((s.Φ r).graft [(0,0)] noLay)) x1 a (w.setRow b (arr0.toList.take (0+0)++arr.toList++arr0.toList.drop (0+0+arr.toList.length)).toArray) :=
  g2.worldBut (fun b' _ hb'=>setRow_other w b b' _ hb') (setRow_size _ _ _) rfl rfl rfl hown.1 hout hown.2.2
 have hg:=hw'.growRo (ownOut_block hown.1 (by rw [setRow_size]; exact hown.2.1) hown.2.2 hout)
 have hcell:∀ j,j<arr.size→(w.setRow b (arr0.toList.take (0+0)++arr.toList++arr0.toList.drop (0+0+arr.toList.length)).toArray).cell? ⟨b,j,none⟩=arr[j]?:=fun j hj=>by
  rw [cell?_of_cells (setRow_heap w b _ _ el (0,0) k1)]
  simp only [List.getElem?_toArray,Nat.add_zero,List.take_zero,List.nil_append]
  rw [List.getElem?_append_left (by simpa using hj),Array.getElem?_toList]
 have hrep:=cb_rep (s':=growS (setΦ s r ((s.Φ r).graft [(0,0)] noLay)) (topLay (.pointer (some ⟨b,0,none⟩)) noLay)) hcs hV (fun f b' hS=>setRow_other w b b' _ (fun e=>hown.1 f (by subst e; exact hS)))
  (fun f b hS=>.inl hS) (fun j r' p e he=>by
   show (setΦ s r _).Φ r' p=s.Φ r' p
   rw [setΦ_ne _ _ (hni j r' p e he)]) (.inr ⟨.inl rfl,[],_,rfl,rfl⟩) hcell
 refine ⟨_,_,_,he,?_,h.cbs hg (fun sz' u hu=>?_) hrep⟩
 ·have hsz : ¬ ((Value.agg arr).cells.size≠i.size):=by
   show ¬ (arr.size≠i.size)
   rw [hs,hn]; simp
  have hst2:(storeCells ⟨b,0,none⟩ (Value.agg arr).cells.toList).run c.P w = .ok () (w.setRow b (arr0.toList.take (0+0)++arr.toList++arr0.toList.drop (0+0+arr.toList.length)).toArray):=hst
  simp only [Instr.storeAt,Instr.sureAddr,storeVar,Sem.run_bind,Sem.run_pure,Result.andThen_ok,hok.run_sizeOf,Sem.run_ite,if_neg hsz,hst2]
 ·cases hu with
  | pt _ _ _ _ _ x0 b' hΦ hb' =>
   have e2:((s.Φ r).under [(0,0)]) []=s.Φ r [(0,0)]:=by simp [Lay.under]
   rw [e2,hΦ,Option.some.injEq] at g4
   subst g4
   simp only [blkOf,Option.some.injEq] at hb'
   subst hb'
   simp [offOf]
end
end Go.V
