import Derived.Test.YtlfcemfcgmidlaaDoorLibH
import Derived.Test.YtlfcemfcgmidlaaDoorLibE
import Derived.Test.YtlfcemfcgmidlaaDoorLibG
import Derived.Laws.Externs
namespace Go.V
open Go.RowKit
variable {α:Type}
open Classical in
noncomputable def sameR (a b:Option α):Option α:=if a=b then a else none
theorem sameR_self (a:Option α):sameR a a=a:=by unfold sameR; rw [if_pos rfl]
theorem sameR_some {a b:Option α} {q:α} (h:sameR a b=some q):a=some q∧b=some q:=by
 unfold sameR at h
 split at h
 ·rename_i e; exact ⟨h,by rw [← e]; exact h⟩
 ·cases h
noncomputable def sameL {β:Type} (f:β→Option α):List β→Option α
 | []=>none
 | b :: l=>match l with
  | []=>f b
  | _ :: _=>sameR (f b) (sameL f l)
theorem sameL_some {β:Type} {f:β→Option α} {q:α}:∀ {l:List β},sameL f l=some q→∀ b∈l,f b=some q
 | [],h,b,hb=>by simp at hb
 | [b0],h,b,hb=>by simp only [List.mem_singleton] at hb; subst hb; exact h
 | b0 :: b1 :: l,h,b,hb=>by
  unfold sameL at h
  obtain ⟨h1,h2⟩:=sameR_some h
  rcases List.mem_cons.1 hb with e | hb
  ·subst e; exact h1
  ·exact sameL_some h2 b hb
def delN (i:Nat):List Nat→List Nat
 | []=>[]
 | j :: l=>match Nat.beq j i with
  | true=>delN i l
  | false=>j :: delN i l
theorem mem_delN {i j:Nat} {l:List Nat}:j∈delN i l↔j∈l∧j≠i:=by
 induction l with
 | nil=>simp [delN]
 | cons a l ih =>
  unfold delN
  cases h:Nat.beq a i with
  | true =>
   have:=Nat.eq_of_beq_eq_true h
   subst this
   simp only [ih,List.mem_cons]
   constructor
   ·rintro ⟨h1,h2⟩; exact ⟨.inr h1,h2⟩
   ·rintro ⟨h1 | h1,h2⟩
    ·exact absurd h1 h2
    ·exact ⟨h1,h2⟩
  | false =>
   have:=Nat.ne_of_beq_eq_false h
   simp only [ih,List.mem_cons]
   constructor
   ·rintro (h1 | ⟨h1,h2⟩)
    ·exact ⟨.inl h1,by rw [h1]; exact this⟩
    ·exact ⟨.inr h1,h2⟩
   ·rintro ⟨h1 | h1,h2⟩
    ·exact .inl h1
    ·exact .inr ⟨h1,h2⟩
def filtB {β:Type} (f:β→Bool):List β→List β
 | []=>[]
 | j :: l=>match f j with
  | true=>j :: filtB f l
  | false=>filtB f l
theorem mem_filtB {β:Type} {f:β→Bool} {j:β} {l:List β}:j∈filtB f l↔j∈l∧f j=true:=by
 induction l with
 | nil=>simp [filtB]
 | cons a l ih =>
  unfold filtB
  cases h:f a with
  | true =>
   simp only [List.mem_cons,ih]
   constructor
   ·rintro (h1 | ⟨h1,h2⟩)
    ·exact ⟨.inl h1,by rw [h1]; exact h⟩
    ·exact ⟨.inr h1,h2⟩
   ·rintro ⟨h1 | h1,h2⟩
    ·exact .inl h1
    ·exact .inr ⟨h1,h2⟩
  | false =>
   simp only [ih,List.mem_cons]
   constructor
   ·rintro ⟨h1,h2⟩; exact ⟨.inr h1,h2⟩
   ·rintro ⟨h1 | h1,h2⟩
    ·rw [h1,h] at h2; cases h2
    ·exact ⟨h1,h2⟩
def readyL (ops:Array Oper) (pend:List Nat):List Nat:=filtB (fun i=>allB (fun k=>!(mem pend k)) (deps ops i)) pend
noncomputable def anyK (cx:Ctx) (nt:Fr) (Δ:List (Nat×Fn)) (ops:Array Oper):Nat→List Nat→X→(X→Option α)→Option α
 | 0,pend,x,K=>match pend with
  | []=>K x
  | _ :: _=>none
 | n+1,pend,x,K=>match pend with
  | []=>K x
  | _ :: _=>sameL (fun i=>match nth ops.toList i with
   | some o=>opsK cx nt Δ ops.toList [o] x fun x'=>anyK cx nt Δ ops n (delN i pend) x' K
   | none=>none) (readyL ops pend)
def subs:List Nat→List (List Nat)
 | []=>[[]]
 | i :: l=>app (subs l) (mapS' (fun s=>i :: s) (subs l))
where
 mapS' (f:List Nat→List Nat):List (List Nat)→List (List Nat)
 | []=>[]
 | s :: l=>f s :: mapS' f l
def upOk (ops:Array Oper) (A:List Nat) (S:List Nat):Bool:=allB (fun j=>match mem S j with | true=>true | false=>allB (fun k=>!(mem S k)) (deps ops j)) A
def drawTOk (ops:Array Oper) (A fl:List Nat):Bool :=
 and (allB (fun k=>Nat.blt k ops.size) A) (and (allB (fun k=>mem A k) fl) (and (allB (fun j=>allB (fun k=>Nat.blt k j) (deps ops j)) (rangeFrom 0 ops.size))
  (allB (fun j=>match mem A j with | true=>true | false=>allB (fun k=>match mem fl k with | true=>true | false=>before ops ops.size j k) A) (rangeFrom 0 ops.size))))
def readsA (cx:Ctx) (nt:Fr) (Δ:List (Nat×Fn)) (ops:Array Oper) (x0:X):List Nat→Res→(Res→Option α)→Option α
 | [],R,K=>K R
 | i :: is,R,K=>match nth ops.toList i with
  | some o=>readsK cx nt Δ ops x0 i [o] R fun R'=>readsA cx nt Δ ops x0 is R' K
  | none=>none
def dstsA (nt:Fr) (ops:Array Oper):List Nat→List Nat
 | []=>[]
 | i :: is=>match nth ops.toList i with
  | some o=>app (dstsO nt [o]) (dstsA nt ops is)
  | none=>dstsA nt ops is
def restA (A:List Nat):List Nat→List Nat
 | []=>[]
 | j :: l=>match mem A j with
  | true=>restA A l
  | false=>j :: restA A l
noncomputable def drawTK (cx:Ctx) (nt:Fr) (Δ:List (Nat×Fn)) (ops:Array Oper) (A fl:List Nat) (x:X) (K:X→Option α):Option α:=match drawTOk ops A fl with
 | true=>(dropAll (dstsA nt ops A) x).bind fun x0=>readsA cx nt Δ ops x0 A [] fun R =>
  match allB (fun k=>mem (dstsA nt ops A) k) (dstsR R) with
  | true=>sameL (fun S=>anyK cx nt Δ ops ops.size (app S (restA A (rangeFrom 0 ops.size))) (withR x0 (fun i=>!(mem S i)) R) K) (filtB (upOk ops A) (subs fl))
  | false=>none
 | false=>none
theorem filt_subs (f:Nat→Bool):∀ fl:List Nat,filtB f fl∈subs fl
 | []=>by simp [filtB,subs]
 | i :: l=>by
  have ih:=filt_subs f l
  have hmap:∀ (L:List (List Nat)) s,s∈L→(i :: s)∈subs.mapS' (fun s=>i :: s) L:=by
   intro L s hs
   induction L with
   | nil=>simp at hs
   | cons a L ihL =>
    unfold subs.mapS'
    rcases List.mem_cons.1 hs with e | e
    ·subst e; exact List.mem_cons_self
    ·exact List.mem_cons_of_mem _ (ihL e)
  unfold filtB subs
  rw [app_eq]
  cases f i with
  | true=>exact List.mem_append.2 (.inr (hmap _ _ ih))
  | false=>exact List.mem_append.2 (.inl ih)
theorem rangeFrom_iff {a n j:Nat}:j∈rangeFrom a n↔a≤j∧j<a+n:=by
 induction n generalizing a with
 | zero=>simp [rangeFrom]
 | succ n ih=>simp only [rangeFrom,List.mem_cons,ih]; omega
theorem selE_same {A A':Nat→Bool}:∀ {R:Res},(∀ e∈R,A e.1=A' e.1)→selE A R=selE A' R
 | [],_=>rfl
 | e :: R,h=>by
  have ih:=selE_same (R:=R) (fun e he=>h e (List.mem_cons_of_mem _ he))
  unfold selE
  rw [h e List.mem_cons_self,ih]
theorem selR_same {A A':Nat→Bool}:∀ {R:Res},(∀ e∈R,A e.1=A' e.1)→selR A R=selR A' R
 | [],_=>rfl
 | e :: R,h=>by
  have ih:=selR_same (R:=R) (fun e he=>h e (List.mem_cons_of_mem _ he))
  unfold selR
  rw [h e List.mem_cons_self,ih]
theorem withR_same {x:X} {A A':Nat→Bool} {R:Res} (h:∀ e∈R,A e.1=A' e.1):withR x A R=withR x A' R:=by
 unfold withR
 rw [selE_same h,selR_same h]
section
variable {c:Ctx} {nt:Fr} {Δ:List (Nat×Fn)}
theorem anyK_sound (hΔ:Known c.P c.G Δ) {B:Base} (hG:Fit B c) (hnt:B.nt=nt) {ops:Array Oper} (hdep:∀ j k,k∈deps ops j→k<j) {Q:Exit→Act→World→Prop} {K:X→Option α} {q:α}
 (hK:∀ x s a w,RelW B s x a w→K x=some q→Q .normal a w):∀ (n:Nat) (pend:List Nat) (x:X) (s:Sit) (a:Act) (w:World) (listed:Array Bool) (n':Nat),RelW B s x a w→listed.size=ops.size →
  (∀ j,j<ops.size→(j∈pend↔listed.getD j false=false))→(∀ j∈pend,j<ops.size)→unl ops.size listed≤n'→anyK c nt Δ ops n pend x K=some q→wpAny c.P .any ops Q n' listed a w:=by
 have fin:∀ (x:X) (s:Sit) (a:Act) (w:World) (listed:Array Bool) (n':Nat),RelW B s x a w→listed.size=ops.size→(∀ j,j<ops.size→listed.getD j false=true)→K x=some q→wpAny c.P .any ops Q n' listed a w:=by
  intro x s a w listed n' h hs hall he
  have hr:Region.ready .any ops listed=[]:=by
   cases hr:Region.ready .any ops listed with
   | nil=>rfl
   | cons i l =>
    obtain ⟨g1,g2⟩:=ready_un hs (by rw [hr]; exact List.mem_cons_self:i∈Region.ready .any ops listed)
    rw [hall i g1] at g2; cases g2
  cases n' with
  | zero=>exact ⟨hr,hK _ _ _ _ h he⟩
  | succ n'=>exact ⟨fun _=>hK _ _ _ _ h he,fun i hi=>by rw [hr] at hi; simp at hi⟩
 intro n
 induction n with
 | zero =>
  intro pend x s a w listed n' h hs hp hlt hn he
  unfold anyK at he
  cases pend with
  | nil=>exact fin x s a w listed n' h hs (fun j hj=>by
   cases e:listed.getD j false with
   | true=>rfl
   | false=>exact absurd ((hp j hj).2 e) (by simp)) he
  | cons=>cases he
 | succ n ih =>
  intro pend x s a w listed n' h hs hp hlt hn he
  unfold anyK at he
  cases pend with
  | nil=>exact fin x s a w listed n' h hs (fun j hj=>by
   cases e:listed.getD j false with
   | true=>rfl
   | false=>exact absurd ((hp j hj).2 e) (by simp)) he
  | cons j0 pl =>
   generalize hpe:j0 :: pl=pend at *
   have hj0:j0∈pend:=by rw [← hpe]; exact List.mem_cons_self
   have he:sameL (fun i=>match nth ops.toList i with
    | some o=>opsK c nt Δ ops.toList [o] x fun x'=>anyK c nt Δ ops n (delN i pend) x' K
    | none=>none) (readyL ops pend)=some q:=by rw [← hpe] at he ⊢; exact he
   have hready:∀ i,i∈Region.ready .any ops listed→i∈readyL ops pend:=by
    intro i hi
    obtain ⟨g1,g2⟩:=ready_un hs hi
    refine mem_filtB.2 ⟨(hp i g1).2 g2,(allB_iff _ _).2 fun k hk=>?_⟩
    have hkl:=ready_deps hi k hk
    cases hm:mem pend k with
    | false=>rfl
    | true =>
     have hkm:=(mem_iff _ _).1 hm
     rw [(hp k (hlt k hkm)).1 hkm] at hkl; cases hkl
   have hne:∃ i l,readyL ops pend=i :: l:=by
    cases e:readyL ops pend with
    | nil=>rw [e] at he; cases he
    | cons i l=>exact ⟨i,l,rfl⟩
   obtain ⟨i0,l0,hi0⟩:=hne
   have hi0m:i0∈readyL ops pend:=by rw [hi0]; exact List.mem_cons_self
   obtain ⟨hi0p,hi0d⟩:=mem_filtB.1 hi0m
   have hreal:i0∈Region.ready .any ops listed:=by
    refine ready_of hs (hlt _ hi0p) ((hp _ (hlt _ hi0p)).1 hi0p) (fun k hk=>?_)
    have h1:=(allB_iff _ _).1 hi0d k hk
    cases e:listed.getD k false with
    | true=>rfl
    | false =>
     have h2:=(mem_iff _ _).2 ((hp k (Nat.lt_trans (hdep _ _ hk) (hlt _ hi0p))).2 e)
     rw [h2] at h1; cases h1
   have hstep:∀ n1,unl ops.size listed≤n1+1→∀ i∈Region.ready .any ops listed,wpOp c.P ops Q i (wpAny c.P .any ops Q n1 (listed.setIfInBounds i true)) a w:=by
    intro n1 hn1 i hi
    obtain ⟨g1,g2⟩:=ready_un hs hi
    have hb:=sameL_some he i (hready i hi)
    rw [nth_eq,Array.getElem?_toList,Array.getElem?_eq_getElem g1] at hb
    simp only at hb
    unfold wpOp
    rw [Array.getElem?_eq_getElem g1]
    have hst:=ops_step hΔ hG hnt (Q:=Q) h hb (K':=wpAny c.P .any ops Q n1 (listed.setIfInBounds i true)) (fun x' s' a' w' k1 k2=>by
     simp only [opsK] at k1
     refine ih (delN i pend) x' s' a' w' (listed.setIfInBounds i true) n1 k2 (by simpa using hs) (fun j hj=>?_) (fun j hj=>hlt j (mem_delN.1 hj).1) ?_ k1
     ·rw [mem_delN]
      by_cases e:j=i
      ·subst e
       constructor
       ·rintro ⟨-,h2⟩; exact absurd rfl h2
       ·intro h2
        have:(listed.setIfInBounds j true).getD j false=true:=by simp [show j<listed.size by omega]
        rw [this] at h2; cases h2
      ·rw [getD_set_ne false (fun e'=>e e'.symm),← hp j hj]
       exact ⟨fun h2=>h2.1,fun h2=>⟨h2,e⟩⟩
     ·have:=unl_set (l:=listed) (i:=i) (by omega) g2 ops.size
      rw [if_pos g1] at this
      omega)
    split at hst
    ·rename_i hwt; simp only [hwt,if_true]; exact .inl hst
    ·rename_i hwt; simp only [hwt]; exact hst
   cases n' with
   | zero =>
    have hall:=unl_zero (l:=listed) (k:=ops.size) (by omega)
    obtain ⟨g1,g2⟩:=ready_un hs hreal
    rw [hall _ g1] at g2; cases g2
   | succ n1 =>
    exact ⟨fun hr=>by rw [hr] at hreal; simp at hreal,hstep n1 hn⟩
theorem mem_restA {A:List Nat} {l:List Nat} {j:Nat}:j∈restA A l↔j∈l∧j∉A:=by
 induction l with
 | nil=>simp [restA]
 | cons a l ih =>
  unfold restA
  split
  ·rename_i hm
   have hm:=(mem_iff _ _).1 hm
   rw [ih,List.mem_cons]
   constructor
   ·rintro ⟨h1,h2⟩; exact ⟨.inr h1,h2⟩
   ·rintro ⟨h1 | h1,h2⟩
    ·rw [h1] at h2; exact absurd hm h2
    ·exact ⟨h1,h2⟩
  ·rename_i hm
   have hm:a∉A:=fun e=>by rw [(mem_iff _ _).2 e] at hm; cases hm
   rw [List.mem_cons,ih,List.mem_cons]
   constructor
   ·rintro (h1 | ⟨h1,h2⟩)
    ·rw [h1]; exact ⟨.inl rfl,hm⟩
    ·exact ⟨.inr h1,h2⟩
   ·rintro ⟨h1 | h1,h2⟩
    ·exact .inl h1
    ·exact .inr ⟨h1,h2⟩
theorem readsA_traced {ops:Array Oper} {x0:X} {K:Res→Option α} {q:α}:∀ (A:List Nat) (R:Res),Uniq R→(∀ k∈dstsR R,look x0.env k=none)→(∀ k∈dstsA nt ops A,look x0.env k=none)→Traced c nt Δ ops x0 R →
 readsA c nt Δ ops x0 A R K=some q→∃ R',K R'=some q∧Uniq R'∧Traced c nt Δ ops x0 R'∧(∀ e∈R',e∈R∨e.1∈A)∧(∀ e∈R,e∈R')∧(∀ i∈A,∃ e∈R',e.1=i)
 | [],R,hu,h0,h0',ht,he=>⟨R,he,hu,ht,fun e he=>.inl he,fun e he=>he,fun i hi=>by simp at hi⟩
 | i :: is,R,hu,h0,h0',ht,he=>by
  unfold readsA at he
  split at he
  rotate_left
  ·cases he
  rename_i o ho
  have hdst:dstsA nt ops (i :: is)=app (dstsO nt [o]) (dstsA nt ops is):=by simp only [dstsA,ho]
  rw [hdst,app_eq] at h0'
  obtain ⟨R1,g1,g2,g3,g4,g5,g6⟩:=reads_traced [o] i R (fun n o' e=>by
   cases n with
   | zero =>
    simp only [List.getElem?_cons_zero,Option.some.injEq] at e
    subst e
    rw [Nat.add_zero,← Array.getElem?_toList,← nth_eq]; exact ho
   | succ n=>simp at e) hu h0 (fun k hk=>h0' k (List.mem_append.2 (.inl hk))) ht he
  obtain ⟨R',m1,m2,m3,m4,m5,m6⟩:=readsA_traced is R1 g2 (fun k hk=>by
   obtain ⟨e,e1,rfl⟩:=mem_dstsR.1 hk
   rcases g4 e e1 with g | g
   ·exact h0 _ (mem_dstsR.2 ⟨e,g,rfl⟩)
   ·exact h0' _ (List.mem_append.2 (.inl g.2.2))) (fun k hk=>h0' k (List.mem_append.2 (.inr hk))) g3 g1
  refine ⟨R',m1,m2,m3,fun e he=>?_,fun e he=>m5 e (g5 e he),fun i' hi'=>?_⟩
  ·rcases m4 e he with g | g
   ·rcases g4 e g with g | g
    ·exact .inl g
    ·exact .inr (by
      have h1:=g.1; have h2:=g.2.1
      simp only [List.length_cons,List.length_nil] at h2
      rw [show e.1=i by omega]; exact List.mem_cons_self)
   ·exact .inr (List.mem_cons_of_mem _ g)
  ·rcases List.mem_cons.1 hi' with e | e
   ·subst e
    obtain ⟨e,e1,e2⟩:=g6 i' (Nat.le_refl _) (by simp)
    exact ⟨e,m5 e e1,e2⟩
   ·exact m6 i' e
theorem any_float {P:Program} {ops:Array Oper} {Q:Exit→Act→World→Prop} {A fl:List Nat} {I:Array Bool→Act→World→Prop} (hmo:∀ k∈A,k<ops.size) (hdep:∀ j k,k∈deps ops j→k<j)
 (hseq:∀ j,j∉A→j<ops.size→∀ k∈A,k∉fl→∃ n,before ops n j k=true)
 (hI:∀ listed a w i,I listed a w→Closed ops listed→i∈Region.ready .any ops listed→i∈A→wpOp P ops Q i (fun a' w'=>I (listed.setIfInBounds i true) a' w') a w)
 (hJ:∀ n listed a w,I listed a w→Closed ops listed→listed.size=ops.size→(∀ j∈A,j∉fl→listed.getD j false=true)→(∀ j,j∉A→listed.getD j false=false)→unl ops.size listed≤n→wpAny P .any ops Q n listed a w) :
 ∀ (n:Nat) (listed:Array Bool) (a:Act) (w:World),Closed ops listed→(∀ j,j∉A→listed.getD j false=false)→listed.size=ops.size→unl ops.size listed≤n→I listed a w→wpAny P .any ops Q n listed a w:=by
 intro n
 induction n with
 | zero =>
  intro listed a w hc h2 hs hn hi
  have hall:=unl_zero (l:=listed) (k:=ops.size) (by omega)
  exact hJ 0 listed a w hi hc hs (fun j hj _=>hall j (hmo j hj)) h2 hn
 | succ n ih =>
  intro listed a w hc h2 hs hn hi
  by_cases hall:∀ j∈A,j∉fl→listed.getD j false=true
  ·exact hJ (n+1) listed a w hi hc hs hall h2 hn
  ·have hex:∃ j,j∈A∧j∉fl∧listed.getD j false=false:=by
    refine Classical.byContradiction fun hno=>hall fun j hj hf=>?_
    cases e:listed.getD j false with
    | true=>rfl
    | false=>exact absurd ⟨j,hj,hf,e⟩ hno
   obtain ⟨j1,hj1,hf1,hu1⟩:=hex
   have hmin:∃ j,j≤j1∧listed.getD j false=false∧∀ k,k<j→listed.getD k false=true:=by
    have key:∀ b,b≤j1→(∀ k,k<b→listed.getD k false=true)∨∃ j,j<b∧listed.getD j false=false∧∀ k,k<j→listed.getD k false=true:=by
     intro b
     induction b with
     | zero=>exact fun _=>.inl (fun k hk=>by omega)
     | succ b ihb =>
      intro hb
      rcases ihb (by omega) with h | ⟨j,hj,h⟩
      ·cases hbb:listed.getD b false with
       | true=>exact .inl (fun k hk=>by
        by_cases e:k=b
        ·subst e; exact hbb
        ·exact h k (by omega))
       | false=>exact .inr ⟨b,by omega,hbb,h⟩
      ·exact .inr ⟨j,by omega,h⟩
    rcases key j1 (Nat.le_refl _) with h | ⟨j,hj,h⟩
    ·exact ⟨j1,Nat.le_refl _,hu1,h⟩
    ·exact ⟨j,by omega,h⟩
   obtain ⟨j0,hj0,hu0,hlt0⟩:=hmin
   have hj1s:=hmo j1 hj1
   have hr0:=ready_of (j:=j0) hs (by omega) hu0 (fun k hk=>hlt0 k (hdep j0 k hk))
   refine ⟨fun hr=>(by rw [hr] at hr0; cases hr0),fun i hii=>?_⟩
   obtain ⟨g1,g2⟩:=ready_un hs hii
   have him:i∈A:=by
    refine Classical.byContradiction fun hge=>?_
    obtain ⟨k,hk⟩:=hseq i hge g1 j1 hj1 hf1
    have:=before_listed k hc (ready_deps hii) hk
    rw [hu1] at this; cases this
   refine wpOp_mono (fun a' w' hi'=>ih _ a' w' (hc.set hii) (fun j hj=>?_) (by simpa using hs) ?_ hi') (hI listed a w i hi hc hii him)
   ·rw [getD_set_ne false (fun e=>hj (by rw [← e]; exact him))]; exact h2 j hj
   ·have:=unl_set (l:=listed) (i:=i) (by omega) g2 ops.size
    rw [if_pos g1] at this
    omega
theorem drawT_sound (hΔ:Known c.P c.G Δ) {B:Base} (hG:Fit B c) (hnt:B.nt=nt) {id:Nat} {ops:Array Oper} {A fl:List Nat} {Q:Exit→Act→World→Prop} {K:X→Option α} {q:α}
 (hK:∀ x s a w,RelW B s x a w→K x=some q→Q .normal a w) {x:X} {s:Sit} {a:Act} {w:World} (h:RelW B s x a w) (he:drawTK c nt Δ ops A fl x K=some q):(Code.region id ops true).wp c.P Q a w:=by
 unfold drawTK at he
 split at he
 rotate_left
 ·cases he
 rename_i hok
 simp only [drawTOk,Bool.and_eq_true] at hok
 obtain ⟨o1,of,o2,o3⟩:=hok
 have o1:∀ k∈A,k<ops.size:=fun k hk=>by simpa [Nat.blt_eq] using (allB_iff _ _).1 o1 k hk
 obtain ⟨x0,e0,he2⟩:=Option.bind_eq_some_iff.mp he
 obtain ⟨s0,d1,d2,-,-,-,-,d7⟩:=dropAll_sound _ h e0
 obtain ⟨R,r1,hu,r2,r3,-,r4⟩:=readsA_traced A [] (fun e he=>by simp at he) (fun k hk=>by simp [dstsR] at hk) (fun k hk=>(d7 k hk).1) (fun i k d row hm=>by simp at hm) he2
 have r3:∀ e∈R,e.1∈A:=fun e he=>by
  rcases r3 e he with g | g
  ·simp at g
  ·exact g
 split at r1
 rotate_left
 ·cases r1
 rename_i b2
 have h0:∀ k∈dstsR R,look x0.env k=none∧look x0.roots k=none∧lockOk x0 k []=true∧(k,[])∈x0.dirt:=fun k hk=>d7 k ((mem_iff _ _).1 ((allB_iff _ _).1 b2 k hk))
 have hf:RelW B s0 x0 a { w with drawn:=w.drawn+1 }:=d1.world (w':={ w with drawn:=w.drawn+1 }) (fun _ _=>rfl) (Nat.le_refl _) rfl rfl rfl
 have hdep:∀ j k,k∈deps ops j→k<j:=by
  intro j k hk
  by_cases hjs:j<ops.size
  ·have:=(allB_iff _ _).1 ((allB_iff _ _).1 o2 j (rangeFrom_mem (Nat.zero_le _) (by omega))) k hk
   simpa [Nat.blt_eq] using this
  ·obtain ⟨o,ho,_⟩:=deps_mem.1 hk
   exact absurd (Array.getElem?_eq_some_iff.mp ho).1 hjs
 have hflm:∀ k∈fl,k∈A:=fun k hk=>(mem_iff _ _).1 ((allB_iff _ _).1 of k hk)
 refine wp_region_any c.mix ?_
 refine any_float (A:=A) (fl:=fl) (I:=fun listed a1 w1=>listed.size=ops.size∧∃ s1,RelW B s1 (withR x0 (fun j=>listed.getD j false) R) a1 w1) o1 hdep (fun j hj hjs k hk hkf=>?_) (fun listed a1 w1 i hi hc hr him=>?_)
  (fun n listed a1 w1 hi hc hs hnf hun hn=>?_) ops.size _ a _ ?_ ?_ (by simp) ?_ ⟨by simp,s0,?_⟩
 ·have:=(allB_iff _ _).1 o3 j (rangeFrom_mem (Nat.zero_le _) (by omega))
  split at this
  ·rename_i hm; exact absurd ((mem_iff _ _).1 hm) hj
  ·have:=(allB_iff _ _).1 this k hk
   split at this
   ·rename_i hm; exact absurd ((mem_iff _ _).1 hm) hkf
   ·exact ⟨_,this⟩
 ·obtain ⟨⟨i',k,d,row⟩,m1,m2⟩:=r4 i him
  simp only at m2
  subst m2
  have hin:i'<listed.size:=by rw [hi.1]; exact o1 _ him
  exact draw_step hΔ hG hnt hu h0 r2 hc m1 hr hin hi.2 (fun a' w' hr'=>⟨by simpa using hi.1,hr'⟩)
 ·obtain ⟨-,s1,hi2⟩:=hi
  let S:=filtB (fun k=>!(listed.getD k false)) fl
  have hSm:∀ j,j∈S↔j∈fl∧listed.getD j false=false:=by
   intro j
   have:j∈S↔j∈fl∧(!(listed.getD j false))=true:=mem_filtB
   rw [this]
   simp
  have hS:∀ j∈A,(j∈S↔listed.getD j false=false):=by
   intro j hj
   rw [hSm]
   refine ⟨fun h=>h.2,fun h=>⟨?_,h⟩⟩
   refine Classical.byContradiction fun hno=>?_
   rw [hnf j hj hno] at h; cases h
  have hup:upOk ops A S=true:=by
   refine (allB_iff _ _).2 fun j hj=>?_
   cases e:mem S j with
   | true=>rfl
   | false =>
    refine (allB_iff _ _).2 fun k hk=>?_
    cases e2:mem S k with
    | false=>rfl
    | true =>
     have hlj:listed.getD j false=true:=by
      cases e3:listed.getD j false with
      | true=>rfl
      | false=>rw [(mem_iff _ _).2 ((hS j hj).2 e3)] at e; cases e
     have:=hc j hlj k hk
     rw [((hSm k).1 ((mem_iff _ _).1 e2)).2] at this; cases this
  have hin:S∈filtB (upOk ops A) (subs fl):=mem_filtB.2 ⟨filt_subs _ _,hup⟩
  have hk1:=sameL_some r1 S hin
  have hsame:withR x0 (fun i=>!(mem S i)) R=withR x0 (fun j=>listed.getD j false) R:=by
   refine withR_same fun e he=>?_
   have hem:=r3 e he
   cases e4:listed.getD e.1 false with
   | false=>rw [(mem_iff _ _).2 ((hS _ hem).2 e4)]; rfl
   | true =>
    cases e5:mem S e.1 with
    | false=>rfl
    | true=>rw [((hSm _).1 ((mem_iff _ _).1 e5)).2] at e4; cases e4
  rw [hsame] at hk1
  refine anyK_sound hΔ hG hnt hdep hK ops.size _ _ s1 a1 w1 listed n hi2 hs (fun j hj=>?_) (fun j hj=>?_) hn hk1
  ·rw [app_eq,List.mem_append,mem_restA,rangeFrom_iff]
   by_cases hjm:j∈A
   ·rw [hS j hjm]
    constructor
    ·rintro (h | h)
     ·exact h
     ·exact absurd hjm h.2
    ·exact .inl
   ·constructor
    ·intro _; exact hun j hjm
    ·intro _; exact .inr ⟨by omega,hjm⟩
  ·rw [app_eq,List.mem_append,mem_restA,rangeFrom_iff] at hj
   rcases hj with hj | hj
   ·exact o1 _ (hflm j ((hSm j).1 hj).1)
   ·omega
 ·intro j hj
  simp only [Array.getD_eq_getD_getElem?,Array.getElem?_replicate] at hj
  split at hj <;> simp at hj
 ·intro j hj
  simp only [Array.getD_eq_getD_getElem?,Array.getElem?_replicate]
  split <;> simp
 ·have:=unl_split (m:=0) (l:=Array.replicate ops.size false) (fun j hj=>by omega) (fun j _=>by
   simp only [Array.getD_eq_getD_getElem?,Array.getElem?_replicate]
   split <;> simp) ops.size
  omega
 ·have hfalse:∀ i,(Array.replicate ops.size false).getD i false=false:=by
   intro i
   simp only [Array.getD_eq_getD_getElem?,Array.getElem?_replicate]
   split <;> simp
  refine hf.same (E:=(withR x0 (fun j=>(Array.replicate ops.size false).getD j false) R).env) (Rt:=(withR x0 (fun j=>(Array.replicate ops.size false).getD j false) R).roots) (fun k d hd=>?_) (fun r=>?_)
  ·simp only [withR,look_app] at hd
   rw [look_none (l:=selE _ R) (fun d1 hd1=>by
    obtain ⟨i,row,m1,m2⟩:=(selE_iff hu).1 hd1
    simp only [hfalse] at m2; cases m2)] at hd
   exact hd
  ·simp only [withR,look_app]
   rw [look_none (l:=selR _ R) (fun d1 hd1=>by
    obtain ⟨i,d,m1,m2⟩:=(selR_iff hu).1 hd1
    simp only [hfalse] at m2; cases m2)]
end
end Go.V
namespace Go.V
open Go.RowKit
section
variable {P:Program}
def Act.putAll (a:Act):List Nat→List Value→Act
 | k :: ks,v :: vs=>Act.putAll (a.put (some k) v) ks vs
 | _,_=>a
theorem putAll_defers:∀ (ks:List Nat) (vs:List Value) (a:Act),(Act.putAll a ks vs).defers=a.defers
 | [],vs,a=>by cases vs <;> rfl
 | k :: ks,[],a=>rfl
 | k :: ks,v :: vs,a=>by simp only [Act.putAll]; rw [putAll_defers ks vs]; rfl
theorem putAll_out:∀ (ks:List Nat) (vs:List Value) (a:Act) (j:Nat),j∉ks→(Act.putAll a ks vs).tmps[j]?=a.tmps[j]?
 | [],vs,a,j,_=>by cases vs <;> rfl
 | k :: ks,[],a,j,_=>rfl
 | k :: ks,v :: vs,a,j,h=>by
  simp only [Act.putAll]
  rw [putAll_out ks vs _ j (fun e=>h (List.mem_cons_of_mem _ e))]
  simp only [Act.put]
  rw [Array.getElem?_setIfInBounds_ne (fun e=>h (by rw [e]; exact List.mem_cons_self))]
theorem putAll_in:∀ (ks:List Nat) (vs:List Value) (a:Act) (i k:Nat) (v:Value),ks.Nodup→ks[i]?=some k→vs[i]?=some v→k<a.tmps.size→(Act.putAll a ks vs).tmps[k]?=some v
 | [],vs,a,i,k,v,_,h,_,_=>by simp at h
 | k0 :: ks,[],a,i,k,v,_,_,h,_=>by simp at h
 | k0 :: ks,v0 :: vs,a,i,k,v,hn,h1,h2,hk=>by
  rw [List.nodup_cons] at hn
  simp only [Act.putAll]
  cases i with
  | zero =>
   simp only [List.getElem?_cons_zero,Option.some.injEq] at h1 h2
   subst h1 h2
   rw [putAll_out ks vs _ _ hn.1]
   simp only [Act.put]
   rw [Array.getElem?_setIfInBounds_self_of_lt hk]
  | succ i=>exact putAll_in ks vs _ i k v hn.2 (by simpa using h1) (by simpa using h2) (by simpa [Act.put] using hk)
theorem nodup_idx:∀ {l:List Nat} {i j k:Nat},l.Nodup→l[i]?=some k→l[j]?=some k→i=j
 | [],i,j,k,_,h,_=>by simp at h
 | a :: l,i,j,k,hn,h1,h2=>by
  rw [List.nodup_cons] at hn
  cases i with
  | zero =>
   cases j with
   | zero=>rfl
   | succ j =>
    simp only [List.getElem?_cons_zero,Option.some.injEq,List.getElem?_cons_succ] at h1 h2
    subst h1
    exact absurd (List.mem_of_getElem? h2) hn.1
  | succ i =>
   cases j with
   | zero =>
    simp only [List.getElem?_cons_zero,Option.some.injEq,List.getElem?_cons_succ] at h1 h2
    subst h2
    exact absurd (List.mem_of_getElem? h1) hn.1
   | succ j =>
    simp only [List.getElem?_cons_succ] at h1 h2
    rw [nodup_idx hn.2 h1 h2]
structure Pend (a0:Act) (ks:List Nat) (vs:List Value) (listed:Array Bool) (a:Act):Prop where
 size:a.tmps.size=a0.tmps.size
 defers:a.defers=a0.defers
 out:∀ j,j∉ks→a.tmps[j]?=a0.tmps[j]?
 inn:∀ i k v,ks[i]?=some k→vs[i]?=some v→listed.getD i false=true→a.tmps[k]?=some v
theorem wp_drawn_pure (hmix:P.follows .mixedOrders=true) {id:Nat} {ops:Array Oper} {m:Nat} {Q:Exit→Act→World→Prop} {a:Act} {w:World} (hok:drawOk ops m=true)
 {ks:List Nat} {vs:List Value} (hkl:ks.length=m) (hvl:vs.length=m) (hnd:ks.Nodup) (hlt:∀ k∈ks,k<a.tmps.size)
 (hrun:∀ (i:Nat) k v,ks[i]?=some k→vs[i]?=some v→∃ o,ops[i]?=some o∧o.guard=none∧o.dst=some k ∧
  ∀ a':Act,(∀ j,j∉ks→a'.tmps[j]?=a.tmps[j]?)→(∀ j k' v',j∈deps ops i→ks[j]?=some k'→vs[j]?=some v'→a'.tmps[k']?=some v')→∀ w',(execOp a'.eval o).run P w' = .ok (.value v) w')
 (hrest:wpList P ops Q (ops.toList.drop m) (Act.putAll a ks vs) { w with drawn:=w.drawn+1 }):(Code.region id ops true).wp P Q a w:=by
 simp only [drawOk,Bool.and_eq_true] at hok
 obtain ⟨o1,o2,o3⟩:=hok
 have o1:=Nat.le_of_ble_eq_true o1
 refine wp_region_any hmix ?_
 refine any_two (m:=m) (I:=fun listed a1 w1=>listed.size=ops.size∧Pend a ks vs listed a1∧w1 = { w with drawn:=w.drawn+1 })
  (J:=fun t a1 w1=>wpList P ops Q (ops.toList.drop t) a1 w1) o1 (fun j k hk=>?_) (fun j hj hjs k hk=>?_) (fun listed a1 w1 i hi hc hr him=>?_) (fun listed a1 w1 hi hall=>?_)
  (fun t a1 w1 hmt hts hj=>?_) (fun a1 w1 hj=>?_) ops.size _ a _ ?_ ?_ (by simp) ?_ ⟨by simp,⟨rfl,rfl,fun _ _=>rfl,fun i k v h1 h2 h3=>?_⟩,rfl⟩
 ·by_cases hjs:j<ops.size
  ·have:=(allB_iff _ _).1 ((allB_iff _ _).1 o2 j (rangeFrom_mem (Nat.zero_le _) (by omega))) k hk
   simpa [Nat.blt_eq] using this
  ·obtain ⟨o,ho,_⟩:=deps_mem.1 hk
   exact absurd (Array.getElem?_eq_some_iff.mp ho).1 hjs
 ·exact ⟨_,(allB_iff _ _).1 ((allB_iff _ _).1 o3 j (rangeFrom_mem hj (by omega))) k (rangeFrom_mem (Nat.zero_le _) (by omega))⟩
 ·obtain ⟨hsz,hp,rfl⟩:=hi
  obtain ⟨k,hk⟩:∃ k,ks[i]?=some k:=⟨ks[i]'(by omega),List.getElem?_eq_getElem _⟩
  obtain ⟨v,hv⟩:∃ v,vs[i]?=some v:=⟨vs[i]'(by omega),List.getElem?_eq_getElem _⟩
  obtain ⟨o,ho,hg,hd,hex⟩:=hrun i k v hk hv
  unfold wpOp
  rw [ho]
  have hw:Region.wanted o (yielded ops a1.tmps)=true:=by simp [Region.wanted,hg]
  simp only [hw,if_true]
  refine .inl ?_
  unfold Oper.wp
  rw [hex a1 hp.out (fun j k' v' hj h1 h2=>hp.inn j k' v' h1 h2 (ready_deps hr j hj)),Oper.upon_value,hd]
  have hkm:k∈ks:=List.mem_of_getElem? hk
  refine ⟨by simpa using hsz,⟨by simp [Act.put,hp.size],hp.defers,fun j hj=>?_,fun i' k' v' h1 h2 h3=>?_⟩,rfl⟩
  ·simp only [Act.put]
   rw [Array.getElem?_setIfInBounds_ne (fun e=>hj (by rw [← e]; exact hkm))]
   exact hp.out j hj
  ·by_cases hii:i'=i
   ·subst hii
    rw [hk,Option.some.injEq] at h1
    rw [hv,Option.some.injEq] at h2
    subst h1 h2
    simp only [Act.put]
    rw [Array.getElem?_setIfInBounds_self_of_lt (by rw [hp.size]; exact hlt _ hkm)]
   ·have hkk:k≠k':=fun e=>hii (by
     subst e
     exact nodup_idx hnd h1 hk)
    simp only [Act.put]
    rw [Array.getElem?_setIfInBounds_ne hkk]
    exact hp.inn i' k' v' h1 h2 (by rwa [getD_set_ne false (fun e=>hii e.symm)] at h3)
 ·obtain ⟨hsz,hp,rfl⟩:=hi
  have:a1=Act.putAll a ks vs:=by
   have ht:a1.tmps=(Act.putAll a ks vs).tmps:=by
    apply Array.ext_getElem?
    intro j
    by_cases hj:j∈ks
    ·obtain ⟨i,hi⟩:=List.getElem?_of_mem hj
     have him:i<m:=by have:=(List.getElem?_eq_some_iff.mp hi).1; omega
     obtain ⟨v,hv⟩:∃ v,vs[i]?=some v:=⟨vs[i]'(by omega),List.getElem?_eq_getElem _⟩
     rw [hp.inn i j v hi hv (hall i him),putAll_in ks vs a i j v hnd hi hv (hlt j hj)]
    ·rw [hp.out j hj,putAll_out ks vs a j hj]
   have hdd:a1.defers=(Act.putAll a ks vs).defers:=by rw [hp.defers,putAll_defers]
   cases a1
   cases h2:Act.putAll a ks vs
   rw [h2] at ht hdd
   simp only at ht hdd
   rw [ht,hdd]
  rw [this]
  exact hrest
 ·unfold wpOp
  rw [Array.getElem?_eq_getElem hts]
  have hd:ops.toList.drop t=ops[t] :: ops.toList.drop (t+1):=by
   rw [List.drop_eq_getElem_cons (by simpa using hts)]; simp
  rw [hd] at hj
  exact hj
 ·have:ops.toList.drop ops.size=[]:=by simp
  rw [this] at hj
  exact hj
 ·intro j hj
  simp only [Array.getD_eq_getD_getElem?,Array.getElem?_replicate] at hj
  split at hj <;> simp at hj
 ·intro j hj
  simp only [Array.getD_eq_getD_getElem?,Array.getElem?_replicate]
  split <;> simp
 ·have:=unl_split (m:=0) (l:=Array.replicate ops.size false) (fun j hj=>by omega) (fun j _=>by
   simp only [Array.getD_eq_getD_getElem?,Array.getElem?_replicate]
   split <;> simp) ops.size
  omega
 ·simp only [Array.getD_eq_getD_getElem?,Array.getElem?_replicate] at h3
  split at h3 <;> simp at h3
end
end Go.V
namespace Go.V
open Go.RowKit
structure Turned (w w':World) (b:Nat) (el:TypeId) (L':List Value):Prop where
 heap:w'.heap[b]?=some (.cells L'.toArray el (0,0))
 other:∀ k,k≠b→w'.heap[k]?=w.heap[k]?
 size:w'.heap.size=w.heap.size
 os:w'.os=w.os
 tape:w'.tape=w.tape
 output:w'.output=w.output
theorem Turned.of {w:World} {b:Nat} {el:TypeId} {L:List Value} (h:Blk w b el L) (L':List Value):Turned w (w.setRow b L'.toArray) b el L' :=
 ⟨setRow_heap w b _ _ el (0,0) h,fun k hk=>setRow_other w b k _ hk,setRow_size _ _ _,rfl,rfl,rfl⟩
def DelOk (P:Program) (f:FuncId) (sz:Nat):Prop :=
 (∀ (w:World) (ad:Option Addr) (n cap i:Nat),i≤n→n≤cap→Calls P f #[.slice ad n cap,iv i,iv i] w fun e w'=>e = .returned (.slice ad n cap)∧w'=w) ∧
 ∀ (w:World) (b off n cap i j:Nat) (el:TypeId) (L:List Value),i<j→j≤n→n≤cap→Blk w b el L→off+cap * sz≤L.length→(∀ u∈seg L off (n * sz),u.oneCell'=true) →
  Calls P f #[.slice (some ⟨b,off,none⟩) n cap,iv i,iv j] w fun e w'=>e = .returned (.slice (some ⟨b,off,none⟩) (n - (j - i)) cap) ∧
   ∃ L',L'.length=L.length∧Turned w w' b el L'∧∀ k,k<(n - (j - i)) * sz→L'[off+k]?=if k<i * sz then L[off+k]? else L[off+k+(j - i) * sz]?
theorem del_steps {P:Program} {t e:TypeId} {ti ei:TyInfo} (hi:TyOk1 P t ti) (hd:ti.d = .sl e) (hei:TyOk1 P e ei) (hone:∀ u∈ei.zero,u.oneCell'=true) (hsz:ei.zero.length=ei.size) (hs0:0<ei.size)
 {w:World} {b off n cap i j:Nat} {el:TypeId} {L:List Value} (hij:i<j) (hjn:j≤n) (hnc:n≤cap) (hb:Blk w b el L) (hfit:off+cap * ei.size≤L.length) (hL:∀ u∈seg L off (n * ei.size),u.oneCell'=true) :
 ∃ v1 v3 v5 w3,(∀ w,(Instr.sliceAt t (.slice (some ⟨b,off,none⟩) n cap) (some (iv i)) (some (iv j)) (some (iv n))).run P w = .ok v1 w) ∧
  (∀ w,(Instr.sliceAt t (.slice (some ⟨b,off,none⟩) n cap) none (some (iv i)) none).run P w = .ok (.slice (some ⟨b,off,none⟩) i cap) w) ∧
  (∀ w,(Instr.sliceAt t (.slice (some ⟨b,off,none⟩) n cap) (some (iv j)) none none).run P w = .ok v3 w) ∧
  (∃ w2,(Builtin.append_ #[t,t] t #[.slice (some ⟨b,off,none⟩) i cap,v3]).run P { w with drawn:=w.drawn+1 } = .ok (.slice (some ⟨b,off,none⟩) (n - (j - i)) cap) w2 ∧
   (∀ w,(Instr.sliceAt t (.slice (some ⟨b,off,none⟩) (n - (j - i)) cap) (some (iv (n - (j - i)))) (some (iv n)) none).run P w = .ok v5 w) ∧
   (Builtin.clear_ #[t] 0 #[v5]).run P w2 = .ok (.tuple #[]) w3) ∧
  ∃ L',L'.length=L.length∧Turned w w3 b el L'∧∀ k,k<(n - (j - i)) * ei.size→L'[off+k]?=if k<i * ei.size then L[off+k]? else L[off+k+(j - i) * ei.size]?:=by
 have m1:(n - (j - i)) * ei.size=i * ei.size+(n - j) * ei.size:=by rw [← Nat.add_mul]; congr 1; omega
 have m2:n * ei.size=j * ei.size+(n - j) * ei.size:=by rw [← Nat.add_mul]; congr 1; omega
 have m3:j * ei.size=i * ei.size+(j - i) * ei.size:=by rw [← Nat.add_mul]; congr 1; omega
 have m4:n * ei.size≤cap * ei.size:=Nat.mul_le_mul_right _ hnc
 have m6:0<(j - i) * ei.size:=Nat.mul_pos (by omega) hs0
 have hnn:n - (n - (j - i))=j - i:=by omega
 have hb':Blk { w with drawn:=w.drawn+1 } b el L:=hb
 -- the part behind
 have hv3:∃ o2 c2,(∀ w,(Instr.sliceAt t (.slice (some ⟨b,off,none⟩) n cap) (some (iv j)) none none).run P w = .ok (.slice (some ⟨b,o2,none⟩) (n - j) c2) w)∧(n - j=0∧o2≤L.length∨o2=off+j * ei.size):=by
  have h1:=fun w=>raw_slice (P:=P) hi hd hei (ad:=some ⟨b,off,none⟩) (n:=n) (cap:=cap) (l:=j) (h:=n) (lo:=some (iv j)) (hh:=none) (.inr rfl) (.inl ⟨rfl,rfl⟩) hjn hnc w
  by_cases hc:cap=j
  ·refine ⟨off,cap - j,fun w=>?_,.inl ⟨by omega,by omega⟩⟩
   rw [h1,if_pos hc]
  ·refine ⟨off+j * ei.size,cap - j,fun w=>?_,.inr rfl⟩
   rw [h1,if_neg hc]
   simp [addr_add]
 obtain ⟨o2,c2,hv3,ho2⟩:=hv3
 have hfit2:o2+(n - j) * ei.size≤L.length:=by
  rcases ho2 with ⟨h1,h2⟩ | h1
  ·rw [h1]; omega
  ·omega
 have hseg:∀ u∈seg L o2 ((n - j) * ei.size),u.oneCell'=true:=by
  intro u hu
  obtain ⟨k,k1,k2,k3⟩:=mem_seg hu
  have ho2:o2=off+j * ei.size:=by
   rcases ho2 with ⟨h1,h2⟩ | h1
   ·rw [h1] at k2; omega
   ·exact h1
  refine hL u (List.mem_of_getElem? (i:=k - off) ?_)
  rw [get_seg (by omega),← k3]
  congr 1; omega
 have q1:i+(n - j)≤cap:=by omega
 have q2:off+i * ei.size+(n - j) * ei.size≤L.length:=by omega
 have hap:=raw_append (P:=P) (ats:=#[t,t]) (ty:=t) rfl rfl hi hd hei (n:=i) (cap:=cap) (o2:=o2) (m:=n - j) (c2:=c2) hb' hb' q1 q2 hfit2 hseg
 have hlen1:(splice L (off+i * ei.size) (seg L o2 ((n - j) * ei.size))).length=L.length:=length_splice (by rw [length_seg hfit2]; exact q2)
 have hb2:Blk ({ w with drawn:=w.drawn+1 }.setRow b (splice L (off+i * ei.size) (seg L o2 ((n - j) * ei.size))).toArray) b el (splice L (off+i * ei.size) (seg L o2 ((n - j) * ei.size))):=hb'.set
 have hfit3:off+(n - (j - i)) * ei.size+(j - i) * ei.size≤(splice L (off+i * ei.size) (seg L o2 ((n - j) * ei.size))).length:=by rw [hlen1]; omega
 have hji:0<j - i:=by omega
 obtain ⟨us,hus,hcl,-⟩:=raw_clear (P:=P) (ats:=#[t]) (ty:=0) (o:=off+(n - (j - i)) * ei.size) (n:=j - i) (cap:=cap - (n - (j - i))) rfl hi hd hei hone hsz hs0 hb2 hji hfit3
 rw [setRow_setRow hb'] at hcl
 have e1:i+(n - j)=n - (j - i):=by omega
 rw [e1] at hap
 have hs1:(seg L o2 ((n - j) * ei.size)).length=(n - j) * ei.size:=length_seg hfit2
 have s2:=fun w=>raw_slice (P:=P) hi hd hei (ad:=some ⟨b,off,none⟩) (n:=n) (cap:=cap) (l:=0) (h:=i) (lo:=none) (hh:=some (iv i)) (.inl ⟨rfl,rfl⟩) (.inr rfl) (Nat.zero_le _) (by omega) w
 have s5:=fun w=>raw_slice (P:=P) hi hd hei (ad:=some ⟨b,off,none⟩) (n:=n - (j - i)) (cap:=cap) (l:=n - (j - i)) (h:=n) (lo:=some (iv (n - (j - i)))) (hh:=some (iv n)) (.inr rfl) (.inr rfl) (by omega) hnc w
 have s1:=fun w=>raw_slice3 (P:=P) hi hd hei (ad:=some ⟨b,off,none⟩) (n:=n) (cap:=cap) (l:=i) (h:=j) (m:=n) (by omega) (by omega) hnc w
 have hz:some (Addr.mk b off none)=(if cap=0 then some ⟨b,off,none⟩ else (some (Addr.mk b off none)).map (·.add (0 * ei.size))):=by simp [addr_add]
 rw [← hz,Nat.sub_zero,Nat.sub_zero] at s2
 have hne : ¬ cap=n - (j - i):=by omega
 rw [if_neg hne,hnn] at s5
 simp only [Option.map_some,addr_add] at s5
 generalize hL1:splice L (off+i * ei.size) (seg L o2 ((n - j) * ei.size))=L1 at *
 have f1:off+(n - (j - i)) * ei.size+us.length≤L1.length:=by rw [hlen1,hus]; omega
 have htu:=Turned.of hb' (splice L1 (off+(n - (j - i)) * ei.size) us)
 refine ⟨_,_,_,_,s1,s2,hv3,⟨_,hap,s5,hcl⟩,splice L1 (off+(n - (j - i)) * ei.size) us,by rw [length_splice f1,hlen1],⟨htu.heap,htu.other,htu.size,htu.os,htu.tape,htu.output⟩,fun k hk=>?_⟩
 have f2:off+i * ei.size+(seg L o2 ((n - j) * ei.size)).length≤L.length:=by rw [hs1]; omega
 have f3:off+k<off+(n - (j - i)) * ei.size:=by omega
 rw [get_splice f1,if_pos f3,← hL1,get_splice f2,hs1]
 by_cases hki:k<i * ei.size
 ·have f4:off+k<off+i * ei.size:=by omega
  rw [if_pos f4,if_pos hki]
 ·have f4 : ¬ off+k<off+i * ei.size:=by omega
  have f5:off+k<off+i * ei.size+(n - j) * ei.size:=by omega
  have f6:off+k - (off+i * ei.size)<(n - j) * ei.size:=by omega
  rw [if_neg f4,if_neg hki,if_pos f5,get_seg f6]
  have ho2:o2=off+j * ei.size:=by
   rcases ho2 with ⟨h1,h2⟩ | h1
   ·rw [h1] at m1; omega
   ·exact h1
  have f7:o2+(off+k - (off+i * ei.size))=off+k+(j - i) * ei.size:=by omega
  rw [f7]
end Go.V
namespace Go.V
open Go.RowKit
theorem Inj.remap {ψ χ:Lay} (h:Inj ψ) (f:Path→Path) (hf:∀ q y,χ q=some y→∃ y0,ψ (f q)=some y0∧blkOf y0=blkOf y)
 (hinj:∀ q q' y y',χ q=some y→χ q'=some y'→f q=f q'→q=q'):Inj χ:=fun q y q' y' b h1 h2 h3 h4=>by
 obtain ⟨y0,g1,g2⟩:=hf _ _ h1
 obtain ⟨y1,g3,g4⟩:=hf _ _ h3
 exact hinj _ _ _ _ h1 h3 (h _ _ _ _ b g1 (g2.trans h2) g3 (g4.trans h4))
def intS:PS:=⟨false,.bo,.int .i64⟩
def delS (e:Ty):Sig:=⟨[⟨false,.own,.sl e⟩,intS,intS],[⟨false,.own,.sl e⟩]⟩
def delR {α:Type} (d:List α×(Int×Int)):Option (List α) :=
 bif and (decide (0≤d.2.1)) (and (decide (d.2.1≤d.2.2)) (decide (d.2.2≤(d.1.length:Int)))) then some (app (d.1.take d.2.1.toNat) (d.1.drop d.2.2.toNat)) else none
theorem int_arg {w:World} {s:Sit} {n:Int} {v:Value} (h:RepD w s (paramD intS n) v):v = .int .i64 n:=by
 cases h with
 | v _ _ h=>cases h with
  | c _ _ h=>cases h with
   | k _ _ h =>
    cases h with
    | v _ _=>rfl
    | box _ _ _ hb=>cases hb
section
variable {P:Program}
theorem ints_arg {w:World} {s:Sit} {i j:Int} {vs:List Value} (hl:vs.length=2) (h:∀ (k:Nat) D,(paramsD [intS,intS] ((i,j):Int×Int))[k]?=some D→∃ v,vs[k]?=some v∧RepD w s D v):vs=[.int .i64 i,.int .i64 j]:=by
 obtain ⟨v0,e0,r0⟩:=h 0 _ rfl
 obtain ⟨v1,e1,r1⟩:=h 1 _ rfl
 have r0:=int_arg r0
 have r1:=int_arg r1
 subst r0 r1
 match vs,hl with
 | [a,b],_ =>
  simp only [List.getElem?_cons_zero,List.getElem?_cons_succ,Option.some.injEq] at e0 e1
  rw [e0,e1]
theorem LeftD.same {w:World} {S:Fl→Nat→Prop} {ψ:Lay} {e:Ty} {r:List (den e)} {v:Value} (h:RepO w S (.sl .own e r) v ψ) (h0:ψ []=some v) (hi:Inj ψ) (ho:∀ q y b,ψ q=some y→blkOf y=some b→b<w.heap.size):LeftD w S ψ w e r v ψ :=
 ⟨rfl,rfl,rfl,Nat.le_refl _,fun _ _ _=>rfl,h,h0,hi,fun q y b e1 e2=>⟨ho q y b e1 e2,.inr ⟨q,y,e1,e2⟩⟩⟩
theorem seg_all (L:List Value) (o n k:Nat) (u:Value) (h:(seg L o n)[k]?=some u):L[o+k]?=some u:=by
 have hk:k<n:=by
  have:=(List.getElem?_eq_some_iff.mp h).1
  unfold seg at this
  rw [List.length_take] at this
  omega
 rwa [get_seg hk] at h
theorem del_sound {e:Ty} {f:FuncId} (h:DelOk P f e.size):SoundD P f (delS e) delR:=by
 intro w S s v ψ vs xs d r hrep htop hinj _ _ _ hown hSs hslt hlen hargs hsem
 obtain ⟨i,j⟩:=d
 have hvs:=ints_arg hlen hargs
 subst hvs
 unfold delR at hsem
 simp only at hsem
 rcases cond_some hsem with ⟨hc,hsem⟩ | ⟨_,hsem⟩
 rotate_left
 ·cases hsem
 simp only [Bool.and_eq_true,decide_eq_true_eq] at hc
 obtain ⟨hi0,hij,hjn⟩:=hc
 obtain ⟨i,rfl⟩:=Int.eq_ofNat_of_zero_le hi0
 obtain ⟨j,rfl⟩:=Int.eq_ofNat_of_zero_le (Int.le_trans hi0 hij)
 simp only [Int.ofNat_le,Int.toNat_natCast,app_eq,Option.some.injEq] at hij hjn hsem
 subst hsem
 have hown':∀ q y b,ψ q=some y→blkOf y=some b→b<w.heap.size:=fun q y b e1 e2=>(hown q y b e1 e2).2.2
 by_cases hee:i=j
 ·subst hee
  rw [List.take_append_drop]
  have key:∀ ad cap,xs.length≤cap→v = .slice ad xs.length cap→Calls P f (v :: [.int .i64 (i:Int),.int .i64 (i:Int)]).toArray w fun ex w'=>∃ v' ψ',ex = .returned v'∧LeftD w S ψ w' e xs v' ψ':=by
   intro ad cap hcap hv
   subst hv
   refine (h.1 w ad xs.length cap i hjn hcap).mono (fun ex w' he=>?_)
   obtain ⟨rfl,rfl⟩:=he
   exact ⟨_,ψ,rfl,.same hrep htop hinj hown'⟩
  cases hrep with
  | sh _ _ _ ht=>simp [T.isSh] at ht
  | box _ cs ht=>simp [T.box?] at ht
  | nil _ ad φ h0 hn=>exact key ad 0 (by simp) rfl
  | sl _ _ b off cap arr el vs φ hb hcap hsz hc hr h0 hn=>exact key _ _ hcap rfl
 ·have hlt:i<j:=by omega
  have hrep0:=hrep
  cases hrep with
  | sh _ _ _ ht=>simp [T.isSh] at ht
  | box _ cs ht=>simp [T.box?] at ht
  | nil _ ad φ h0 hn=>simp at hjn; omega
  | sl _ _ b off cap arr el vs φ hb hcap hsz hcc hr h0 hn =>
   generalize hsz':e.size=sz at *
   have hfit:off+xs.length * sz≤arr.toList.length:=by
    have:xs.length * sz≤(cap+1) * sz:=Nat.mul_le_mul_right _ hcap
    simp; omega
   have hrows:RowsAt w S e xs (seg arr.toList off (xs.length * sz)) (fun q=>match q with | []=>none | q=>ψ q):=by
    refine ⟨by rw [hsz']; exact length_seg hfit,fun k l t e'=>⟨vs k l,?_,hr k l t e'⟩,fun k l e'=>hn k l e'⟩
    have hkl:=rows_lt e'
    have hk2:k * e.size+l<xs.length * e.size:=by
     have:(k+1) * e.size≤xs.length * e.size:=Nat.mul_le_mul_right _ hkl.1
     rw [Nat.add_mul] at this; omega
    rw [hsz'] at hk2 ⊢
    rw [get_seg hk2,Array.getElem?_toList]
    exact hcc k l t e'
   have hone:=hrows.one
   have hblk:Blk w b el arr.toList:=by unfold Blk; rw [hb]
   refine (h.2 w b off xs.length (cap+1) i j el arr.toList hlt hjn hcap hblk (by simpa using hsz) hone).mono (fun ex w' he=>?_)
   obtain ⟨rfl,L',hL1,ht,hL2⟩:=he
   -- the rows that stay
   have hr2:=(hrows.take i).append (hrows.drop j)
   have hlen1:(xs.take i).length=i:=by rw [List.length_take]; omega
   rw [hlen1] at hr2
   have hbS:∀ f,¬ S f b:=(hown [] _ b h0 rfl).1
   -- where they stood
   let g:Path→Path:=fun q=>match q with
    | []=>[]
    | (k,l) :: q=>if k<i then (k,l) :: q else (k - i+j,l) :: q
   have hχ:∀ k l q y,(catLay i (takeLay i fun q=>match q with | []=>none | q=>ψ q) (dropLay j fun q=>match q with | []=>none | q=>ψ q)) ((k,l) :: q)=some y→ψ (g ((k,l) :: q))=some y:=by
    intro k l q y hy
    simp only [catLay,takeLay,dropLay] at hy
    simp only [g]
    split at hy
    ·rename_i hk
     rw [if_pos hk]; exact hy
    ·rename_i hk
     rw [if_neg hk]; exact hy
   have hr3:=hr2.mono (w':=w') (fun f b' hS=>ht.other b' (fun e=>hbS f (e▸hS))) (fun c0 p y b' e1 e2=>ht.other b' (fun e=>by
    subst e
    obtain ⟨k,l⟩:=c0
    have h5:=hχ k l p y e1
    have h6:=hinj _ _ _ _ b' h5 e2 h0 rfl
    simp only [g] at h6
    split at h6 <;> cases h6))
   have hlen2:(xs.take i++xs.drop j).length=xs.length - (j - i):=by simp; omega
   have hto:=hr3.toSl (b:=b) (off:=off) (cap:=cap) (arr:=L'.toArray) (el:=el) ht.heap (by rw [hlen2]; omega) (by rw [hsz',List.size_toArray,hL1]; simpa using hsz) (fun k u hk=>?_)
   rotate_left
   ·have hk1:k<(xs.length - (j - i)) * sz:=by
     have:=(List.getElem?_eq_some_iff.mp hk).1
     rw [hr3.len,hlen2,hsz'] at this; exact this
    rw [List.getElem?_toArray,hL2 k hk1]
    have m1:i * sz≤xs.length * sz:=Nat.mul_le_mul_right _ (by omega)
    have m2:j * sz=i * sz+(j - i) * sz:=by rw [← Nat.add_mul]; congr 1; omega
    have l1:((seg arr.toList off (xs.length * sz)).take (i * sz)).length=i * sz:=by rw [List.length_take,length_seg hfit]; omega
    rw [hsz',List.getElem?_append,l1] at hk
    split at hk
    ·rename_i hki
     rw [if_pos hki]
     rw [List.getElem?_take,if_pos hki] at hk
     exact seg_all _ _ _ _ _ hk
    ·rename_i hki
     rw [if_neg hki]
     rw [List.getElem?_drop] at hk
     have:=seg_all _ _ _ _ _ hk
     rw [← this]
     congr 1; omega
   rw [hlen2] at hto
   refine ⟨_,_,rfl,ht.os,ht.tape,ht.output,by rw [ht.size]; exact Nat.le_refl _,fun b' _ hb'=>ht.other b' (fun e=>hb' [] _ h0 (by rw [e]; rfl)),hto,rfl,?_,fun q y b' e1 e2=>?_⟩
   ·refine hinj.remap g (fun q y hy=>?_) (fun q q' y y' h1 h2 hg=>?_)
    ·cases q with
     | nil =>
      simp only [topLay,Option.some.injEq] at hy
      subst hy
      exact ⟨_,h0,rfl⟩
     | cons c0 q=>obtain ⟨k,l⟩:=c0; exact ⟨y,hχ k l q y hy,rfl⟩
    ·cases q with
     | nil =>
      cases q' with
      | nil=>rfl
      | cons c0 q'=>obtain ⟨k,l⟩:=c0; simp only [g] at hg; split at hg <;> cases hg
     | cons c0 q =>
      obtain ⟨k,l⟩:=c0
      cases q' with
      | nil=>simp only [g] at hg; split at hg <;> cases hg
      | cons c1 q' =>
       obtain ⟨k',l'⟩:=c1
       simp only [g] at hg
       split at hg <;> split at hg <;> simp only [List.cons.injEq,Prod.mk.injEq] at hg ⊢ <;> exact ⟨⟨by omega,hg.1.2⟩,hg.2⟩
   ·cases q with
    | nil =>
     simp only [topLay,Option.some.injEq] at e1
     subst e1
     cases e2
     exact ⟨by rw [ht.size]; exact hown' [] _ _ h0 rfl,.inr ⟨[],_,h0,rfl⟩⟩
    | cons c0 q =>
     obtain ⟨k,l⟩:=c0
     have:=hχ k l q y e1
     exact ⟨by rw [ht.size]; exact hown' _ _ _ this e2,.inr ⟨_,_,this,e2⟩⟩
end
end Go.V
namespace Go.V
open Go.RowKit
section
variable {P:Program} {w:World} {t e:TypeId} {i ei:TyInfo}
end
end Go.V
namespace Go.V
open Go.RowKit
section
variable {c:Ctx} {w:World}
end
end Go.V
namespace Go.V
open Go.RowKit
section
variable {c:Ctx}
end
end Go.V
namespace Go.V
open Go.RowKit
theorem wpList_val {P:Program} {ops:Array Oper} {Q:Exit→Act→World→Prop} {o:Oper} {l:List Oper} {a:Act} {w w':World} {v:Value} (hg:o.guard=none) (hr:(execOp a.eval o).run P w = .ok (.value v) w') (h:wpList P ops Q l (a.put o.dst v) w') :
 wpList P ops Q (o :: l) a w:=by
 refine wpList_plain hg (fun K hK=>?_)
 unfold Oper.wp
 rw [hr]
 exact hK _ _ h
end Go.V
