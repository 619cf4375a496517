import Derived.Tactics
import Derived.Orders
import Derived.Below
namespace Go.V
open Go.RowKit
inductive Ty where
 | int (k:IntKind)
 | bool
 | str
 | sl (e:Ty)
 | rsl (e:Ty)
 | ptr (e:Ty)
 | pair (a b:Ty)
 | unit
 | nat
 | sum (a b:Ty)
 | fn (a r:Ty)
 | ifc
 | bld (t:Nat×Nat)
def den:Ty→Type
 | .int _=>Int
 | .bool=>Bool
 | .str=>List UInt8
 | .sl e=>List (den e)
 | .rsl e=>List (den e)
 | .ptr e=>den e
 | .pair a b=>den a×den b
 | .unit=>Unit
 | .nat=>Nat
 | .sum a b=>den a ⊕ den b
 | .fn a r=>den a→Option (den r)
 | .ifc=>Bool
 | .bld _=>List UInt8
def kindEq:IntKind→IntKind→Bool
 | .i8,.i8 | .i16,.i16 | .i32,.i32 | .i64,.i64 | .u8,.u8 | .u16,.u16 | .u32,.u32 | .u64,.u64=>true
 | _,_=>false
theorem kindEq_eq {a b:IntKind} (h:kindEq a b=true):a=b:=by
 cases a <;> cases b <;> first | rfl | simp [kindEq] at h
def Ty.beq:Ty→Ty→Bool
 | .int k,.int k'=>kindEq k k'
 | .bool,.bool=>true
 | .str,.str=>true
 | .sl e,.sl e'=>e.beq e'
 | .rsl e,.rsl e'=>e.beq e'
 | .ptr e,.ptr e'=>e.beq e'
 | .pair a b,.pair a' b'=>and (a.beq a') (b.beq b')
 | .unit,.unit=>true
 | .nat,.nat=>true
 | .sum a b,.sum a' b'=>and (a.beq a') (b.beq b')
 | .fn a b,.fn a' b'=>and (a.beq a') (b.beq b')
 | .ifc,.ifc=>true
 | .bld t,.bld t'=>and (Nat.beq t.1 t'.1) (Nat.beq t.2 t'.2)
 | _,_=>false
theorem Ty.beq_eq:∀ {a b:Ty},a.beq b=true→a=b:=by
 intro a
 induction a with
 | int k=>intro b h; cases b <;> simp [Ty.beq] at h; rw [kindEq_eq h]
 | bool=>intro b h; cases b <;> simp [Ty.beq] at h; rfl
 | str=>intro b h; cases b <;> simp [Ty.beq] at h; rfl
 | unit=>intro b h; cases b <;> simp [Ty.beq] at h; rfl
 | nat=>intro b h; cases b <;> simp [Ty.beq] at h; rfl
 | sl e ih=>intro b h; cases b <;> simp [Ty.beq] at h; rw [ih h]
 | rsl e ih=>intro b h; cases b <;> simp [Ty.beq] at h; rw [ih h]
 | ptr e ih=>intro b h; cases b <;> simp [Ty.beq] at h; rw [ih h]
 | pair a b ih1 ih2=>intro c h; cases c <;> simp [Ty.beq] at h; rw [ih1 h.1,ih2 h.2]
 | sum a b ih1 ih2=>intro c h; cases c <;> simp [Ty.beq] at h; rw [ih1 h.1,ih2 h.2]
 | fn a b ih1 ih2=>intro c h; cases c <;> simp [Ty.beq] at h; rw [ih1 h.1,ih2 h.2]
 | ifc=>intro b h; cases b <;> simp [Ty.beq] at h; rfl
 | bld t=>intro b h; cases b <;> simp [Ty.beq] at h; rw [Prod.ext h.1 h.2]
def cast? (e e':Ty) (d:den e):Option (den e'):=if h:e.beq e'=true then some (Ty.beq_eq h▸d) else none
theorem cast?_some {e e':Ty} {d:den e} {d':den e'} (h:cast? e e' d=some d'):∃ h:e=e',h▸d=d':=by
 unfold cast? at h
 split at h
 ·rename_i hb
  have:=Ty.beq_eq hb
  subst this
  exact ⟨rfl,by simpa using h⟩
 ·simp at h
def Ty.size:Ty→Nat
 | .int _ | .bool | .str | .sl _ | .rsl _ | .ptr _ | .ifc | .bld _=>1
 | .pair a b=>a.size+b.size
 | _=>0
inductive Fl where
 | own | ro | bo
 deriving DecidableEq
def flEq:Fl→Fl→Bool
 | .own,.own | .ro,.ro | .bo,.bo=>true
 | _,_=>false
theorem flEq_eq {a b:Fl} (h:flEq a b=true):a=b:=by cases a <;> cases b <;> first | rfl | simp [flEq] at h
inductive T where
 | v (x:Value)
 | sl (f:Fl) (e:Ty) (xs:List (den e))
 | pt (f:Fl) (e:Ty) (d:den e)
 | pp (f:Fl) (cs:List T)
 | ga (e:Ty) (xs:List (den e))
 | vr (cs:List T)
 | dead
 | slo (e:Ty) (xs:List (den e)) (i:Nat) (cs:List T)
 | po (e:Ty) (cs:List T)
 | ifc (b:Bool)
 | bld (t:Nat×Nat) (bs:List UInt8)
instance:Inhabited T:=⟨.dead⟩
def nth {α:Type}:List α→Nat→Option α
 | [],_=>none
 | x :: _,0=>some x
 | _ :: xs,n+1=>nth xs n
theorem nth_eq {α:Type}:∀ (l:List α) (n:Nat),nth l n=l[n]?
 | [],n=>by simp [nth]
 | x :: xs,0=>by simp [nth]
 | x :: xs,n+1=>by simp [nth,nth_eq xs n]
def setN {α:Type}:List α→Nat→α→List α
 | [],_,_=>[]
 | _ :: xs,0,y=>y :: xs
 | x :: xs,n+1,y=>x :: setN xs n y
theorem setN_eq {α:Type}:∀ (l:List α) (n:Nat) (y:α),setN l n y=l.set n y
 | [],n,y=>by simp [setN]
 | x :: xs,0,y=>by simp [setN]
 | x :: xs,n+1,y=>by simp [setN,setN_eq xs n y]
def app {α:Type}:List α→List α→List α
 | [],ys=>ys
 | x :: xs,ys=>x :: app xs ys
theorem app_eq {α:Type}:∀ (l m:List α),app l m=l++m
 | [],m=>rfl
 | x :: xs,m=>by simp [app,app_eq xs m]
def cells (f:Fl):(e:Ty)→den e→List T
 | .int k,n=>[.v (.int k n)]
 | .bool,b=>[.v (.bool b)]
 | .str,l=>[.v (.string ⟨⟨l⟩⟩)]
 | .sl e,xs=>[.sl f e xs]
 | .rsl e,xs=>[.sl .ro e xs]
 | .ptr e,d=>[.pt f e d]
 | .pair a b,d=>app (cells f a d.1) (cells f b d.2)
 | .unit,_=>[]
 | .nat,_=>[]
 | .sum _ _,_=>[]
 | .fn _ _,_=>[]
 | .ifc,b=>[.ifc b]
 | .bld t,bs=>[match f with | .own=>.bld t bs | _=>.dead]
theorem length_cells (f:Fl):∀ (e:Ty) (d:den e),(cells f e d).length=e.size
 | .int _,_ | .bool,_ | .str,_ | .sl _,_ | .rsl _,_ | .ptr _,_ | .unit,_ | .nat,_ | .sum _ _,_ | .fn _ _,_ | .ifc,_ | .bld _,_=>rfl
 | .pair a b,d=>by simp [cells,app_eq,Ty.size,length_cells f a d.1,length_cells f b d.2]
def pack (f:Fl):(e:Ty)→List T→Option (den e×List T)
 | .int k=>fun ts=>match ts with
  | .v (.int k' n) :: ts=>if kindEq k' k=true then some (n,ts) else none
  | _=>none
 | .bool=>fun ts=>match ts with
  | .v (.bool b) :: ts=>some (b,ts)
  | _=>none
 | .str=>fun ts=>match ts with
  | .v (.string s) :: ts=>some (s.data.toList,ts)
  | _=>none
 | .sl e=>fun ts=>match ts with
  | .sl f' e' xs :: ts=>if flEq f' f=true then (cast? (.sl e') (.sl e) xs).map fun xs=>(xs,ts) else none
  | _=>none
 | .rsl e=>fun ts=>match ts with
  | .sl f' e' xs :: ts=>if flEq f' .ro=true then (cast? (.sl e') (.sl e) xs).map fun xs=>(xs,ts) else none
  | _=>none
 | .ptr e=>fun ts=>match ts with
  | .pt f' e' d :: ts=>if flEq f' f=true then (cast? e' e d).map fun d=>(d,ts) else none
  | _=>none
 | .pair a b=>fun ts=>(pack f a ts).bind fun x=>(pack f b x.2).map fun y=>((x.1,y.1),y.2)
 | .unit=>fun ts=>some ((),ts)
 | .nat=>fun _=>none
 | .sum _ _=>fun _=>none
 | .fn _ _=>fun _=>none
 | .ifc=>fun ts=>match ts with
  | .ifc b :: ts=>some (b,ts)
  | _=>none
 | .bld t=>fun ts=>match ts with
  | .bld t' bs :: ts=>(match f with | .own=>(match and (Nat.beq t'.1 t.1) (Nat.beq t'.2 t.2) with | true=>some (bs,ts) | false=>none) | _=>none)
  | _=>none
theorem pack_some (f:Fl):∀ (e:Ty) {ts ts':List T} {d:den e},pack f e ts=some (d,ts')→ts=cells f e d++ts':=by
 intro e
 induction e with
 | int k =>
  intro ts ts' d h
  simp only [pack] at h
  split at h
  ·split at h
   ·rename_i hk
    cases h
    rw [kindEq_eq hk]; rfl
   ·cases h
  ·cases h
 | bool =>
  intro ts ts' d h
  simp only [pack] at h
  split at h
  ·cases h; rfl
  ·cases h
 | str =>
  intro ts ts' d h
  simp only [pack] at h
  split at h
  ·cases h; rfl
  ·cases h
 | sl e ih =>
  intro ts ts' d h
  simp only [pack] at h
  split at h
  ·split at h
   ·rename_i hf
    rw [flEq_eq hf]
    obtain ⟨y,h1,h2⟩:=Option.map_eq_some_iff.mp h
    obtain ⟨he,h3⟩:=cast?_some h1
    cases he
    cases h2
    subst h3
    rfl
   ·cases h
  ·cases h
 | rsl e ih =>
  intro ts ts' d h
  simp only [pack] at h
  split at h
  ·split at h
   ·rename_i hf
    rw [flEq_eq hf]
    obtain ⟨y,h1,h2⟩:=Option.map_eq_some_iff.mp h
    obtain ⟨he,h3⟩:=cast?_some h1
    cases he
    cases h2
    subst h3
    rfl
   ·cases h
  ·cases h
 | ptr e ih =>
  intro ts ts' d h
  simp only [pack] at h
  split at h
  ·split at h
   ·rename_i hf
    rw [flEq_eq hf]
    obtain ⟨y,h1,h2⟩:=Option.map_eq_some_iff.mp h
    obtain ⟨he,h3⟩:=cast?_some h1
    cases he
    cases h2
    subst h3
    rfl
   ·cases h
  ·cases h
 | pair a b iha ihb =>
  intro ts ts' d h
  obtain ⟨⟨x,r⟩,h1,h⟩:=Option.bind_eq_some_iff.mp h
  obtain ⟨⟨y,s⟩,h2,h3⟩:=Option.map_eq_some_iff.mp h
  cases h3
  rw [iha h1]
  have h4:r=cells f b y++s:=ihb h2
  rw [h4]
  simp [cells,app_eq]
 | unit=>intro ts ts' d h; cases h; rfl
 | nat=>intro ts ts' d h; cases h
 | sum a b=>intro ts ts' d h; cases h
 | fn a b=>intro ts ts' d h; cases h
 | ifc =>
  intro ts ts' d h
  simp only [pack] at h
  split at h
  ·cases h; rfl
  ·cases h
 | bld t =>
  intro ts ts' d h
  simp only [pack] at h
  split at h
  ·cases f <;> try (cases h; done)
   simp only at h
   split at h
   ·rename_i hb
    simp only [Bool.and_eq_true] at hb
    have hb:=Prod.ext (Nat.eq_of_beq_eq_true hb.1) (Nat.eq_of_beq_eq_true hb.2)
    subst hb
    cases h; rfl
   ·cases h
  ·cases h
def packAll (f:Fl) (e:Ty) (ts:List T):Option (den e):=(pack f e ts).bind fun x=>match x.2 with
 | []=>some x.1
 | _=>none
theorem packAll_some {f:Fl} {e:Ty} {ts:List T} {d:den e} (h:packAll f e ts=some d):ts=cells f e d:=by
 unfold packAll at h
 obtain ⟨⟨x,r⟩,h1,h2⟩:=Option.bind_eq_some_iff.mp h
 cases r with
 | nil=>cases h2; simpa using pack_some f e h1
 | cons=>cases h2
def rows (f:Fl) (e:Ty) (xs:List (den e)):List (List T):=xs.map (cells f e)
theorem length_rows {f:Fl} {e:Ty} {xs:List (den e)}:(rows f e xs).length=xs.length:=by simp [rows]
theorem rows_size {f:Fl} {e:Ty} {xs:List (den e)}:∀ r∈rows f e xs,r.length=e.size:=by
 intro r hr
 obtain ⟨x,_,rfl⟩:=List.mem_map.mp hr
 exact length_cells f e x
abbrev Path:=List (Nat×Nat)
abbrev Lay:=Path→Option Value
def noLay:Lay:=fun _=>none
def Lay.at (φ:Lay) (i j:Nat):Lay:=fun p=>φ ((i,j) :: p)
def Lay.under (φ:Lay) (p:Path):Lay:=fun q=>φ (p++q)
def cellOf {α:Type} (es:List (List α)) (i j:Nat):Option α:=(es[i]?).bind (·[j]?)
theorem cellOf_lt {es:List (List T)} {i j sz:Nat} {t:T} (hl:∀ e∈es,e.length=sz) (h:cellOf es i j=some t):i<es.length∧j<sz:=by
 simp only [cellOf] at h
 cases e:es[i]? with
 | none=>simp [e] at h
 | some x =>
  simp only [e,Option.bind_some] at h
  have:=hl x (List.mem_of_getElem? e)
  exact ⟨(List.getElem?_eq_some_iff.mp e).1,by have:=(List.getElem?_eq_some_iff.mp h).1; omega⟩
theorem cellOf_rows {f:Fl} {e:Ty} {xs:List (den e)} {i j:Nat}:cellOf (rows f e xs) i j=(xs[i]?).bind fun x=>nth (cells f e x) j:=by
 simp only [cellOf,rows,List.getElem?_map]
 cases xs[i]? <;> simp [nth_eq]
theorem rows_lt {f:Fl} {e:Ty} {xs:List (den e)} {i j:Nat} {t:T} (h:cellOf (rows f e xs) i j=some t):i<xs.length∧j<e.size:=by
 have:=cellOf_lt rows_size h
 rw [length_rows] at this; exact this
def cellX (e:Ty) (xs:List (den e)) (i:Nat) (cs:List T) (k l:Nat):Option T:=if k<xs.length∧l<e.size then (if k=i then cs[l]? else cellOf (rows .own e xs) k l) else none
theorem cellX_lt {e:Ty} {xs:List (den e)} {i:Nat} {cs:List T} {k l:Nat} {t:T} (h:cellX e xs i cs k l=some t):k<xs.length∧l<e.size:=by
 unfold cellX at h
 split at h
 ·assumption
 ·cases h
def T.isSh:T→Bool
 | .sl .own _ _=>false
 | .pt .own _ _=>false
 | .pp .own _=>false
 | .vr _=>false
 | .slo _ _ _ _=>false
 | .po _ _=>false
 | .bld _ _=>false
 | _=>true
def T.box?:T→Option (List T)
 | .pp .own cs=>some cs
 | .po _ cs=>some cs
 | .pt .own e d=>some (cells .own e d)
 | _=>none
def T.shBox?:T→Option (Fl×List T)
 | .pp .own _=>none
 | .pt .own _ _=>none
 | .pp f cs=>some (f,cs)
 | .pt f e d=>some (f,cells f e d)
 | _=>none
def blkOf:Value→Option Nat
 | .slice (some a) _ (_+1)=>some a.block
 | .pointer (some a)=>some a.block
 | _=>none
def offOf:Value→Nat
 | .slice (some a) _ _=>a.off
 | _=>0
def byteI (b:UInt8):den (.int .u8):=(b.toNat:Int)
def BufAt (w:World) (e:TypeId) (x:Value) (bs:List UInt8):Prop :=
 (x = .slice none 0 0∧bs=[])∨∃ g cap cur,x = .slice (some ⟨g,0,none⟩) bs.length (cap+1)∧w.heap[g]?=some (.cells cur e (0,0))∧bs.length≤cap+1∧bs.length≤281474976710656∧cur.size=cap+1 ∧
  cur.toList.take bs.length=bs.map fun b=>Value.int .u8 (b.toNat:Int)
theorem BufAt.keep {w w':World} {e:TypeId} {x:Value} {bs:List UInt8} (h:BufAt w e x bs) (hk:∀ g,blkOf x=some g→w'.heap[g]?=w.heap[g]?):BufAt w' e x bs:=by
 rcases h with ⟨rfl,rfl⟩ | ⟨g,cap,cur,rfl,h1,h2,h3,h4,h5⟩
 ·exact .inl ⟨rfl,rfl⟩
 ·exact .inr ⟨g,cap,cur,rfl,by rw [hk g rfl]; exact h1,h2,h3,h4,h5⟩
theorem BufAt.one {w:World} {e:TypeId} {x:Value} {bs:List UInt8} (h:BufAt w e x bs):x.oneCell'=true:=by
 rcases h with ⟨rfl,rfl⟩ | ⟨g,cap,cur,rfl,_⟩ <;> rfl
inductive RepR (w:World) (S:Fl→Nat→Prop):T→Value→Prop where
 | v (x:Value) (h1:x.oneCell'=true):RepR w S (.v x) x
 | dead (x:Value):RepR w S .dead x
 | ifcN:RepR w S (.ifc true) .nilIface
 | ifcS (u:TypeId) (y:Value):RepR w S (.ifc false) (.iface u y)
 | nil (f:Fl) (e:Ty) (a:Option Addr) (c:Nat):RepR w S (.sl f e []) (.slice a 0 c)
 | sl (f:Fl) (e:Ty) (xs:List (den e)) (b off cap:Nat) (vs:Nat→Nat→Value) (hR:S f b) (hcap:xs.length≤cap)
  (hc:∀ i j t,cellOf (rows f e xs) i j=some t→w.cell? ⟨b,off+i * e.size+j,none⟩=some (vs i j))
  (hr:∀ i j t,cellOf (rows f e xs) i j=some t→RepR w S t (vs i j)):RepR w S (.sl f e xs) (.slice (some ⟨b,off,none⟩) xs.length cap)
 | box (t:T) (f:Fl) (cs:List T) (hb:t.shBox?=some (f,cs)) (b off:Nat) (vs:Nat→Value) (hR:S f b)
  (hc:∀ (j:Nat) t,cs[j]?=some t→w.cell? ⟨b,off+j,none⟩=some (vs j))
  (hr:∀ (j:Nat) t,cs[j]?=some t→RepR w S t (vs j)):RepR w S t (.pointer (some ⟨b,off,none⟩))
 | ga (e:Ty) (xs:List (den e)) (b off:Nat) (vs:Nat→Nat→Value) (hR:S .ro b) (hw:∃ arr el fz,w.heap[b]?=some (.cells arr el fz)∧arr.size=off+xs.length * e.size)
  (hc:∀ i j t,cellOf (rows .ro e xs) i j=some t→w.cell? ⟨b,off+i * e.size+j,none⟩=some (vs i j))
  (hr:∀ i j t,cellOf (rows .ro e xs) i j=some t→RepR w S t (vs i j)):RepR w S (.ga e xs) (.pointer (some ⟨b,off,none⟩))
inductive RepO (w:World) (S:Fl→Nat→Prop):T→Value→Lay→Prop where
 | sh (t:T) (x:Value) (h:RepR w S t x) (ht:t.isSh=true):RepO w S t x noLay
 | nil (e:Ty) (a:Option Addr) (φ:Lay) (h0:φ []=some (.slice a 0 0)) (hn:∀ c p,φ (c :: p)=none) :
  RepO w S (.sl .own e []) (.slice a 0 0) φ
 | sl (e:Ty) (xs:List (den e)) (b off cap:Nat) (arr:Array Value) (el:TypeId) (vs:Nat→Nat→Value) (φ:Lay)
  (hb:w.heap[b]?=some (.cells arr el (0,0))) (hcap:xs.length≤cap+1) (hsz:off+(cap+1) * e.size≤arr.size)
  (hc:∀ i j t,cellOf (rows .own e xs) i j=some t→arr[off+(i * e.size+j)]?=some (vs i j))
  (hr:∀ i j t,cellOf (rows .own e xs) i j=some t→RepO w S t (vs i j) (φ.at i j))
  (h0:φ []=some (.slice (some ⟨b,off,none⟩) xs.length (cap+1))) (hn:∀ i j,cellOf (rows .own e xs) i j=none→φ.at i j=noLay) :
  RepO w S (.sl .own e xs) (.slice (some ⟨b,off,none⟩) xs.length (cap+1)) φ
 | box (t:T) (cs:List T) (ht:t.box?=some cs) (b:Nat) (arr:Array Value) (el:TypeId) (vs:Nat→Value) (φ:Lay)
  (hb:w.heap[b]?=some (.cells arr el (0,0))) (hsz:cs.length≤arr.size)
  (hc:∀ (j:Nat) t,cs[j]?=some t→arr[j]?=some (vs j))
  (hr:∀ (j:Nat) t,cs[j]?=some t→RepO w S t (vs j) (φ.at 0 j))
  (h0:φ []=some (.pointer (some ⟨b,0,none⟩))) (hn:∀ i j,(i≠0∨cs[j]?=none)→φ.at i j=noLay) :
  RepO w S t (.pointer (some ⟨b,0,none⟩)) φ
 | slo (e:Ty) (xs:List (den e)) (i:Nat) (cs:List T) (b off cap:Nat) (arr:Array Value) (el:TypeId) (vs:Nat→Nat→Value) (φ:Lay)
  (hb:w.heap[b]?=some (.cells arr el (0,0))) (hcap:xs.length≤cap+1) (hsz:off+(cap+1) * e.size≤arr.size)
  (hc:∀ k l t,cellX e xs i cs k l=some t→arr[off+(k * e.size+l)]?=some (vs k l))
  (hr:∀ k l t,cellX e xs i cs k l=some t→RepO w S t (vs k l) (φ.at k l))
  (h0:φ []=some (.slice (some ⟨b,off,none⟩) xs.length (cap+1))) (hn:∀ k l,cellX e xs i cs k l=none→φ.at k l=noLay) :
  RepO w S (.slo e xs i cs) (.slice (some ⟨b,off,none⟩) xs.length (cap+1)) φ
 | vr (cs:List T) (x:Value) (vs:Nat→Value) (φ:Lay)
  (hr:∀ (j:Nat) t,cs[j]?=some t→RepO w S t (vs j) (φ.at 0 j))
  (h0:φ []=none) (hn:∀ i j,(i≠0∨cs[j]?=none)→φ.at i j=noLay):RepO w S (.vr cs) x φ
 | bld (t:Nat×Nat) (bs:List UInt8) (b:Nat) (x0 x1:Value) (φ:Lay) (hb:w.heap[b]?=some (.cells #[x0,x1] t.1 (0,0)))
  (hx:x0 = .pointer none∨x0 = .pointer (some ⟨b,0,none⟩)) (hr:BufAt w t.2 x1 bs)
  (h0:φ []=some (.pointer (some ⟨b,0,none⟩))) (h1:φ [(0,1)]=some x1) (hn:∀ q,q≠[]→q≠[(0,1)]→φ q=none):RepO w S (.bld t bs) (.pointer (some ⟨b,0,none⟩)) φ
theorem RepR.mono {w w':World} {S S':Fl→Nat→Prop} {t:T} {x:Value} (h:RepR w S t x)
 (hw:∀ f b,S f b→w'.heap[b]?=w.heap[b]?) (hS:∀ f b,S f b→S' f b):RepR w' S' t x:=by
 induction h with
 | v x h1=>exact .v x h1
 | dead x=>exact .dead x
 | ifcN=>exact .ifcN
 | ifcS u y=>exact .ifcS u y
 | nil f e a c=>exact .nil f e a c
 | sl f e xs b off cap vs hRb hcap hc hr ih =>
  exact .sl f e xs b off cap vs (hS _ _ hRb) hcap (fun i j t e=>by rw [← hc i j t e]; exact World.cell?_of_block (w:=w) (hw _ b hRb)) ih
 | box t f cs hb b off vs hRb hc hr ih =>
  exact .box t f cs hb b off vs (hS _ _ hRb) (fun j t e=>by rw [← hc j t e]; exact World.cell?_of_block (w:=w) (hw _ b hRb)) ih
 | ga e xs b off vs hRb hwb hc hr ih =>
  exact .ga e xs b off vs (hS _ _ hRb) (by rw [hw _ b hRb]; exact hwb) (fun i j t e=>by rw [← hc i j t e]; exact World.cell?_of_block (w:=w) (hw _ b hRb)) ih
def KeptBy (φ:Lay) (w w':World):Prop:=∀ p x b,φ p=some x→blkOf x=some b→w'.heap[b]?=w.heap[b]?
theorem KeptBy.at {φ:Lay} {w w':World} (h:KeptBy φ w w') (i j:Nat):KeptBy (φ.at i j) w w':=fun p x b hp hb=>h ((i,j) :: p) x b hp hb
theorem RepO.mono {w w':World} {S S':Fl→Nat→Prop} {t:T} {x:Value} {φ:Lay} (h:RepO w S t x φ)
 (hw:∀ f b,S f b→w'.heap[b]?=w.heap[b]?) (hS:∀ f b,S f b→S' f b) (ho:KeptBy φ w w'):RepO w' S' t x φ:=by
 induction h with
 | sh t x h ht=>exact .sh t x (h.mono hw hS) ht
 | nil e a φ h0 hn=>exact .nil e a φ h0 hn
 | sl e xs b off cap arr el vs φ hb hcap hsz hc hr h0 hn ih =>
  exact .sl e xs b off cap arr el vs φ (by rw [ho _ _ _ h0 rfl]; exact hb) hcap hsz hc (fun i j t e=>ih i j t e (ho.at i j)) h0 hn
 | box t cs ht b arr el vs φ hb hsz hc hr h0 hn ih =>
  exact .box t cs ht b arr el vs φ (by rw [ho _ _ _ h0 rfl]; exact hb) hsz hc (fun j t e=>ih j t e (ho.at 0 j)) h0 hn
 | slo e xs i cs b off cap arr el vs φ hb hcap hsz hc hr h0 hn ih =>
  exact .slo e xs i cs b off cap arr el vs φ (by rw [ho _ _ _ h0 rfl]; exact hb) hcap hsz hc (fun k l t e=>ih k l t e (ho.at k l)) h0 hn
 | vr cs x vs φ hr h0 hn ih=>exact .vr cs x vs φ (fun j t e=>ih j t e (ho.at 0 j)) h0 hn
 | bld t0 bs b x0 x1 φ hb hx hr h0 h1 hn=>exact .bld t0 bs b x0 x1 φ (by rw [ho _ _ _ h0 rfl]; exact hb) hx (hr.keep fun g hg=>ho _ _ _ h1 hg) h0 h1 hn
theorem cell?_of_cells {w:World} {b o:Nat} {arr:Array Value} {el:TypeId} {fz:Nat×Nat} (hb:w.heap[b]?=some (.cells arr el fz)) :
 w.cell? ⟨b,o,none⟩=arr[o]?:=by
 simp [World.cell?,hb]
def OwnedIn (φ:Lay) (R:Nat→Prop):Prop:=∀ p x b,φ p=some x→blkOf x=some b→R b
theorem OwnedIn.at {φ:Lay} {R:Nat→Prop} (h:OwnedIn φ R) (i j:Nat):OwnedIn (φ.at i j) R:=fun p x b hp hb=>h ((i,j) :: p) x b hp hb
def T.len0:T→T
 | .sl .own e xs=>.sl .bo e xs
 | .pt .own e d=>.pt .bo e d
 | .pp .own _=>.dead
 | .vr _=>.dead
 | .slo _ _ _ _=>.dead
 | .po _ _=>.dead
 | .bld _ _=>.dead
 | t=>t
def T.lend:T→T
 | .pp .own cs=>.pp .bo (cs.map T.len0)
 | t=>t.len0
theorem len0_cells:∀ (e:Ty) (d:den e),(cells .own e d).map T.len0=cells .bo e d
 | .int _,_ | .bool,_ | .str,_ | .sl _,_ | .rsl _,_ | .ptr _,_ | .unit,_ | .nat,_ | .sum _ _,_ | .fn _ _,_ | .ifc,_ | .bld _,_=>rfl
 | .pair a b,d=>by simp [cells,app_eq,len0_cells a d.1,len0_cells b d.2]
theorem lend_dead {w:World} {S:Fl→Nat→Prop} {t:T} {x:Value} (h:RepR w S t.lend x):RepR w S t.len0 x:=by
 unfold T.lend at h
 split at h
 ·exact .dead x
 ·exact h
theorem cellOf_len0 {e:Ty} {xs:List (den e)} {i j:Nat} {t:T} (h:cellOf (rows .bo e xs) i j=some t) :
 ∃ u,cellOf (rows .own e xs) i j=some u∧t=u.len0:=by
 rw [cellOf_rows] at h ⊢
 cases hx:xs[i]? with
 | none=>simp [hx] at h
 | some x =>
  rw [hx,Option.bind_some] at h
  rw [Option.bind_some]
  rw [nth_eq,← len0_cells,List.getElem?_map] at h
  rw [nth_eq]
  cases hu:(cells .own e x)[j]? with
  | none=>simp [hu] at h
  | some u=>rw [hu] at h; simp only [Option.map_some,Option.some.injEq] at h; exact ⟨u,rfl,h.symm⟩
theorem RepO.toR {w:World} {S S':Fl→Nat→Prop} {t:T} {x:Value} {φ:Lay} (h:RepO w S t x φ)
 (hS:∀ f b,S f b→S' f b) (ho:OwnedIn φ (S' .bo)):RepR w S' t.lend x:=by
 induction h with
 | sh t x h ht =>
  have:t.lend=t:=by cases t with
   | sl f=>cases f <;> simp_all [T.lend,T.len0,T.isSh]
   | pt f=>cases f <;> simp_all [T.lend,T.len0,T.isSh]
   | pp f=>cases f <;> simp_all [T.lend,T.len0,T.isSh]
   | vr=>simp [T.isSh] at ht
   | slo=>simp [T.isSh] at ht
   | po=>simp [T.isSh] at ht
   | bld=>simp [T.isSh] at ht
   | _=>rfl
  rw [this]; exact h.mono (fun _ _ _=>rfl) hS
 | nil e a φ h0 hn=>exact .nil .bo e a 0
 | sl e xs b off cap arr el vs φ hb hcap hsz hc hr h0 hn ih =>
  refine .sl .bo e xs b off (cap+1) vs (ho _ _ _ h0 rfl) hcap (fun i j t e=>?_) (fun i j t e=>?_)
  ·obtain ⟨u,h1,rfl⟩:=cellOf_len0 e
   rw [cell?_of_cells hb,Nat.add_assoc]; exact hc i j u h1
  ·obtain ⟨u,h1,rfl⟩:=cellOf_len0 e
   exact lend_dead (ih i j u h1 (ho.at i j))
 | box t cs ht b arr el vs φ hb hsz hc hr h0 hn ih =>
  by_cases hpo:∃ e cs',t = .po e cs'
  ·obtain ⟨e,cs',rfl⟩:=hpo
   exact .dead _
  have hsb:t.lend.shBox?=some (.bo,cs.map T.len0):=by
   cases t with
   | pp f cs'=>cases f <;> simp [T.box?] at ht; subst ht; rfl
   | pt f e d=>cases f <;> simp [T.box?] at ht; subst ht; simp [T.lend,T.len0,T.shBox?,len0_cells]
   | po e cs'=>exact absurd ⟨e,cs',rfl⟩ hpo
   | _=>simp [T.box?] at ht
  refine .box _ .bo _ hsb b 0 vs (ho _ _ _ h0 rfl) (fun j u e=>?_) (fun j u e=>?_)
  ·rw [List.getElem?_map] at e
   cases hu:cs[j]? with
   | none=>simp [hu] at e
   | some u'=>rw [cell?_of_cells hb,Nat.zero_add]; exact hc j u' hu
  ·rw [List.getElem?_map] at e
   cases hu:cs[j]? with
   | none=>simp [hu] at e
   | some u' =>
    simp only [hu,Option.map_some,Option.some.injEq] at e
    subst e
    exact lend_dead (ih j u' hu (ho.at 0 j))
 | slo=>exact .dead _
 | vr cs x vs φ hr h0 hn ih=>exact .dead x
 | bld=>exact .dead _
def T.fr0:T→T
 | .sl .own e xs=>.sl .ro e xs
 | .pt .own e d=>.pt .ro e d
 | .pp .own _=>.dead
 | .vr _=>.dead
 | .slo _ _ _ _=>.dead
 | .po _ _=>.dead
 | .bld _ _=>.dead
 | t=>t
def T.frz:T→T
 | .pp .own cs=>.pp .ro (cs.map T.fr0)
 | t=>t.fr0
theorem fr0_cells:∀ (e:Ty) (d:den e),(cells .own e d).map T.fr0=cells .ro e d
 | .int _,_ | .bool,_ | .str,_ | .sl _,_ | .rsl _,_ | .ptr _,_ | .unit,_ | .nat,_ | .sum _ _,_ | .fn _ _,_ | .ifc,_ | .bld _,_=>rfl
 | .pair a b,d=>by simp [cells,app_eq,fr0_cells a d.1,fr0_cells b d.2]
theorem frz_dead {w:World} {S:Fl→Nat→Prop} {t:T} {x:Value} (h:RepR w S t.frz x):RepR w S t.fr0 x:=by
 unfold T.frz at h
 split at h
 ·exact .dead x
 ·exact h
theorem cellOf_fr0 {e:Ty} {xs:List (den e)} {i j:Nat} {t:T} (h:cellOf (rows .ro e xs) i j=some t) :
 ∃ u,cellOf (rows .own e xs) i j=some u∧t=u.fr0:=by
 rw [cellOf_rows] at h ⊢
 cases hx:xs[i]? with
 | none=>simp [hx] at h
 | some x =>
  rw [hx,Option.bind_some] at h
  rw [Option.bind_some]
  rw [nth_eq,← fr0_cells,List.getElem?_map] at h
  rw [nth_eq]
  cases hu:(cells .own e x)[j]? with
  | none=>simp [hu] at h
  | some u=>rw [hu] at h; simp only [Option.map_some,Option.some.injEq] at h; exact ⟨u,rfl,h.symm⟩
theorem RepO.toRo {w:World} {S S':Fl→Nat→Prop} {t:T} {x:Value} {φ:Lay} (h:RepO w S t x φ)
 (hS:∀ f b,S f b→S' f b) (ho:OwnedIn φ (S' .ro)):RepR w S' t.frz x:=by
 induction h with
 | sh t x h ht =>
  have:t.frz=t:=by cases t with
   | sl f=>cases f <;> simp_all [T.frz,T.fr0,T.isSh]
   | pt f=>cases f <;> simp_all [T.frz,T.fr0,T.isSh]
   | pp f=>cases f <;> simp_all [T.frz,T.fr0,T.isSh]
   | vr=>simp [T.isSh] at ht
   | slo=>simp [T.isSh] at ht
   | po=>simp [T.isSh] at ht
   | bld=>simp [T.isSh] at ht
   | _=>rfl
  rw [this]; exact h.mono (fun _ _ _=>rfl) hS
 | nil e a φ h0 hn=>exact .nil .ro e a 0
 | sl e xs b off cap arr el vs φ hb hcap hsz hc hr h0 hn ih =>
  refine .sl .ro e xs b off (cap+1) vs (ho _ _ _ h0 rfl) hcap (fun i j t e=>?_) (fun i j t e=>?_)
  ·obtain ⟨u,h1,rfl⟩:=cellOf_fr0 e
   rw [cell?_of_cells hb,Nat.add_assoc]; exact hc i j u h1
  ·obtain ⟨u,h1,rfl⟩:=cellOf_fr0 e
   exact frz_dead (ih i j u h1 (ho.at i j))
 | box t cs ht b arr el vs φ hb hsz hc hr h0 hn ih =>
  by_cases hpo:∃ e cs',t = .po e cs'
  ·obtain ⟨e,cs',rfl⟩:=hpo
   exact .dead _
  have hsb:t.frz.shBox?=some (.ro,cs.map T.fr0):=by
   cases t with
   | pp f cs'=>cases f <;> simp [T.box?] at ht; subst ht; rfl
   | pt f e d=>cases f <;> simp [T.box?] at ht; subst ht; simp [T.frz,T.fr0,T.shBox?,fr0_cells]
   | po e cs'=>exact absurd ⟨e,cs',rfl⟩ hpo
   | _=>simp [T.box?] at ht
  refine .box _ .ro _ hsb b 0 vs (ho _ _ _ h0 rfl) (fun j u e=>?_) (fun j u e=>?_)
  ·rw [List.getElem?_map] at e
   cases hu:cs[j]? with
   | none=>simp [hu] at e
   | some u'=>rw [cell?_of_cells hb,Nat.zero_add]; exact hc j u' hu
  ·rw [List.getElem?_map] at e
   cases hu:cs[j]? with
   | none=>simp [hu] at e
   | some u' =>
    simp only [hu,Option.map_some,Option.some.injEq] at e
    subst e
    exact frz_dead (ih j u' hu (ho.at 0 j))
 | slo=>exact .dead _
 | vr cs x vs φ hr h0 hn ih=>exact .dead x
 | bld=>exact .dead _
end Go.V
namespace Go.V
open Go.RowKit
def childT (t:T) (i j:Nat):Option T :=
 match t with
 | .sl .own e xs=>(xs[i]?).bind fun x=>nth (cells .own e x) j
 | .pt .own e d=>match i with
  | 0=>nth (cells .own e d) j
  | _+1=>none
 | .pp .own cs=>match i with
  | 0=>nth cs j
  | _+1=>none
 | .vr cs=>match i with
  | 0=>nth cs j
  | _+1=>none
 | .slo e xs i' cs=>(xs[i]?).bind fun x=>match Nat.blt j e.size with
  | true=>match Nat.beq i i' with
   | true=>nth cs j
   | false=>nth (cells .own e x) j
  | false=>none
 | .po _ cs=>match i with
  | 0=>nth cs j
  | _+1=>none
 | _=>none
def closeS (e:Ty) (xs:List (den e)) (i:Nat) (cs:List T):T:=match packAll .own e cs with
 | some x=>.sl .own e (xs.set i x)
 | none=>.slo e xs i cs
def closeB (e:Ty) (cs:List T):T:=match packAll .own e cs with
 | some d=>.pt .own e d
 | none=>.po e cs
def putChild (t:T) (i j:Nat) (n:T):Option T :=
 match t with
 | .sl .own e xs=>(xs[i]?).map fun x=>closeS e xs i (setN (cells .own e x) j n)
 | .pt .own e d=>match i with
  | 0=>some (closeB e (setN (cells .own e d) j n))
  | _+1=>none
 | .pp .own cs=>match i with
  | 0=>some (.pp .own (setN cs j n))
  | _+1=>none
 | .vr cs=>match i with
  | 0=>some (.vr (setN cs j n))
  | _+1=>none
 | .slo e xs i' cs=>(xs[i]?).bind fun x=>match Nat.beq i i' with
  | true=>some (closeS e xs i' (setN cs j n))
  | false=>(packAll .own e (setN (cells .own e x) j n)).map fun x'=>.slo e (xs.set i x') i' cs
 | .po e cs=>match i with
  | 0=>some (closeB e (setN cs j n))
  | _+1=>none
 | _=>none
def getT:Path→T→Option T
 | [],t=>some t
 | (i,j) :: p,t=>(childT t i j).bind fun c=>getT p c
def setT:Path→T→T→Option T
 | [],_,n=>some n
 | (i,j) :: p,t,n=>(childT t i j).bind fun c=>(setT p c n).bind fun c'=>putChild t i j c'
theorem getT_append:∀ {q p:Path} {t:T},getT (q++p) t=(getT q t).bind fun r=>getT p r
 | [],p,t=>by simp [getT]
 | (i,j) :: q,p,t=>by
  simp only [List.cons_append,getT]
  cases childT t i j with
  | none=>simp
  | some c=>simp only [Option.bind_some]; exact getT_append
def Lay.graft (φ:Lay):Path→Lay→Lay
 | [],ψ=>ψ
 | (i,j) :: p,ψ=>fun q=>match q with
  | []=>φ []
  | (k,l) :: q=>if k=i∧l=j then Lay.graft (φ.at i j) p ψ q else φ ((k,l) :: q)
theorem Lay.graft_at_same (φ:Lay) (i j:Nat) (p:Path) (ψ:Lay):(φ.graft ((i,j) :: p) ψ).at i j=(φ.at i j).graft p ψ:=by
 funext q; simp [Lay.graft,Lay.at]
theorem Lay.graft_at_ne (φ:Lay) (i j k l:Nat) (p:Path) (ψ:Lay) (h : ¬ (k=i∧l=j)):(φ.graft ((i,j) :: p) ψ).at k l=φ.at k l:=by
 funext q; simp [Lay.graft,Lay.at,h]
theorem Lay.graft_nil (φ:Lay) (i j:Nat) (p:Path) (ψ:Lay):φ.graft ((i,j) :: p) ψ []=φ []:=rfl
def strip:Path→Path→Option Path
 | [],q=>some q
 | _ :: _,[]=>none
 | c :: p,d :: q=>if c=d then strip p q else none
theorem graft_eq (p:Path):∀ (φ:Lay) (ψ:Lay) (q:Path),φ.graft p ψ q=match strip p q with | some q'=>ψ q' | none=>φ q:=by
 induction p with
 | nil=>intro φ ψ q; simp [Lay.graft,strip]
 | cons c p ih =>
  obtain ⟨i,j⟩:=c
  intro φ ψ q
  cases q with
  | nil=>simp [Lay.graft,strip]
  | cons d q =>
   obtain ⟨k,l⟩:=d
   simp only [Lay.graft,strip]
   by_cases h:k=i∧l=j
   ·obtain ⟨rfl,rfl⟩:=h
    simp only [and_self,if_true]
    rw [ih]
    cases strip p q <;> rfl
   ·rw [if_neg h]
    have h' : ¬ ((i,j)=(k,l)):=fun e=>h (by simp only [Prod.mk.injEq] at e; exact ⟨e.1.symm,e.2.symm⟩)
    rw [if_neg h']
theorem strip_some {p q q':Path} (h:strip p q=some q'):q=p++q':=by
 induction p generalizing q with
 | nil=>simp [strip] at h; simp [h]
 | cons c p ih =>
  cases q with
  | nil=>simp [strip] at h
  | cons d q =>
   simp only [strip] at h
   by_cases e:c=d
   ·rw [if_pos e] at h; subst e; rw [ih h]; rfl
   ·rw [if_neg e] at h; simp at h
theorem strip_append (p q:Path):strip p (p++q)=some q:=by
 induction p with
 | nil=>simp [strip]
 | cons c p ih=>simp [strip,ih]
def Inj (φ:Lay):Prop:=∀ p x p' x' b,φ p=some x→blkOf x=some b→φ p'=some x'→blkOf x'=some b→p=p'
theorem Inj.at {φ:Lay} (h:Inj φ) (i j:Nat):Inj (φ.at i j):=fun p x p' x' b a1 a2 a3 a4=>by
 have:=h ((i,j) :: p) x ((i,j) :: p') x' b a1 a2 a3 a4
 simpa using this
def T.idx (v:Option Value):T→Nat→Nat→Nat
 | .sl _ e _,i,j=>(match v with | some x=>offOf x | none=>0)+(i * e.size+j)
 | .slo e _ _ _,i,j=>(match v with | some x=>offOf x | none=>0)+(i * e.size+j)
 | _,_,j=>j
def RowBlk (w w':World) (t:T) (v:Option Value) (i j:Nat) (y:Value):Prop :=
 match t with
 | .vr _=>True
 | t=>∃ b,v.bind blkOf=some b∧∀ arr el,w.heap[b]?=some (.cells arr el (0,0))→w'.heap[b]?=some (.cells (arr.setIfInBounds (t.idx v i j) y) el (0,0))
theorem flat_inj {sz i j k l:Nat} (hj:j<sz) (hl:l<sz) (h:i * sz+j=k * sz+l):i=k∧j=l:=by
 have h1:(i * sz+j) / sz=i:=by rw [Nat.mul_comm,Nat.mul_add_div (by omega),Nat.div_eq_of_lt hj,Nat.add_zero]
 have h2:(k * sz+l) / sz=k:=by rw [Nat.mul_comm,Nat.mul_add_div (by omega),Nat.div_eq_of_lt hl,Nat.add_zero]
 have:i=k:=by rw [← h1,← h2,h]
 subst this
 exact ⟨rfl,by omega⟩
theorem closeB_box (e:Ty) (cs:List T):(closeB e cs).box?=some cs:=by
 unfold closeB
 split
 ·rename_i d h
  rw [packAll_some h]; rfl
 ·rfl
theorem putChild_box {t t' n u:T} {cs:List T} {i j:Nat} (hb:t.box?=some cs) (hc:childT t i j=some u) (hp:putChild t i j n=some t') :
 i=0∧cs[j]?=some u∧t'.box?=some (cs.set j n):=by
 cases t with
 | pp f cs' =>
  cases f <;> simp [T.box?] at hb
  subst hb
  cases i with
  | zero =>
   simp only [childT,nth_eq] at hc
   simp only [putChild,Option.some.injEq] at hp
   subst hp
   exact ⟨rfl,hc,by simp [T.box?,setN_eq]⟩
  | succ i=>simp [childT] at hc
 | pt f e d =>
  cases f <;> simp [T.box?] at hb
  subst hb
  cases i with
  | zero =>
   simp only [childT,nth_eq] at hc
   simp only [putChild,Option.some.injEq] at hp
   subst hp
   exact ⟨rfl,hc,by rw [closeB_box,setN_eq]⟩
  | succ i=>simp [childT] at hc
 | po e cs' =>
  simp only [T.box?,Option.some.injEq] at hb
  subst hb
  cases i with
  | zero =>
   simp only [childT,nth_eq] at hc
   simp only [putChild,Option.some.injEq] at hp
   subst hp
   exact ⟨rfl,hc,by rw [closeB_box,setN_eq]⟩
  | succ i=>simp [childT] at hc
 | _=>simp [T.box?] at hb
theorem idx_box {t:T} {cs:List T} (hb:t.box?=some cs) (v:Option Value) (i j:Nat):t.idx v i j=j:=by
 cases t with
 | sl f e xs=>simp [T.box?] at hb
 | slo=>simp [T.box?] at hb
 | _=>rfl
theorem RowBlk.box {w w':World} {t:T} {cs:List T} (hb:t.box?=some cs) {v:Option Value} {i j:Nat} {y:Value} (h:RowBlk w w' t v i j y) :
 ∃ b,v.bind blkOf=some b∧∀ arr el,w.heap[b]?=some (.cells arr el (0,0))→w'.heap[b]?=some (.cells (arr.setIfInBounds j y) el (0,0)):=by
 cases t with
 | vr cs=>simp [T.box?] at hb
 | sl f e xs=>simp [T.box?] at hb
 | slo=>simp [T.box?] at hb
 | _=>exact h
theorem beq_ne {a b:Nat} (h : ¬ a=b):Nat.beq a b=false:=by
 cases e:Nat.beq a b with
 | false=>rfl
 | true=>exact absurd (Nat.eq_of_beq_eq_true e) h
inductive SlX:T→(e:Ty)→Nat→(Nat→Nat→Option T)→Prop where
 | sl (e:Ty) (xs:List (den e)):SlX (.sl .own e xs) e xs.length (cellOf (rows .own e xs))
 | slo (e:Ty) (xs:List (den e)) (i:Nat) (cs:List T):SlX (.slo e xs i cs) e xs.length (cellX e xs i cs)
theorem SlX.lt {t:T} {e:Ty} {n:Nat} {f:Nat→Nat→Option T} (h:SlX t e n f) {k l:Nat} {u:T} (hu:f k l=some u):k<n∧l<e.size:=by
 cases h with
 | sl=>exact rows_lt hu
 | slo=>exact cellX_lt hu
theorem SlX.child {t:T} {e:Ty} {n:Nat} {f:Nat→Nat→Option T} (h:SlX t e n f) (k l:Nat):childT t k l=f k l:=by
 cases h with
 | sl=>simp only [childT]; rw [cellOf_rows]
 | slo _ xs i cs =>
  simp only [childT,cellX]
  by_cases hk:k<xs.length
  ·rw [List.getElem?_eq_getElem hk,Option.bind_some]
   by_cases hl:l<e.size
   ·rw [if_pos ⟨hk,hl⟩]
    have:Nat.blt l e.size=true:=by simpa [Nat.blt_eq] using hl
    rw [this]
    by_cases hki:k=i
    ·subst hki; simp [nth_eq]
    ·simp only [beq_ne hki,if_neg hki]
     rw [cellOf_rows,List.getElem?_eq_getElem hk,Option.bind_some]
   ·rw [if_neg (fun h=>hl h.2)]
    have:Nat.blt l e.size=false:=by
     cases hb:Nat.blt l e.size with
     | false=>rfl
     | true=>exact absurd (by simpa [Nat.blt_eq] using hb) hl
    rw [this]
  ·rw [if_neg (fun h=>hk h.1),List.getElem?_eq_none (by omega)]; rfl
theorem SlX.idx {t:T} {e:Ty} {n:Nat} {f:Nat→Nat→Option T} (h:SlX t e n f) (v:Option Value) (k l:Nat):t.idx v k l=(match v with | some x=>offOf x | none=>0)+(k * e.size+l):=by
 cases h <;> rfl
theorem SlX.noVr {t:T} {e:Ty} {n:Nat} {f:Nat→Nat→Option T} (h:SlX t e n f):∀ cs,t≠.vr cs:=by
 cases h <;> exact nofun
theorem cellOf_set {e:Ty} {xs:List (den e)} {i j:Nat} {x':den e} {u n:T} {cs:List T} (hi:i<xs.length) (hx:cells .own e x'=cs.set j n) (hu:cs[j]?=some u) (hc:∀ l,cellOf (rows .own e xs) i l=cs[l]?) (k l:Nat) :
 cellOf (rows .own e (xs.set i x')) k l=if k=i∧l=j then some n else cellOf (rows .own e xs) k l:=by
 have hj:=(List.getElem?_eq_some_iff.mp hu).1
 rw [cellOf_rows,List.getElem?_set]
 by_cases hk:i=k
 ·subst hk
  rw [if_pos rfl,if_pos hi,Option.bind_some,nth_eq,hx,List.getElem?_set,hc]
  by_cases hl:j=l
  ·subst hl; simp [hj]
  ·rw [if_neg hl,if_neg (fun h=>hl h.2.symm)]
 ·rw [if_neg hk,if_neg (fun h=>hk h.1.symm),cellOf_rows]
theorem closeS_X {e:Ty} {xs:List (den e)} {i:Nat} {cs:List T} (hi:i<xs.length):∃ f',SlX (closeS e xs i cs) e xs.length f'∧∀ k l,l<e.size→f' k l=if k=i then cs[l]? else cellOf (rows .own e xs) k l:=by
 unfold closeS
 split
 ·rename_i x hx
  have hx:=packAll_some hx
  refine ⟨_,by have:=SlX.sl e (xs.set i x); rwa [List.length_set] at this,fun k l _=>?_⟩
  rw [cellOf_rows,List.getElem?_set]
  by_cases hk:i=k
  ·subst hk
   rw [if_pos rfl,if_pos hi,if_pos rfl,Option.bind_some,nth_eq,hx]
  ·rw [if_neg hk,if_neg (fun h=>hk h.symm),cellOf_rows]
 ·refine ⟨_,.slo e xs i cs,fun k l hl=>?_⟩
  unfold cellX
  by_cases hk:k<xs.length
  ·rw [if_pos ⟨hk,hl⟩]
  ·rw [if_neg (fun h=>hk h.1),if_neg (by omega),cellOf_rows,List.getElem?_eq_none (by omega)]; rfl
theorem SlX.put {t t':T} {e:Ty} {m:Nat} {f:Nat→Nat→Option T} (h:SlX t e m f) {i j:Nat} {u n:T} (hc:childT t i j=some u) (hp:putChild t i j n=some t') :
 ∃ f',SlX t' e m f'∧f i j=some u∧∀ k l,f' k l=if k=i∧l=j then some n else f k l:=by
 have hu:=hc
 rw [h.child] at hu
 have hij:=h.lt hu
 suffices hgoal:∃ f',SlX t' e m f'∧∀ k l,f' k l=if k=i∧l=j then some n else f k l by
  obtain ⟨f',h1,h2⟩:=hgoal
  exact ⟨f',h1,hu,h2⟩
 have fin:∀ {f':Nat→Nat→Option T} {cs:List T},SlX t' e m f'→cs[j]?=some u→(∀ l,l<e.size→f i l=cs[l]?)→(∀ k l,l<e.size→f' k l=if k=i then (cs.set j n)[l]? else f k l)→∀ k l,f' k l=if k=i∧l=j then some n else f k l:=by
  intro f' cs hX' h1 h2 h3 k l
  have hj:=(List.getElem?_eq_some_iff.mp h1).1
  by_cases hl:l<e.size
  ·rw [h3 k l hl]
   by_cases hk:k=i
   ·subst hk
    rw [if_pos rfl,List.getElem?_set]
    by_cases hl':j=l
    ·subst hl'; simp [hj]
    ·rw [if_neg hl',if_neg (fun h=>hl' h.2.symm),h2 l hl]
   ·rw [if_neg hk,if_neg (fun h=>hk h.1)]
  ·rw [if_neg (fun h=>hl (by rw [h.2]; exact hij.2))]
   cases h5:f' k l with
   | some v=>exact absurd (hX'.lt h5).2 hl
   | none =>
    cases h6:f k l with
    | some v=>exact absurd (h.lt h6).2 hl
    | none=>rfl
 cases h with
 | sl _ xs =>
  simp only [childT] at hc
  obtain ⟨x,hx,hu'⟩:=Option.bind_eq_some_iff.mp hc
  simp only [putChild,hx,Option.map_some,Option.some.injEq] at hp
  have hi:=(List.getElem?_eq_some_iff.mp hx).1
  rw [nth_eq] at hu'
  obtain ⟨f',h1,h2⟩:=closeS_X (xs:=xs) (i:=i) (cs:=setN (cells .own e x) j n) hi
  rw [hp] at h1
  exact ⟨f',h1,fin h1 hu' (fun l _=>by rw [cellOf_rows,hx,Option.bind_some,nth_eq]) (fun k l hl=>by rw [h2 k l hl,setN_eq])⟩
 | slo _ xs i' cs =>
  simp only [childT] at hc
  obtain ⟨x,hx,hc⟩:=Option.bind_eq_some_iff.mp hc
  simp only [putChild,hx,Option.bind_some] at hp
  have hi:=(List.getElem?_eq_some_iff.mp hx).1
  have hbl:Nat.blt j e.size=true:=by simpa [Nat.blt_eq] using hij.2
  simp only [hbl] at hc
  cases hb:Nat.beq i i' with
  | true =>
   have hii:=Nat.eq_of_beq_eq_true hb
   subst hii
   simp only [hb,nth_eq] at hc
   simp only [hb,Option.some.injEq] at hp
   obtain ⟨f',h1,h2⟩:=closeS_X (xs:=xs) (i:=i) (cs:=setN cs j n) hi
   rw [hp] at h1
   refine ⟨f',h1,fin h1 hc (fun l hl=>by unfold cellX; rw [if_pos ⟨hi,hl⟩,if_pos rfl]) (fun k l hl=>?_)⟩
   rw [h2 k l hl,setN_eq]
   by_cases hk:k=i
   ·rw [if_pos hk,if_pos hk]
   ·rw [if_neg hk,if_neg hk]
    unfold cellX
    by_cases hkl:k<xs.length
    ·rw [if_pos ⟨hkl,hl⟩,if_neg hk]
    ·rw [if_neg (fun h=>hkl h.1),cellOf_rows,List.getElem?_eq_none (by omega)]; rfl
  | false =>
   have hne : ¬ i=i':=fun e=>by rw [e,Nat.beq_refl] at hb; cases hb
   simp only [hb] at hc hp
   obtain ⟨x',h1,rfl⟩:=Option.map_eq_some_iff.mp hp
   have hcells:=packAll_some h1
   rw [setN_eq] at hcells
   rw [nth_eq] at hc
   refine ⟨_,by have:=SlX.slo e (xs.set i x') i' cs; rwa [List.length_set] at this,fun k l=>?_⟩
   have hset:=cellOf_set (n:=n) hi hcells.symm hc (fun l=>by rw [cellOf_rows,hx,Option.bind_some,nth_eq]) k l
   unfold cellX
   rw [List.length_set]
   by_cases hkl:k<xs.length∧l<e.size
   ·rw [if_pos hkl,if_pos hkl]
    by_cases hk:k=i'
    ·rw [if_pos hk,if_pos hk,if_neg (fun h=>hne (h.1.symm.trans hk))]
    ·rw [if_neg hk,if_neg hk,hset]
   ·rw [if_neg hkl,if_neg hkl,if_neg (fun h=>hkl (by rw [h.1,h.2]; exact ⟨hi,hij.2⟩))]
theorem RepO.ofX {w:World} {S:Fl→Nat→Prop} {t:T} {e:Ty} {n:Nat} {f:Nat→Nat→Option T} (h:SlX t e n f) {b off cap:Nat} {arr:Array Value} {el:TypeId} {vs:Nat→Nat→Value} {φ:Lay}
 (hb:w.heap[b]?=some (.cells arr el (0,0))) (hcap:n≤cap+1) (hsz:off+(cap+1) * e.size≤arr.size)
 (hc:∀ k l t,f k l=some t→arr[off+(k * e.size+l)]?=some (vs k l)) (hr:∀ k l t,f k l=some t→RepO w S t (vs k l) (φ.at k l))
 (h0:φ []=some (.slice (some ⟨b,off,none⟩) n (cap+1))) (hn:∀ k l,f k l=none→φ.at k l=noLay):RepO w S t (.slice (some ⟨b,off,none⟩) n (cap+1)) φ:=by
 cases h with
 | sl _ xs=>exact .sl e xs b off cap arr el vs φ hb hcap hsz hc hr h0 hn
 | slo _ xs i cs=>exact .slo e xs i cs b off cap arr el vs φ hb hcap hsz hc hr h0 hn
theorem RepO.toX {w:World} {S:Fl→Nat→Prop} {t:T} {x:Value} {φ:Lay} (h:RepO w S t x φ) {e:Ty} {n:Nat} {f:Nat→Nat→Option T} (hX:SlX t e n f) :
 (∃ a,x = .slice a 0 0∧n=0∧φ []=some (.slice a 0 0)∧(∀ c p,φ (c :: p)=none)∧∀ k l,f k l=none) ∨
 ∃ (b off cap:Nat) (arr:Array Value) (el:TypeId) (vs:Nat→Nat→Value),x = .slice (some ⟨b,off,none⟩) n (cap+1)∧w.heap[b]?=some (.cells arr el (0,0))∧n≤cap+1∧off+(cap+1) * e.size≤arr.size ∧
  (∀ k l t,f k l=some t→arr[off+(k * e.size+l)]?=some (vs k l))∧(∀ k l t,f k l=some t→RepO w S t (vs k l) (φ.at k l)) ∧
  φ []=some (.slice (some ⟨b,off,none⟩) n (cap+1))∧(∀ k l,f k l=none→φ.at k l=noLay):=by
 cases hX with
 | sl _ xs =>
  cases h with
  | sh _ _ _ ht=>simp [T.isSh] at ht
  | nil _ a _ h0 hn=>exact .inl ⟨a,rfl,rfl,h0,hn,fun k l=>by rw [cellOf_rows]; simp⟩
  | sl _ _ b off cap arr el vs _ hb hcap hsz hc hr h0 hn=>exact .inr ⟨b,off,cap,arr,el,vs,rfl,hb,hcap,hsz,hc,hr,h0,hn⟩
  | box _ _ ht=>simp [T.box?] at ht
 | slo _ xs i cs =>
  cases h with
  | sh _ _ _ ht=>simp [T.isSh] at ht
  | slo _ _ _ _ b off cap arr el vs _ hb hcap hsz hc hr h0 hn=>exact .inr ⟨b,off,cap,arr,el,vs,rfl,hb,hcap,hsz,hc,hr,h0,hn⟩
  | box _ _ ht=>simp [T.box?] at ht
theorem sh_child {t:T} {i j:Nat} (h:t.isSh=true):childT t i j=none:=by
 cases t with
 | sl f=>cases f <;> first | rfl | simp [T.isSh] at h
 | pt f=>cases f <;> first | rfl | simp [T.isSh] at h
 | pp f=>cases f <;> first | rfl | simp [T.isSh] at h
 | vr=>simp [T.isSh] at h
 | slo=>simp [T.isSh] at h
 | po=>simp [T.isSh] at h
 | _=>rfl
theorem put_X {w w':World} {S:Fl→Nat→Prop} {t t' n u:T} {x y:Value} {φ ψ:Lay} {i j:Nat} {e:Ty} {m:Nat} {f:Nat→Nat→Option T} (hX:SlX t e m f) (h:RepO w S t x φ) (hn:RepO w' S n y ψ)
 (hS:∀ f b,S f b→w'.heap[b]?=w.heap[b]?) (hrow:RowBlk w w' t (φ []) i j y) (hk:∀ k l,¬ (k=i∧l=j)→KeptBy (φ.at k l) w w')
 (hc:childT t i j=some u) (hp:putChild t i j n=some t'):RepO w' S t' x (φ.graft [(i,j)] ψ):=by
 obtain ⟨f',hX',hu,hcell⟩:=hX.put hc hp
 rcases h.toX hX with ⟨a,-,-,-,-,hno⟩ | ⟨b,off,cap,arr,el,vs,rfl,hb,hcap,hsz,hc',hr,h0,hn'⟩
 ·rw [hno] at hu; cases hu
 have hrow:w'.heap[b]?=some (.cells (arr.setIfInBounds (off+(i * e.size+j)) y) el (0,0)):=by
  unfold RowBlk at hrow
  split at hrow
  ·exact absurd rfl (hX.noVr _)
  ·obtain ⟨b',hb1,hb2⟩:=hrow
   simp only [h0,Option.bind_some,blkOf,Option.some.injEq] at hb1
   subst hb1
   have:=hb2 arr el hb
   rw [hX.idx,h0] at this
   exact this
 have hij:=hX.lt hu
 refine RepO.ofX (w:=w') (vs:=fun k l=>if k=i∧l=j then y else vs k l) hX' hrow hcap (by simpa using hsz) (fun k l t' ht'=>?_) (fun k l t' ht'=>?_) (by rw [Lay.graft_nil,h0]) (fun k l hkl'=>?_)
 ·rw [hcell] at ht'
  by_cases hkl:k=i∧l=j
  ·rw [if_pos hkl]
   obtain ⟨rfl,rfl⟩:=hkl
   have:=hc' k l u hu
   rw [Array.getElem?_setIfInBounds_self_of_lt]
   exact (Array.getElem?_eq_some_iff.mp this).1
  ·rw [if_neg hkl] at ht' ⊢
   have hkl':=hX.lt ht'
   rw [Array.getElem?_setIfInBounds_ne]
   ·exact hc' k l t' ht'
   ·intro e'
    obtain ⟨e1,e2⟩:=flat_inj hij.2 hkl'.2 (Nat.add_left_cancel e')
    exact hkl ⟨e1.symm,e2.symm⟩
 ·rw [hcell] at ht'
  by_cases hkl:k=i∧l=j
  ·rw [if_pos hkl] at ht' ⊢
   obtain ⟨rfl,rfl⟩:=hkl
   simp only [Option.some.injEq] at ht'
   subst ht'
   rw [Lay.graft_at_same]
   exact hn
  ·rw [if_neg hkl] at ht' ⊢
   rw [Lay.graft_at_ne _ _ _ _ _ _ _ hkl]
   exact (hr k l t' ht').mono hS (fun _ _ h=>h) (hk k l hkl)
 ·rw [hcell] at hkl'
  by_cases hkl:k=i∧l=j
  ·rw [if_pos hkl] at hkl'; simp at hkl'
  ·rw [if_neg hkl] at hkl'
   rw [Lay.graft_at_ne _ _ _ _ _ _ _ hkl]
   exact hn' k l hkl'
theorem put_own {w w':World} {S:Fl→Nat→Prop} {t t' n u:T} {x y:Value} {φ ψ:Lay} {i j:Nat} (h:RepO w S t x φ) (hn:RepO w' S n y ψ)
 (hS:∀ f b,S f b→w'.heap[b]?=w.heap[b]?) (hrow:RowBlk w w' t (φ []) i j y) (hk:∀ k l,¬ (k=i∧l=j)→KeptBy (φ.at k l) w w')
 (hc:childT t i j=some u) (hp:putChild t i j n=some t'):RepO w' S t' x (φ.graft [(i,j)] ψ):=by
 cases h with
 | sh _ _ h ht=>rw [sh_child ht] at hc; simp at hc
 | nil e a φ h0 hn'=>simp [childT] at hc
 | bld=>simp [childT] at hc
 | sl e xs b off cap arr el vs φ hb hcap hsz hc' hr h0 hn' =>
  exact put_X (.sl e xs) (.sl e xs b off cap arr el vs φ hb hcap hsz hc' hr h0 hn') hn hS hrow hk hc hp
 | slo e xs i' cs b off cap arr el vs φ hb hcap hsz hc' hr h0 hn' =>
  exact put_X (.slo e xs i' cs) (.slo e xs i' cs b off cap arr el vs φ hb hcap hsz hc' hr h0 hn') hn hS hrow hk hc hp
 | box _ cs ht b arr el vs φ hb hsz hc' hr h0 hn' =>
  obtain ⟨rfl,hu,hbox⟩:=putChild_box ht hc hp
  obtain ⟨b1,hb1,hblk⟩:=hrow.box ht
  simp only [h0,Option.bind_some,blkOf,Option.some.injEq] at hb1
  subst hb1
  have hb':=hblk arr el hb
  have hj:j<cs.length:=(List.getElem?_eq_some_iff.mp hu).1
  refine .box t' (cs.set j n) hbox b (arr.setIfInBounds j y) el (fun l=>if l=j then y else vs l) (φ.graft [(0,j)] ψ) hb' (by simpa using hsz)
   (fun l t' ht'=>?_) (fun l t' ht'=>?_) (by rw [Lay.graft_nil,h0]) (fun k l hkl=>?_)
  ·rw [List.getElem?_set] at ht'
   by_cases hl:j=l
   ·subst hl
    simp only [if_true]
    rw [Array.getElem?_setIfInBounds_self_of_lt (by omega)]
   ·rw [if_neg hl] at ht'
    have hl' : ¬ l=j:=fun e=>hl e.symm
    simp only [if_neg hl']
    rw [Array.getElem?_setIfInBounds_ne hl]
    exact hc' l t' ht'
  ·rw [List.getElem?_set] at ht'
   by_cases hl:j=l
   ·subst hl
    simp only [if_true,hj] at ht' ⊢
    simp only [Option.some.injEq] at ht'
    subst ht'
    rw [Lay.graft_at_same]
    exact hn
   ·rw [if_neg hl] at ht'
    have hl' : ¬ l=j:=fun e=>hl e.symm
    simp only [if_neg hl']
    rw [Lay.graft_at_ne _ _ _ _ _ _ _ (fun h=>hl' h.2)]
    exact (hr l t' ht').mono hS (fun _ _ h=>h) (hk 0 l (fun h=>hl' h.2))
  ·by_cases hkl':k=0∧l=j
   ·obtain ⟨rfl,rfl⟩:=hkl'
    rcases hkl with hkl | hkl
    ·exact absurd rfl hkl
    ·rw [List.getElem?_set] at hkl; simp [hj] at hkl
   ·rw [Lay.graft_at_ne _ _ _ _ _ _ _ hkl']
    refine hn' k l ?_
    rcases hkl with hkl | hkl
    ·exact .inl hkl
    ·rw [List.getElem?_set] at hkl
     by_cases hl:j=l
     ·subst hl; simp [hj] at hkl
     ·rw [if_neg hl] at hkl; exact .inr hkl
 | vr cs _ vs φ hr h0 hn' =>
  cases i with
  | succ i=>simp [childT] at hc
  | zero =>
   simp only [childT,nth_eq] at hc
   simp only [putChild,Option.some.injEq] at hp
   subst hp
   have hj:j<cs.length:=(List.getElem?_eq_some_iff.mp hc).1
   rw [setN_eq]
   refine .vr (cs.set j n) x (fun l=>if l=j then y else vs l) (φ.graft [(0,j)] ψ) (fun l t' ht'=>?_) (by rw [Lay.graft_nil,h0]) (fun k l hkl=>?_)
   ·rw [List.getElem?_set] at ht'
    by_cases hl:j=l
    ·subst hl
     simp only [if_true,hj] at ht' ⊢
     simp only [Option.some.injEq] at ht'
     subst ht'
     rw [Lay.graft_at_same]
     exact hn
    ·rw [if_neg hl] at ht'
     have hl' : ¬ l=j:=fun e=>hl e.symm
     simp only [if_neg hl']
     rw [Lay.graft_at_ne _ _ _ _ _ _ _ (fun h=>hl' h.2)]
     exact (hr l t' ht').mono hS (fun _ _ h=>h) (hk 0 l (fun h=>hl' h.2))
   ·by_cases hkl':k=0∧l=j
    ·obtain ⟨rfl,rfl⟩:=hkl'
     rcases hkl with hkl | hkl
     ·exact absurd rfl hkl
     ·rw [List.getElem?_set] at hkl; simp [hj] at hkl
    ·rw [Lay.graft_at_ne _ _ _ _ _ _ _ hkl']
     refine hn' k l ?_
     rcases hkl with hkl | hkl
     ·exact .inl hkl
     ·rw [List.getElem?_set] at hkl
      by_cases hl:j=l
      ·subst hl; simp [hj] at hkl
      ·rw [if_neg hl] at hkl; exact .inr hkl
theorem set_same {arr:Array Value} {o:Nat} {y:Value} (h:arr[o]?=some y):arr.setIfInBounds o y=arr:=by
 apply Array.ext_getElem?
 intro i
 by_cases e:o=i
 ·subst e
  rw [Array.getElem?_setIfInBounds_self_of_lt (Array.getElem?_eq_some_iff.mp h).1,h]
 ·rw [Array.getElem?_setIfInBounds_ne e]
def CellAt (w:World) (t:T) (v:Option Value) (i j:Nat) (y:Value):Prop :=
 (∃ cs,t = .vr cs)∨∃ b arr el,v.bind blkOf=some b∧w.heap[b]?=some (.cells arr el (0,0))∧arr[t.idx v i j]?=some y
theorem child_own {w:World} {S:Fl→Nat→Prop} {t u:T} {x:Value} {φ:Lay} {i j:Nat} (h:RepO w S t x φ) (hc:childT t i j=some u) :
 ∃ y,RepO w S u y (φ.at i j)∧(∀ w',(∀ b,(φ []).bind blkOf=some b→w'.heap[b]?=w.heap[b]?)→RowBlk w w' t (φ []) i j y) ∧
  CellAt w t (φ []) i j y:=by
 cases h with
 | sh _ _ h ht=>rw [sh_child ht] at hc; simp at hc
 | nil e a φ h0 hn'=>simp [childT] at hc
 | bld=>simp [childT] at hc
 | sl e xs b off cap arr el vs φ hb hcap hsz hc' hr h0 hn' =>
  have hu:cellOf (rows .own e xs) i j=some u:=by rw [cellOf_rows]; exact hc
  refine ⟨vs i j,hr i j u hu,fun w' hw=>?_,.inr ⟨b,arr,el,by simp [h0,blkOf],hb,by rw [h0]; exact hc' i j u hu⟩⟩
  refine ⟨b,by simp [h0,blkOf],fun arr' el' h'=>?_⟩
  rw [hb] at h'
  simp only [Option.some.injEq,Obj.cells.injEq] at h'
  obtain ⟨rfl,rfl,_⟩:=h'
  rw [set_same (show arr[T.idx (φ []) (.sl .own e xs) i j]?=some (vs i j) by rw [h0]; exact hc' i j u hu),hw b (by simp [h0,blkOf]),hb]
 | slo e xs i' cs b off cap arr el vs φ hb hcap hsz hc' hr h0 hn' =>
  have hX:=SlX.slo e xs i' cs
  have hu:cellX e xs i' cs i j=some u:=by rw [← hX.child]; exact hc
  refine ⟨vs i j,hr i j u hu,fun w' hw=>?_,.inr ⟨b,arr,el,by simp [h0,blkOf],hb,by rw [h0]; exact hc' i j u hu⟩⟩
  refine ⟨b,by simp [h0,blkOf],fun arr' el' h'=>?_⟩
  rw [hb] at h'
  simp only [Option.some.injEq,Obj.cells.injEq] at h'
  obtain ⟨rfl,rfl,_⟩:=h'
  rw [set_same (show arr[T.idx (φ []) (.slo e xs i' cs) i j]?=some (vs i j) by rw [h0]; exact hc' i j u hu),hw b (by simp [h0,blkOf]),hb]
 | box _ cs ht b arr el vs φ hb hsz hc' hr h0 hn' =>
  have hi:i=0∧cs[j]?=some u:=by
   cases t with
   | pp f cs' =>
    cases f <;> simp [T.box?] at ht
    subst ht
    cases i with
    | zero=>exact ⟨rfl,by simpa [childT,nth_eq] using hc⟩
    | succ i=>simp [childT] at hc
   | pt f e d =>
    cases f <;> simp [T.box?] at ht
    subst ht
    cases i with
    | zero=>exact ⟨rfl,by simpa [childT,nth_eq] using hc⟩
    | succ i=>simp [childT] at hc
   | po e cs' =>
    simp only [T.box?,Option.some.injEq] at ht
    subst ht
    cases i with
    | zero=>exact ⟨rfl,by simpa [childT,nth_eq] using hc⟩
    | succ i=>simp [childT] at hc
   | _=>simp [T.box?] at ht
  obtain ⟨rfl,hu⟩:=hi
  have hne:∀ cs,t≠.vr cs:=by intro cs e; subst e; simp [T.box?] at ht
  refine ⟨vs j,hr j u hu,fun w' hw=>?_,?_⟩
  ·have:∃ b,(φ []).bind blkOf=some b∧∀ arr el,w.heap[b]?=some (.cells arr el (0,0))→w'.heap[b]?=some (.cells (arr.setIfInBounds (t.idx (φ []) 0 j) (vs j)) el (0,0)):=by
    refine ⟨b,by simp [h0,blkOf],fun arr' el' h'=>?_⟩
    rw [hb] at h'
    simp only [Option.some.injEq,Obj.cells.injEq] at h'
    obtain ⟨rfl,rfl,_⟩:=h'
    rw [idx_box ht,set_same (hc' j u hu),hw b (by simp [h0,blkOf]),hb]
   unfold RowBlk
   split
   ·trivial
   ·exact this
  ·exact .inr ⟨b,arr,el,by simp [h0,blkOf],hb,by rw [idx_box ht]; exact hc' j u hu⟩
 | vr cs _ vs φ hr h0 hn' =>
  cases i with
  | succ i=>simp [childT] at hc
  | zero =>
   simp only [childT,nth_eq] at hc
   exact ⟨vs j,hr j u hc,fun _ _=>trivial,.inl ⟨_,rfl⟩⟩
theorem Lay.under_at (φ:Lay) (q:Path) (i j:Nat):(φ.under q).at i j=φ.under (q++[(i,j)]):=by
 funext p; simp [Lay.under,Lay.at]
theorem Lay.under_apply_nil (φ:Lay) (q:Path):φ.under q []=φ q:=by simp [Lay.under]
theorem getT_own {w:World} {S:Fl→Nat→Prop}:∀ (p:Path) {t:T} {x:Value} {φ:Lay} {t':T},RepO w S t x φ→getT p t=some t' →
 ∃ x',RepO w S t' x' (φ.under p)
 | [],t,x,φ,t',h,hg=>by simp only [getT,Option.some.injEq] at hg; subst hg; exact ⟨x,h⟩
 | (i,j) :: p,t,x,φ,t',h,hg=>by
  obtain ⟨c,hc,hg⟩:=Option.bind_eq_some_iff.mp hg
  obtain ⟨y,hy,_⟩:=child_own h hc
  exact getT_own p hy hg
theorem setT_own {w w':World} {S:Fl→Nat→Prop} {n:T} {y:Value} {ψ:Lay} (hn':RepO w' S n y ψ) (hS:∀ f b,S f b→w'.heap[b]?=w.heap[b]?) :
 ∀ (q:Path) (i j:Nat) {t t':T} {x:Value} {φ:Lay},RepO w S t x φ→Inj φ→setT (q++[(i,j)]) t n=some t' →
 (∀ b,(φ q).bind blkOf≠some b→w'.heap[b]?=w.heap[b]?) →
 (∀ row,getT q t=some row→RowBlk w w' row (φ q) i j y)→RepO w' S t' x (φ.graft (q++[(i,j)]) ψ):=by
 intro q
 induction q with
 | nil =>
  intro i j t t' x φ h hinj hs hw hrow
  obtain ⟨c,hc,hs⟩:=Option.bind_eq_some_iff.mp hs
  simp only [setT,Option.bind_some] at hs
  refine put_own h hn' hS (hrow t rfl) (fun k l hkl p z b hz hb=>hw b (fun e=>?_)) hc hs
  cases h0:φ [] with
  | none=>rw [h0] at e; simp at e
  | some z0 =>
   rw [h0,Option.bind_some] at e
   have:=hinj _ _ _ _ _ hz hb h0 e
   simp at this
 | cons c0 q ih =>
  obtain ⟨i0,j0⟩:=c0
  intro i j t t' x φ h hinj hs hw hrow
  obtain ⟨c,hc,hs⟩:=Option.bind_eq_some_iff.mp hs
  obtain ⟨c',hs1,hs2⟩:=Option.bind_eq_some_iff.mp hs
  obtain ⟨y0,hy0,hblk,_⟩:=child_own h hc
  have hcc:getT ((i0,j0) :: q) t=getT q c:=by simp only [getT,hc,Option.bind_some]
  have h1:=ih i j hy0 (hinj.at i0 j0) hs1 hw (fun row hr=>hrow row (by rw [hcc]; exact hr))
  refine put_own h h1 hS (hblk w' (fun b hb=>hw b (fun e=>?_))) (fun k l hkl p z b hz hb=>hw b (fun e=>?_)) hc hs2
  ·cases h0:φ [] with
   | none=>rw [h0] at hb; simp at hb
   | some z0 =>
    cases h1:φ ((i0,j0) :: q) with
    | none=>rw [h1] at e; simp at e
    | some z1 =>
     rw [h0,Option.bind_some] at hb
     rw [h1,Option.bind_some] at e
     have:=hinj _ _ _ _ _ h0 hb h1 e
     simp at this
  ·cases h1:φ ((i0,j0) :: q) with
   | none=>rw [h1] at e; simp at e
   | some z1 =>
    rw [h1,Option.bind_some] at e
    have:=hinj _ _ _ _ _ hz hb h1 e
    simp only [List.cons.injEq,Prod.mk.injEq] at this
    exact hkl this.1
theorem place_cell {w:World} {S:Fl→Nat→Prop} {t u:T} {x:Value} {φ:Lay} {q:Path} {i j:Nat} (h:RepO w S t x φ) (hg:getT (q++[(i,j)]) t=some u) :
 ∃ row y,getT q t=some row∧childT row i j=some u∧RepO w S u y (φ.under (q++[(i,j)]))∧RowBlk w w row (φ q) i j y∧CellAt w row (φ q) i j y:=by
 rw [getT_append] at hg
 obtain ⟨row,hr,hg⟩:=Option.bind_eq_some_iff.mp hg
 obtain ⟨c,hc,hg⟩:=Option.bind_eq_some_iff.mp hg
 simp only [getT,Option.some.injEq] at hg
 subst hg
 obtain ⟨x',hx'⟩:=getT_own q h hr
 obtain ⟨y,h1,h2,h3⟩:=child_own hx' hc
 rw [Lay.under_apply_nil] at h2 h3
 rw [Lay.under_at] at h1
 exact ⟨row,y,hr,hc,h1,h2 w (fun _ _=>rfl),h3⟩
end Go.V
namespace Go.V
open Go.RowKit
inductive CB where
 | sh (u:T)
 | ow (r:Nat) (p:Path) (e:Ty)
inductive C where
 | k (t:T)
 | own (r:Nat) (p:Path) (e:Ty)
 | sub (r:Nat) (p:Path) (lo n:Nat) (e:Ty)
 | pt (r:Nat) (p:Path) (i j sz:Nat)
 | rq (f:Fl) (cs:List T) (j:Nat)
 | ra (e:Ty) (xs:List (den e))
 | nil
 | fnp (f:FuncId) (caps:List (Nat×Path))
 | fn (a r:Ty) (g:den a→Option (den r))
 | cb (cs:List CB) (j:Nat)
inductive V where
 | c (x:C)
 | ag (cs:List C)
inductive D where
 | v (x:V)
 | tup (xs:List V)
structure X where
 env:List (Nat×D)
 roots:List (Nat×List T)
 lock:List (Nat×List Nat)
 pin:List Nat
 dirt:List (Nat×List Nat)
def look {α:Type}:List (Nat×α)→Nat→Option α
 | [],_=>none
 | e :: l,k=>match Nat.beq e.1 k with
  | true=>some e.2
  | false=>look l k
theorem look_cons {α:Type} (l:List (Nat×α)) (k:Nat) (x:α) (j:Nat):look ((k,x) :: l) j=if j=k then some x else look l j:=by
 simp only [look]
 cases h:Nat.beq k j with
 | true=>have:=Nat.eq_of_beq_eq_true h; subst this; simp
 | false=>have:=Nat.ne_of_beq_eq_false h; rw [if_neg (fun e=>this e.symm)]
def mapS {α β:Type} (f:α→β):List (Nat×α)→List (Nat×β)
 | []=>[]
 | e :: l=>(e.1,f e.2) :: mapS f l
theorem look_mapS {α β:Type} (l:List (Nat×α)) (f:α→β) (j:Nat):look (mapS f l) j=(look l j).map f:=by
 induction l with
 | nil=>rfl
 | cons e l ih =>
  simp only [mapS,look]
  cases Nat.beq e.1 j <;> simp [ih]
def mem:List Nat→Nat→Bool
 | [],_=>false
 | a :: l,k=>match Nat.beq a k with
  | true=>true
  | false=>mem l k
theorem mem_iff (l:List Nat) (k:Nat):mem l k=true↔k∈l:=by
 induction l with
 | nil=>simp [mem]
 | cons a l ih =>
  simp only [mem,List.mem_cons]
  cases h:Nat.beq a k with
  | true=>have:=Nat.eq_of_beq_eq_true h; simp [this]
  | false =>
   have hne:=Nat.ne_of_beq_eq_false h
   rw [show (match false with | true=>true | false=>mem l k)=mem l k from rfl,ih]
   constructor
   ·exact .inr
   ·rintro (h | h)
    ·exact absurd h.symm hne
    ·exact h
def onlyS {α:Type} (g:Nat→Bool):List (Nat×α)→List (Nat×α)
 | []=>[]
 | e :: l=>match g e.1 with
  | true=>e :: onlyS g l
  | false=>onlyS g l
theorem look_onlyS {α:Type} (l:List (Nat×α)) (g:Nat→Bool) (j:Nat):look (onlyS g l) j=if g j then look l j else none:=by
 induction l with
 | nil=>simp [onlyS,look]
 | cons e l ih =>
  simp only [onlyS]
  cases h:g e.1 with
  | true =>
   simp only [look]
   cases hb:Nat.beq e.1 j with
   | true=>have:=Nat.eq_of_beq_eq_true hb; subst this; simp [h]
   | false=>simpa using ih
  | false =>
   simp only [look]
   cases hb:Nat.beq e.1 j with
   | true=>have:=Nat.eq_of_beq_eq_true hb; subst this; simp only [h] at ih ⊢; simpa using ih
   | false=>simpa using ih
def jp:Path→List Nat
 | []=>[]
 | (_,j) :: p=>j :: jp p
def zp:List Nat→Path
 | []=>[]
 | j :: l=>(0,j) :: zp l
theorem jp_zp (l:List Nat):jp (zp l)=l:=by induction l <;> simp_all [jp,zp]
def pre:List Nat→List Nat→Bool
 | [],_=>true
 | _ :: _,[]=>false
 | a :: l,b :: m=>match Nat.beq a b with
  | true=>pre l m
  | false=>false
theorem pre_append (l m:List Nat):pre l (l++m)=true:=by
 induction l with
 | nil=>rfl
 | cons a l ih=>simp [pre,ih]
theorem jp_append (p q:Path):jp (p++q)=jp p++jp q:=by
 induction p with
 | nil=>rfl
 | cons c p ih=>obtain ⟨i,j⟩:=c; simp [jp,ih]
theorem pre_of_strip {p q q':Path} (h:strip p q=some q'):pre (jp p) (jp q)=true:=by
 rw [strip_some h,jp_append]; exact pre_append _ _
def pc (l m:List Nat):Bool:=match pre l m with
 | true=>true
 | false=>pre m l
def anyL {α:Type} (g:α→Bool):List α→Bool
 | []=>false
 | a :: l=>match g a with
  | true=>true
  | false=>anyL g l
theorem anyL_iff {α:Type} (g:α→Bool) (l:List α):anyL g l=true↔∃ a∈l,g a=true:=by
 induction l with
 | nil=>simp [anyL]
 | cons a l ih =>
  simp only [anyL]
  cases h:g a <;> simp [h,ih]
structure Sit where
 S:Fl→Nat→Prop
 Φ:Nat→Lay
 F:(a r:Ty)→(den a→Option (den r))→Value→Prop
inductive RepC (w:World) (s:Sit):C→Value→Prop where
 | k (t:T) (v:Value) (h:RepR w s.S t v):RepC w s (.k t) v
 | own (r:Nat) (p:Path) (e:Ty) (v:Value) (h:s.Φ r p=some v):RepC w s (.own r p e) v
 | sub (r:Nat) (p:Path) (lo n:Nat) (e:Ty) (a a':Option Addr) (n0 cap cap':Nat) (h:s.Φ r p=some (.slice a n0 cap)) (hle:lo+n≤n0) (hcap:n0≤cap)
  (hcn:n≤cap') (hcc:lo+cap'≤cap)
  (h0:lo=0→a'=a) (hn:cap'≠0→∃ b off,a=some ⟨b,off,none⟩∧a'=some ⟨b,off+lo * e.size,none⟩):RepC w s (.sub r p lo n e) (.slice a' n cap')
 | nil (a:Option Addr):RepC w s .nil (.slice a 0 0)
 | pt (r:Nat) (p:Path) (i j sz:Nat) (x:Value) (b:Nat) (h:s.Φ r p=some x) (hb:blkOf x=some b):RepC w s (.pt r p i j sz) (.pointer (some ⟨b,offOf x+(i * sz+j),none⟩))
 | rq (f:Fl) (cs:List T) (j b off:Nat) (vs:Nat→Value) (hR:s.S f b)
  (hc:∀ (j:Nat) t,cs[j]?=some t→w.cell? ⟨b,off+j,none⟩=some (vs j))
  (hr:∀ (j:Nat) t,cs[j]?=some t→RepR w s.S t (vs j)):RepC w s (.rq f cs j) (.pointer (some ⟨b,off+j,none⟩))
 | ra (e:Ty) (xs:List (den e)) (v:Value) (h:RepR w s.S (.ga e xs) v):RepC w s (.ra e xs) v
 | fnp (f:FuncId) (caps:List (Nat×Path)) (cap:Array Value) (hs:cap.size=caps.length)
  (hc:∀ (m:Nat) r p,caps[m]?=some (r,p)→∃ b,s.Φ r p=some (.pointer (some ⟨b,0,none⟩))∧cap[m]?=some (.pointer (some ⟨b,0,none⟩))) :
  RepC w s (.fnp f caps) (.func (.func f) #[] cap)
 | fn (a r:Ty) (g:den a→Option (den r)) (v:Value) (h:s.F a r g v) (h1:v.oneCell'=true):RepC w s (.fn a r g) v
 | cb (cs:List CB) (j b:Nat) (vs:Nat→Value) (hR:s.S .ro b)
  (hc:∀ (j:Nat) y,cs[j]?=some y→w.cell? ⟨b,j,none⟩=some (vs j))
  (ht:∀ (j:Nat) t,cs[j]?=some (.sh t)→RepR w s.S t (vs j))
  (ho:∀ (j:Nat) r p e,cs[j]?=some (.ow r p e)→s.Φ r p=some (vs j)):RepC w s (.cb cs j) (.pointer (some ⟨b,j,none⟩))
def atsB:List CB→List (Nat×Path)
 | []=>[]
 | y :: l=>match y with
  | .sh _=>atsB l
  | .ow r p _=>(r,p) :: atsB l
theorem mem_atsB {r:Nat} {p:Path} {e:Ty}:∀ {l:List CB} {j:Nat},l[j]?=some (.ow r p e)→(r,p)∈atsB l
 | [],j,h=>by simp at h
 | y :: l,0,h=>by
  simp only [List.getElem?_cons_zero,Option.some.injEq] at h
  subst h
  simp [atsB]
 | y :: l,j+1,h=>by
  have:=mem_atsB (l:=l) (j:=j) (by simpa using h)
  cases y with
  | sh _=>exact this
  | ow _ _ _=>exact List.mem_cons_of_mem _ this
theorem atsB_get {rp:Nat×Path}:∀ {l:List CB},rp∈atsB l→∃ (j:Nat) (e:Ty),l[j]?=some (.ow rp.1 rp.2 e)
 | [],h=>by simp [atsB] at h
 | y :: l,h=>by
  cases y with
  | sh u =>
   obtain ⟨j,e,h1⟩:=atsB_get (l:=l) h
   exact ⟨j+1,e,by simpa using h1⟩
  | ow r p e =>
   rcases List.mem_cons.1 h with rfl | h
   ·exact ⟨0,e,rfl⟩
   ·obtain ⟨j,e',h1⟩:=atsB_get (l:=l) h
    exact ⟨j+1,e',by simpa using h1⟩
def C.ats:C→List (Nat×Path)
 | .own r p _=>[(r,p)]
 | .sub r p _ _ _=>[(r,p)]
 | .pt r p _ _ _=>[(r,p)]
 | .fnp _ caps=>caps
 | .cb cs _=>atsB cs
 | _=>[]
theorem RepC.mono {w w':World} {s s':Sit} {c:C} {v:Value} (h:RepC w s c v)
 (hw:∀ f b,s.S f b→w'.heap[b]?=w.heap[b]?) (hS:∀ f b,s.S f b→s'.S f b) (hF:s'.F=s.F) (hΦ:∀ rp∈c.ats,s'.Φ rp.1 rp.2=s.Φ rp.1 rp.2):RepC w' s' c v:=by
 cases h with
 | k t v h=>exact .k t v (h.mono hw hS)
 | own r p e v h=>exact .own r p e v (by rw [hΦ (r,p) (by simp [C.ats])]; exact h)
 | sub r p lo n e a a' n0 cap cap' h hle hcap hcn hcc h0 hn=>exact .sub r p lo n e a a' n0 cap cap' (by rw [hΦ (r,p) (by simp [C.ats])]; exact h) hle hcap hcn hcc h0 hn
 | nil a=>exact .nil a
 | pt r p i j sz x b h hb=>exact .pt r p i j sz x b (by rw [hΦ (r,p) (by simp [C.ats])]; exact h) hb
 | rq f cs j b off vs hRb hc hr =>
  exact .rq f cs j b off vs (hS _ _ hRb) (fun j t e=>by rw [← hc j t e]; exact World.cell?_of_block (w:=w) (hw _ b hRb)) (fun j t e=>(hr j t e).mono hw hS)
 | ra e xs v h=>exact .ra e xs v (h.mono hw hS)
 | fnp f caps cap hs hc =>
  refine .fnp f caps cap hs (fun m r p e=>?_)
  obtain ⟨b,h1,h2⟩:=hc m r p e
  exact ⟨b,by rw [hΦ (r,p) (by simp only [C.ats]; exact List.mem_of_getElem? e)]; exact h1,h2⟩
 | fn a r g v h h1=>exact .fn a r g v (by rw [hF]; exact h) h1
 | cb cs j b vs hRb hc ht ho =>
  exact .cb cs j b vs (hS _ _ hRb) (fun j y e=>by rw [← hc j y e]; exact World.cell?_of_block (w:=w) (hw _ b hRb)) (fun j t e=>(ht j t e).mono hw hS)
   (fun j r p e h=>by rw [hΦ (r,p) (mem_atsB h)]; exact ho j r p e h)
inductive RepV (w:World) (s:Sit):V→Value→Prop where
 | c (x:C) (v:Value) (h:RepC w s x v):RepV w s (.c x) v
 | ag (cs:List C) (arr:Array Value) (hs:arr.size=cs.length) (h:∀ (j:Nat) c,cs[j]?=some c→∃ v,arr[j]?=some v∧RepC w s c v):RepV w s (.ag cs) (.agg arr)
inductive RepD (w:World) (s:Sit):D→Value→Prop where
 | v (x:V) (v:Value) (h:RepV w s x v):RepD w s (.v x) v
 | tup (xs:List V) (arr:Array Value) (hs:arr.size=xs.length) (h:∀ (j:Nat) x,xs[j]?=some x→∃ v,arr[j]?=some v∧RepV w s x v):RepD w s (.tup xs) (.tuple arr)
def V.ats:V→List (Nat×Path)
 | .c x=>x.ats
 | .ag cs=>cs.flatMap C.ats
def D.ats:D→List (Nat×Path)
 | .v x=>x.ats
 | .tup xs=>xs.flatMap V.ats
theorem RepV.conv {w w':World} {s s':Sit} {g:C→C} {x:V} {v:Value} (h:RepV w s x v) (hg:∀ c∈(match x with | .c y=>[y] | .ag cs=>cs),∀ v,RepC w s c v→RepC w' s' (g c) v) :
 RepV w' s' (match x with | .c y=>.c (g y) | .ag cs=>.ag (cs.map g)) v:=by
 cases h with
 | c x v h=>exact .c _ v (hg x (by simp) v h)
 | ag cs arr hs h =>
  refine .ag _ arr (by simp [hs]) (fun j c e=>?_)
  rw [List.getElem?_map] at e
  cases e1:cs[j]? with
  | none=>simp [e1] at e
  | some c0 =>
   simp only [e1,Option.map_some,Option.some.injEq] at e
   subst e
   obtain ⟨v,h1,h2⟩:=h j c0 e1
   exact ⟨v,h1,hg c0 (List.mem_of_getElem? e1) v h2⟩
theorem RepV.mono {w w':World} {s s':Sit} {c:V} {v:Value} (h:RepV w s c v)
 (hw:∀ f b,s.S f b→w'.heap[b]?=w.heap[b]?) (hS:∀ f b,s.S f b→s'.S f b) (hF:s'.F=s.F) (hΦ:∀ rp∈c.ats,s'.Φ rp.1 rp.2=s.Φ rp.1 rp.2):RepV w' s' c v:=by
 cases h with
 | c x v h=>exact .c x v (h.mono hw hS hF hΦ)
 | ag cs arr hs h =>
  refine .ag cs arr hs (fun j c e=>?_)
  obtain ⟨v,h1,h2⟩:=h j c e
  exact ⟨v,h1,h2.mono hw hS hF (fun rp hrp=>hΦ rp (by simp only [V.ats,List.mem_flatMap]; exact ⟨c,List.mem_of_getElem? e,hrp⟩))⟩
theorem RepD.mono {w w':World} {s s':Sit} {c:D} {v:Value} (h:RepD w s c v)
 (hw:∀ f b,s.S f b→w'.heap[b]?=w.heap[b]?) (hS:∀ f b,s.S f b→s'.S f b) (hF:s'.F=s.F) (hΦ:∀ rp∈c.ats,s'.Φ rp.1 rp.2=s.Φ rp.1 rp.2):RepD w' s' c v:=by
 cases h with
 | v x v h=>exact .v x v (h.mono hw hS hF hΦ)
 | tup cs arr hs h =>
  refine .tup cs arr hs (fun j c e=>?_)
  obtain ⟨v,h1,h2⟩:=h j c e
  exact ⟨v,h1,h2.mono hw hS hF (fun rp hrp=>hΦ rp (by simp only [D.ats,List.mem_flatMap]; exact ⟨c,List.mem_of_getElem? e,hrp⟩))⟩
def hits (r:Nat) (d:List Nat) (c:C):Bool:=anyL (fun rp=>match Nat.beq rp.1 r with | true=>pre d (jp rp.2) | false=>false) c.ats
def C.kill (r:Nat) (d:List Nat) (c:C):C:=match hits r d c with
 | true=>.k .dead
 | false=>c
def mapL {α β:Type} (g:α→β):List α→List β
 | []=>[]
 | a :: l=>g a :: mapL g l
theorem mapL_eq {α β:Type} (g:α→β) (l:List α):mapL g l=l.map g:=by induction l <;> simp_all [mapL]
def V.kill (r:Nat) (d:List Nat):V→V
 | .c x=>.c (x.kill r d)
 | .ag cs=>.ag (mapL (C.kill r d) cs)
def D.kill (r:Nat) (d:List Nat):D→D
 | .v x=>.v (x.kill r d)
 | .tup xs=>.tup (mapL (V.kill r d) xs)
section kills
variable {w w':World} {s s':Sit} {r:Nat} {d:List Nat}
theorem RepC.kill {c:C} {v:Value} (h:RepC w s c v) (hw:∀ f b,s.S f b→w'.heap[b]?=w.heap[b]?) (hS:∀ f b,s.S f b→s'.S f b) (hF:s'.F=s.F)
 (hΦ:∀ r' p',¬ (r'=r∧pre d (jp p')=true)→s'.Φ r' p'=s.Φ r' p'):RepC w' s' (c.kill r d) v:=by
 unfold C.kill
 cases hh:hits r d c with
 | true=>exact .k _ _ (.dead v)
 | false =>
  refine h.mono hw hS hF (fun rp hrp=>hΦ rp.1 rp.2 (fun e=>?_))
  have:hits r d c=true:=by
   unfold hits
   rw [anyL_iff]
   refine ⟨rp,hrp,?_⟩
   rw [e.1]
   simp [e.2]
  rw [hh] at this; cases this
theorem RepV.kill {c:V} {v:Value} (h:RepV w s c v) (hw:∀ f b,s.S f b→w'.heap[b]?=w.heap[b]?) (hS:∀ f b,s.S f b→s'.S f b) (hF:s'.F=s.F)
 (hΦ:∀ r' p',¬ (r'=r∧pre d (jp p')=true)→s'.Φ r' p'=s.Φ r' p'):RepV w' s' (c.kill r d) v:=by
 have:=h.conv (g:=C.kill r d) (w':=w') (s':=s') (fun c _ v hc=>hc.kill hw hS hF hΦ)
 cases c with
 | c x=>exact this
 | ag cs=>simpa only [V.kill,mapL_eq] using this
theorem RepD.kill {c:D} {v:Value} (h:RepD w s c v) (hw:∀ f b,s.S f b→w'.heap[b]?=w.heap[b]?) (hS:∀ f b,s.S f b→s'.S f b) (hF:s'.F=s.F)
 (hΦ:∀ r' p',¬ (r'=r∧pre d (jp p')=true)→s'.Φ r' p'=s.Φ r' p'):RepD w' s' (c.kill r d) v:=by
 cases h with
 | v x v h=>exact .v _ v (h.kill hw hS hF hΦ)
 | tup cs arr hs h =>
  refine .tup _ arr (by simp [hs,mapL_eq]) (fun j c e=>?_)
  rw [mapL_eq,List.getElem?_map] at e
  cases e1:cs[j]? with
  | none=>simp [e1] at e
  | some c0 =>
   simp only [e1,Option.map_some,Option.some.injEq] at e
   subst e
   obtain ⟨v,h1,h2⟩:=h j c0 e1
   exact ⟨v,h1,h2.kill hw hS hF hΦ⟩
end kills
structure Fr where
 off:Nat
 n:Nat
def inFr (f:Fr) (k:Nat):Bool:=and (Nat.ble f.off k) (Nat.blt k (f.off+f.n))
theorem inFr_iff {f:Fr} {k:Nat}:inFr f k=true↔f.off≤k∧k<f.off+f.n:=by simp [inFr,Nat.blt_eq]
structure Base where
 nt:Fr
 out:Nat→Option Value
 w0:World
 O0:Nat→Prop
 R0:Nat→Prop
 B0:Nat→Prop
 G:List (Nat×T)
 F:(a r:Ty)→(den a→Option (den r))→Value→Prop
 muts:List Nat
 Φ0:Nat→Lay
 LC:Nat→List Nat→Option T
 LΦ:Nat→List Nat→Lay
 PV:Nat→Value
def X.at (x:X) (r:Nat) (p:Path):Option T:=(look x.roots r).bind fun row=>getT p (.vr row)
def Base.tv (B:Base) (a:Act) (k:Nat):Option Value:=if k<B.nt.off then B.out k else a.tmps[k - B.nt.off]?
def _root_.Go.Act.gput (a:Act) (B:Base) (k:Nat) (v:Value):Act:=a.put (some (k - B.nt.off)) v
theorem gput_local {B:Base} {a:Act} {k:Nat} {v:Value}:a.gput B (B.nt.off+k) v=a.put (some k) v:=by simp [Act.gput]
theorem tv_local {B:Base} {a:Act} {k:Nat}:B.tv a (B.nt.off+k)=a.tmps[k]?:=by rw [Base.tv,if_neg (by omega),Nat.add_sub_cancel_left]
theorem tv_zero {B:Base} {a:Act} {k:Nat} (h:B.nt.off=0):B.tv a k=a.tmps[k]?:=by rw [Base.tv,h,if_neg (by omega),Nat.sub_zero]
structure RelW (B:Base) (s:Sit) (x:X) (a:Act) (w:World):Prop where
 defers:a.defers=[]
 size:a.tmps.size=B.nt.n
 env:∀ k d,look x.env k=some d→∃ v,B.tv a k=some v∧RepD w s d v
 roots:∀ r row,look x.roots r=some row→∃ y,RepO w s.S (.vr row) y (s.Φ r)
 rootn:∀ r,look x.roots r=none→s.Φ r=noLay
 inj:∀ r p y r' p' y' b,s.Φ r p=some y→blkOf y=some b→s.Φ r' p'=some y'→blkOf y'=some b→r=r'∧p=p'
 own:∀ r p y b,s.Φ r p=some y→blkOf y=some b→(∀ f,¬ s.S f b)∧b<w.heap.size∧(B.O0 b∨B.w0.heap.size≤b)
 slt:∀ f b,s.S f b→b<w.heap.size
 sown:∀ b,¬ s.S .own b
 sro:∀ b,B.R0 b→s.S .ro b
 srn:∀ b,s.S .ro b→B.R0 b∨B.O0 b∨B.w0.heap.size≤b
 sbo:∀ b,B.B0 b→s.S .bo b
 srb:∀ b,s.S .ro b→s.S .bo b
 sbn:∀ b,s.S .bo b→B.B0 b∨s.S .ro b
 F:s.F=B.F
 os:w.os=B.w0.os
 tape:w.tape=B.w0.tape
 output:w.output=B.w0.output
 grow:B.w0.heap.size≤w.heap.size
 kept:∀ b,b<B.w0.heap.size→¬ B.O0 b→w.heap[b]?=B.w0.heap[b]?
 glob:∀ g t,look B.G g=some t→RepR w s.S t (.pointer (some ⟨g,0,none⟩))
 pins:∀ k,k∈x.pin→B.tv a k=some (B.PV k)
 locks:∀ r d,(r,d)∈x.lock→x.at r (zp d)=B.LC r d∧(s.Φ r).under (zp d)=B.LΦ r d
 dirt:∀ r,r∈B.muts→∀ p,(∀ d,(r,d)∈x.dirt→pre d (jp p)=false)→s.Φ r p=B.Φ0 r p
theorem RelW.injR {B:Base} {s:Sit} {x:X} {a:Act} {w:World} (h:RelW B s x a w) (r:Nat):Inj (s.Φ r) :=
 fun p y p' y' b h1 h2 h3 h4=>(h.inj r p y r p' y' b h1 h2 h3 h4).2
theorem tv_put_same {B:Base} {a:Act} {k:Nat} {v:Value} (hs:a.tmps.size=B.nt.n) (hk:inFr B.nt k=true):B.tv (a.gput B k v) k=some v:=by
 have:=inFr_iff.1 hk
 rw [Base.tv,if_neg (by omega)]
 simp only [Act.gput,Act.put]
 rw [Array.getElem?_setIfInBounds_self_of_lt (by omega)]
theorem tv_put_ne {B:Base} {a:Act} {k j:Nat} {v:Value} (hk:inFr B.nt k=true) (h:j≠k):B.tv (a.gput B k v) j=B.tv a j:=by
 have:=inFr_iff.1 hk
 unfold Base.tv
 split
 ·rfl
 ·simp only [Act.gput,Act.put]
  rw [Array.getElem?_setIfInBounds_ne (by omega)]
theorem RelW.put {B:Base} {s:Sit} {x:X} {a:Act} {w:World} (h:RelW B s x a w) {k:Nat} {d:D} {v:Value}
 (hk:inFr B.nt k=true) (hp:k∉x.pin) (hv:RepD w s d v):RelW B s { x with env:=(k,d) :: x.env } (a.gput B k v) w :=
 { h with
  size:=by simp [Act.gput,Act.put,h.size]
  env:=by
   intro j d' hj
   rw [look_cons] at hj
   by_cases e:j=k
   ·subst e
    simp only [if_true,Option.some.injEq] at hj
    subst hj
    exact ⟨v,tv_put_same h.size hk,hv⟩
   ·rw [if_neg e] at hj
    obtain ⟨v',h1,h2⟩:=h.env j d' hj
    exact ⟨v',by rw [tv_put_ne hk e]; exact h1,h2⟩
  pins:=fun j hj=>by
   rw [tv_put_ne hk (fun e'=>hp (by rw [← e']; exact hj))]
   exact h.pins j hj }
theorem RelW.world {B:Base} {s:Sit} {x:X} {a:Act} {w w':World} (h:RelW B s x a w) (hb:∀ b,b<w.heap.size→w'.heap[b]?=w.heap[b]?) (hs:w.heap.size≤w'.heap.size)
 (h1:w'.os=w.os) (h2:w'.tape=w.tape) (h3:w'.output=w.output):RelW B s x a w' :=
 have hS:∀ f b,s.S f b→w'.heap[b]?=w.heap[b]?:=fun f b hR=>hb b (h.slt f b hR)
 { h with
  env:=fun k d hd=>by
   obtain ⟨v,e1,e2⟩:=h.env k d hd
   exact ⟨v,e1,e2.mono hS (fun _ _ h=>h) rfl (fun _ _=>rfl)⟩
  roots:=fun r t hr=>by
   obtain ⟨y,hy⟩:=h.roots r t hr
   exact ⟨y,hy.mono hS (fun _ _ h=>h) (fun p z b hz hbz=>hb b (h.own _ _ _ _ hz hbz).2.1)⟩
  own:=fun r p y b e1 e2=>by
   have:=h.own r p y b e1 e2
   exact ⟨this.1,by omega,this.2.2⟩
  slt:=fun f b hR=>by have:=h.slt f b hR; omega
  os:=h1.trans h.os
  tape:=h2.trans h.tape
  output:=h3.trans h.output
  grow:=by have:=h.grow; omega
  kept:=fun b e1 e2=>by
   rw [hb b (by have:=h.grow; omega)]
   exact h.kept b e1 e2
  glob:=fun g t hg=>(h.glob g t hg).mono hS (fun _ _ h=>h) }
structure OwnOut (B:Base) (s:Sit) (w:World) (ψ:Lay):Prop where
 inj:Inj ψ
 own:∀ q y b,ψ q=some y→blkOf y=some b→(∀ f,¬ s.S f b)∧b<w.heap.size∧(B.O0 b∨B.w0.heap.size≤b)
 out:∀ q y b,ψ q=some y→blkOf y=some b→∀ r p z,s.Φ r p=some z→blkOf z≠some b
theorem OwnOut.none (B:Base) (s:Sit) (w:World):OwnOut B s w noLay :=
 ⟨fun _ _ _ _ _ h=>by simp [noLay] at h,fun _ _ _ h=>by simp [noLay] at h,fun _ _ _ h=>by simp [noLay] at h⟩
theorem OwnOut.sub {B:Base} {s s':Sit} {w:World} {ψ:Lay} (h:OwnOut B s w ψ) (hS:s'.S=s.S) (hs:∀ r p z,s'.Φ r p=some z→s.Φ r p=some z):OwnOut B s' w ψ :=
 ⟨h.inj,fun q y b h1 h2=>by rw [hS]; exact h.own q y b h1 h2,fun q y b h1 h2 r p z h3=>h.out q y b h1 h2 r p z (hs r p z h3)⟩
def setΦ (s:Sit) (r:Nat) (φ:Lay):Sit:={ s with Φ:=fun r'=>if r'=r then φ else s.Φ r' }
theorem setΦ_same (s:Sit) (r:Nat) (φ:Lay):(setΦ s r φ).Φ r=φ:=by simp [setΦ]
theorem setΦ_ne (s:Sit) {r r':Nat} (φ:Lay) (h:r'≠r):(setΦ s r φ).Φ r'=s.Φ r':=by simp [setΦ,h]
structure Same (w w':World):Prop where
 os:w'.os=w.os
 tape:w'.tape=w.tape
 output:w'.output=w.output
 size:w'.heap.size=w.heap.size
theorem Same.refl (w:World):Same w w:=⟨rfl,rfl,rfl,rfl⟩
end Go.V
namespace Go.V
open Go.RowKit
theorem box_child {t:T} {cs:List T} (hb:t.box?=some cs) (k l:Nat):childT t k l=if k=0 then cs[l]? else none:=by
 cases t with
 | pp f cs' =>
  cases f <;> simp [T.box?] at hb
  subst hb
  cases k <;> simp [childT,nth_eq]
 | pt f e d =>
  cases f <;> simp [T.box?] at hb
  subst hb
  cases k <;> simp [childT,nth_eq]
 | po e cs' =>
  simp only [T.box?,Option.some.injEq] at hb
  subst hb
  cases k <;> simp [childT,nth_eq]
 | _=>simp [T.box?] at hb
theorem putChild_child {t t' n u:T} {i j k l:Nat} (hc:childT t i j=some u) (hp:putChild t i j n=some t') :
 childT t' k l=if k=i∧l=j then some n else childT t k l:=by
 have slx:∀ {e:Ty} {m:Nat} {f:Nat→Nat→Option T},SlX t e m f→childT t' k l=if k=i∧l=j then some n else childT t k l:=by
  intro e m f hX
  obtain ⟨f',hX',hu,hcell⟩:=hX.put hc hp
  rw [hX'.child,hX.child,hcell]
 have bx:∀ {cs:List T},t.box?=some cs→childT t' k l=if k=i∧l=j then some n else childT t k l:=by
  intro cs hb
  obtain ⟨rfl,hu,hbox⟩:=putChild_box hb hc hp
  have hj:=(List.getElem?_eq_some_iff.mp hu).1
  rw [box_child hbox,box_child hb]
  by_cases hk:k=0
  ·subst hk
   simp only [if_true,true_and,List.getElem?_set]
   by_cases hl:j=l
   ·subst hl; simp [hj]
   ·rw [if_neg hl,if_neg (fun h=>hl h.symm)]
  ·rw [if_neg hk,if_neg hk,if_neg (fun h=>hk h.1)]
 cases t with
 | sl f e xs =>
  cases f <;> try (simp [childT] at hc; done)
  exact slx (.sl e xs)
 | slo e xs i' cs =>
  exact slx (.slo e xs i' cs)
 | vr cs =>
  cases i with
  | succ i=>simp [childT] at hc
  | zero =>
   simp only [childT,nth_eq] at hc
   simp only [putChild,Option.some.injEq] at hp
   subst hp
   have hj:=(List.getElem?_eq_some_iff.mp hc).1
   cases k with
   | succ k=>simp [childT]
   | zero =>
    simp only [childT,nth_eq,setN_eq,List.getElem?_set]
    by_cases hl:j=l
    ·subst hl; simp [hj]
    ·rw [if_neg hl,if_neg (fun h=>hl h.2.symm)]
 | pp f cs =>
  cases f <;> try (simp [childT] at hc; done)
  exact bx rfl
 | pt f e d =>
  cases f <;> try (simp [childT] at hc; done)
  exact bx rfl
 | po e cs=>exact bx rfl
 | _=>simp [childT] at hc
theorem getT_setT_ne:∀ {p q:Path} {t t' n:T},setT p t n=some t'→pc (jp p) (jp q)=false→getT q t'=getT q t
 | [],q,t,t',n,_,h=>by simp [pc,jp,pre] at h
 | (i,j) :: p,[],t,t',n,_,h=>by simp [pc,jp,pre] at h
 | (i,j) :: p,(k,l) :: q,t,t',n,hs,h=>by
  obtain ⟨c,hc,hs⟩:=Option.bind_eq_some_iff.mp hs
  obtain ⟨c',hs1,hs2⟩:=Option.bind_eq_some_iff.mp hs
  simp only [getT]
  rw [putChild_child hc hs2]
  by_cases e:k=i∧l=j
  ·obtain ⟨rfl,rfl⟩:=e
   rw [if_pos ⟨rfl,rfl⟩,hc,Option.bind_some,Option.bind_some]
   refine getT_setT_ne hs1 ?_
   simpa [pc,jp,pre] using h
  ·rw [if_neg e]
theorem RepO.shLay {w:World} {S:Fl→Nat→Prop} {t:T} {x:Value} {φ:Lay} (h:RepO w S t x φ) (ht:t.isSh=true):φ=noLay:=by
 cases h with
 | sh=>rfl
 | nil=>simp [T.isSh] at ht
 | sl=>simp [T.isSh] at ht
 | slo=>simp [T.isSh] at ht
 | box _ cs hb =>
  cases t with
  | pp f cs'=>cases f <;> simp [T.box?] at hb; simp [T.isSh] at ht
  | pt f e d=>cases f <;> simp [T.box?] at hb; simp [T.isSh] at ht
  | po=>simp [T.isSh] at ht
  | _=>simp [T.box?] at hb
 | vr=>simp [T.isSh] at ht
 | bld=>simp [T.isSh] at ht
theorem graft_same {φ ψ:Lay} {p:Path} (h:φ.under p=ψ):φ.graft p ψ=φ:=by
 funext q
 rw [graft_eq]
 cases e:strip p q with
 | none=>rfl
 | some q'=>simp only; rw [← h,strip_some e]; rfl
theorem pre_prefix {l m n:List Nat} (h:pre l m=true):pre l (m++n)=true:=by
 induction l generalizing m with
 | nil=>rfl
 | cons a l ih =>
  cases m with
  | nil=>simp [pre] at h
  | cons b m =>
   simp only [pre,List.cons_append] at h ⊢
   cases hb:Nat.beq a b <;> rw [hb] at h
   ·cases h
   ·exact ih h
theorem pre_split {l m n:List Nat} (h:pre l (m++n)=true):pc l m=true:=by
 induction l generalizing m with
 | nil=>rfl
 | cons a l ih =>
  cases m with
  | nil=>simp [pc,pre]
  | cons b m =>
   simp only [pre,List.cons_append] at h
   simp only [pc,pre]
   cases hb:Nat.beq a b with
   | false=>rw [hb] at h; cases h
   | true =>
    rw [hb] at h
    have:=Nat.eq_of_beq_eq_true hb
    subst this
    have h2:=ih h
    simp only [Nat.beq_refl]
    exact h2
def lockOk (x:X) (r:Nat) (d:List Nat):Bool:=match anyL (fun l=>match Nat.beq l.1 r with | true=>pc d l.2 | false=>false) x.lock with
 | true=>false
 | false=>true
theorem lockOk_spec {x:X} {r:Nat} {d d':List Nat} (h:lockOk x r d=true) (hm:(r,d')∈x.lock):pc d d'=false:=by
 unfold lockOk at h
 cases e:anyL (fun l:Nat×List Nat=>match Nat.beq l.1 r with | true=>pc d l.2 | false=>false) x.lock with
 | true=>rw [e] at h; cases h
 | false =>
  cases e2:pc d d' with
  | false=>rfl
  | true =>
   have:anyL (fun l:Nat×List Nat=>match Nat.beq l.1 r with | true=>pc d l.2 | false=>false) x.lock=true:=by
    rw [anyL_iff]; exact ⟨(r,d'),hm,by simp [e2]⟩
   rw [e] at this; cases this
def rootSet (row:List T) (p:Path) (n:T):Option (List T):=(setT p (.vr row) n).bind fun t=>match t with
 | .vr row'=>some row'
 | _=>none
theorem setT_vr {p:Path} {row:List T} {n t':T} (hp:p≠[]) (h:setT p (.vr row) n=some t'):∃ row',t' = .vr row':=by
 cases p with
 | nil=>exact absurd rfl hp
 | cons c p =>
  obtain ⟨i,j⟩:=c
  obtain ⟨c,hc,hs⟩:=Option.bind_eq_some_iff.mp h
  obtain ⟨c',hs1,hs2⟩:=Option.bind_eq_some_iff.mp hs
  cases i with
  | succ i=>simp [childT] at hc
  | zero=>simp only [putChild,Option.some.injEq] at hs2; exact ⟨_,hs2.symm⟩
def X.turned (x:X) (r:Nat) (p:Path) (row':List T) (plain:Bool):X:=match plain with
 | true=>{ x with roots:=(r,row') :: x.roots }
 | false=>{ x with roots:=(r,row') :: x.roots,env:=mapS (D.kill r (jp p)) x.env,dirt:=(r,jp p) :: x.dirt }
def X.setAt (x:X) (r:Nat) (p:Path) (old n:T):Option X:=match lockOk x r (jp p) with
 | false=>none
 | true=>(look x.roots r).bind fun row=>(rootSet row p n).map fun row'=>x.turned r p row' (and old.isSh n.isSh)
section
variable {B:Base} {s:Sit} {x x':X} {a:Act} {w w':World}
theorem RelW.setAt (h:RelW B s x a w) {r:Nat} {old n:T} {q:Path} {i j:Nat} {y:Value} {ψ:Lay} (hold:x.at r (q++[(i,j)])=some old)
 (hs:x.setAt r (q++[(i,j)]) old n=some x') (hn:RepO w' s.S n y ψ) (ho:OwnOut B s w' ψ) (hw:Same w w')
 (hne:∀ b,(s.Φ r q).bind blkOf≠some b→w'.heap[b]?=w.heap[b]?) (hrow:∀ row,x.at r q=some row→RowBlk w w' row (s.Φ r q) i j y) :
 RelW B (setΦ s r ((s.Φ r).graft (q++[(i,j)]) ψ)) x' a w':=by
 unfold X.setAt at hs
 cases hl:lockOk x r (jp (q++[(i,j)])) with
 | false=>rw [hl] at hs; cases hs
 | true =>
 rw [hl] at hs
 obtain ⟨row,hrow0,hs⟩:=Option.bind_eq_some_iff.mp hs
 obtain ⟨row',hset,hs⟩:=Option.map_eq_some_iff.mp hs
 obtain ⟨t',hset',ht'⟩:=Option.bind_eq_some_iff.mp hset
 have hpne:q++[(i,j)]≠[]:=by simp
 obtain ⟨row2,rfl⟩:=setT_vr hpne hset'
 simp only [Option.some.injEq] at ht'
 subst ht'
 simp only [X.at,hrow0,Option.bind_some] at hold
 have hrow1:∀ rw',getT q (.vr row)=some rw'→RowBlk w w' rw' (s.Φ r q) i j y:=fun rw' e=>hrow rw' (by simp only [X.at,hrow0,Option.bind_some]; exact e)
 obtain ⟨y0,hy0⟩:=h.roots r row hrow0
 have hS:∀ f b,s.S f b→w'.heap[b]?=w.heap[b]?:=fun f b hb=>hne b (fun e=>by
  cases hz:s.Φ r q with
  | none=>rw [hz] at e; simp at e
  | some z=>rw [hz,Option.bind_some] at e; exact (h.own r q z b hz e).1 f hb)
 have hS':∀ f b,s.S f b→w'.heap[b]?=w.heap[b]?:=hS
 have hnew:=setT_own hn hS q i j hy0 (h.injR r) hset' hne hrow1
 -- the layout
 let s':=setΦ s r ((s.Φ r).graft (q++[(i,j)]) ψ)
 have hcase:∀ r' p z,s'.Φ r' p=some z→(s.Φ r' p=some z)∨(r'=r∧∃ p',strip (q++[(i,j)]) p=some p'∧ψ p'=some z):=by
  intro r' p z hz
  by_cases e:r'=r
  ·subst e
   simp only [s',setΦ_same,graft_eq] at hz
   cases es:strip (q++[(i,j)]) p with
   | none=>rw [es] at hz; exact .inl hz
   | some p'=>rw [es] at hz; exact .inr ⟨rfl,p',rfl,hz⟩
  ·simp only [s',setΦ_ne _ _ e] at hz; exact .inl hz
 have hΦ:∀ r' p,(r'=r→strip (q++[(i,j)]) p=none)→s'.Φ r' p=s.Φ r' p:=by
  intro r' p hh
  by_cases e:r'=r
  ·have:=hh e
   subst e
   simp only [s',setΦ_same,graft_eq,this]
  ·simp only [s',setΦ_ne _ _ e]
 have hplain:and old.isSh n.isSh=true→s'.Φ=s.Φ:=by
  intro e
  simp only [Bool.and_eq_true] at e
  obtain ⟨rw0,u0,yy,hg1,hg2,_,_⟩:=place_cell hy0 hold
  have h1:(s.Φ r).under (q++[(i,j)])=noLay:=RepO.shLay hg2 e.1
  have h2:ψ=noLay:=hn.shLay e.2
  funext r'
  by_cases e':r'=r
  ·subst e'
   simp only [s',setΦ_same]
   exact graft_same (by rw [h1,h2])
  ·simp only [s',setΦ_ne _ _ e']
 -- the new state's fields
 have hroots:x'.roots=(r,row2) :: x.roots:=by subst hs; unfold X.turned; split <;> rfl
 have hlock:x'.lock=x.lock:=by subst hs; unfold X.turned; split <;> rfl
 have hpin:x'.pin=x.pin:=by subst hs; unfold X.turned; split <;> rfl
 refine {
  defers:=h.defers
  size:=h.size
  env:=?_
  roots:=?_
  rootn:=?_
  inj:=?_
  own:=?_
  slt:=fun f b hb=>by rw [hw.size]; exact h.slt f b hb
  sown:=h.sown
  sro:=h.sro
  srn:=h.srn
  sbo:=h.sbo
  srb:=h.srb
  sbn:=h.sbn
  F:=h.F
  os:=hw.os.trans h.os
  tape:=hw.tape.trans h.tape
  output:=hw.output.trans h.output
  grow:=by rw [hw.size]; exact h.grow
  kept:=?_
  glob:=fun g t hg=>(h.glob g t hg).mono hS (fun _ _ h=>h)
  pins:=fun k hk=>h.pins k (by rw [← hpin]; exact hk)
  locks:=?_
  dirt:=?_ }
 ·intro k d hd
  cases hp:and old.isSh n.isSh with
  | true =>
   rw [hp] at hs
   subst hs
   obtain ⟨v,hv1,hv2⟩:=h.env k d hd
   exact ⟨v,hv1,hv2.mono hS (fun _ _ h=>h) rfl (fun rp _=>by rw [show (setΦ s r ((s.Φ r).graft (q++[(i,j)]) ψ)).Φ=s.Φ from hplain hp])⟩
  | false =>
   rw [hp] at hs
   subst hs
   simp only [X.turned,look_mapS] at hd
   obtain ⟨d0,e,rfl⟩:=Option.map_eq_some_iff.mp hd
   obtain ⟨v,hv1,hv2⟩:=h.env k d0 e
   refine ⟨v,hv1,hv2.kill hS (fun _ _ h=>h) rfl (fun r' p' hh=>hΦ r' p' (fun e=>?_))⟩
   cases es:strip (q++[(i,j)]) p' with
   | none=>rfl
   | some q'=>exact absurd ⟨e,pre_of_strip es⟩ hh
 ·intro r' row' hr'
  rw [hroots,look_cons] at hr'
  by_cases e:r'=r
  ·subst e
   rw [if_pos rfl] at hr'
   simp only [Option.some.injEq] at hr'
   subst hr'
   exact ⟨y0,by rw [setΦ_same]; exact hnew⟩
  ·rw [if_neg e] at hr'
   obtain ⟨y1,hy1⟩:=h.roots r' row' hr'
   refine ⟨y1,?_⟩
   rw [setΦ_ne _ _ e]
   refine hy1.mono hS (fun _ _ h=>h) (fun p z b hz hb=>hne b (fun e2=>?_))
   cases hz':s.Φ r q with
   | none=>rw [hz'] at e2; simp at e2
   | some z'=>rw [hz',Option.bind_some] at e2; exact e (h.inj _ _ _ _ _ _ _ hz hb hz' e2).1
 ·intro r' hr'
  rw [hroots,look_cons] at hr'
  by_cases e:r'=r
  ·rw [if_pos e] at hr'; cases hr'
  ·rw [if_neg e] at hr'
   rw [setΦ_ne _ _ e]
   exact h.rootn r' hr'
 ·intro r1 p1 z1 r2 p2 z2 b h1 hb1 h2 hb2
  rcases hcase r1 p1 z1 h1 with h1 | ⟨e1,p1',hs1,h1⟩ <;> rcases hcase r2 p2 z2 h2 with h2 | ⟨e2,p2',hs2,h2⟩
  ·exact h.inj _ _ _ _ _ _ _ h1 hb1 h2 hb2
  ·exact absurd hb1 (ho.out _ _ _ h2 hb2 _ _ _ h1)
  ·exact absurd hb2 (ho.out _ _ _ h1 hb1 _ _ _ h2)
  ·have:=ho.inj _ _ _ _ _ h1 hb1 h2 hb2
   subst this
   exact ⟨e1.trans e2.symm,by rw [strip_some hs1,strip_some hs2]⟩
 ·intro r' p z b hz hb
  rcases hcase r' p z hz with hz | ⟨e1,p1',hs1,hz⟩
  ·have:=h.own _ _ _ _ hz hb
   exact ⟨this.1,by rw [hw.size]; exact this.2.1,this.2.2⟩
  ·exact ho.own _ _ _ hz hb
 ·intro b hb hO
  rw [← h.kept b hb hO]
  refine hne b (fun e=>?_)
  cases hz:s.Φ r q with
  | none=>rw [hz] at e; simp at e
  | some z =>
   rw [hz,Option.bind_some] at e
   rcases (h.own r q z b hz e).2.2 with hh | hh
   ·exact hO hh
   ·omega
 ·intro r' d hd
  rw [hlock] at hd
  have h0:=h.locks r' d hd
  by_cases e:r'=r
  ·subst e
   have hpc:=lockOk_spec hl hd
   refine ⟨?_,?_⟩
   ·rw [← h0.1]
    simp only [X.at,hroots,look_cons,if_true,hrow0,Option.bind_some]
    exact getT_setT_ne hset' (by rw [jp_zp]; exact hpc)
   ·rw [← h0.2]
    funext p
    show (setΦ s r' ((s.Φ r').graft (q++[(i,j)]) ψ)).Φ r' (zp d++p)=s.Φ r' (zp d++p)
    refine hΦ r' _ (fun _=>?_)
    cases es:strip (q++[(i,j)]) (zp d++p) with
    | none=>rfl
    | some p' =>
     have:=pre_of_strip es
     rw [jp_append (zp d),jp_zp] at this
     rw [pre_split this] at hpc; cases hpc
  ·refine ⟨?_,?_⟩
   ·rw [← h0.1]
    simp only [X.at,hroots,look_cons,if_neg e]
   ·rw [← h0.2,setΦ_ne _ _ e]
 ·intro r' hr' p hp
  cases hpl:and old.isSh n.isSh with
  | true =>
   rw [hpl] at hs
   subst hs
   rw [show (setΦ s r ((s.Φ r).graft (q++[(i,j)]) ψ)).Φ=s.Φ from hplain hpl]
   exact h.dirt r' hr' p hp
  | false =>
   rw [hpl] at hs
   subst hs
   rw [show (setΦ s r ((s.Φ r).graft (q++[(i,j)]) ψ)).Φ r' p=s.Φ r' p from hΦ r' p (fun e=>?_)]
   ·exact h.dirt r' hr' p (fun d hd=>hp d (List.mem_cons_of_mem _ hd))
   ·subst e
    have:=hp (jp (q++[(i,j)])) List.mem_cons_self
    cases es:strip (q++[(i,j)]) p with
    | none=>rfl
    | some p'=>rw [pre_of_strip es] at this; cases this
def viewC (r:Nat) (p:Path) (t:T):C:=match t with
 | .sl .own e _=>.own r p e
 | .pp .own _=>.pt r p 0 0 0
 | .pt .own _ _=>.pt r p 0 0 0
 | .vr _=>.k .dead
 | .slo e _ _ _=>.own r p e
 | .po _ _=>.pt r p 0 0 0
 | .bld _ _=>.pt r p 0 0 0
 | t=>.k t
theorem viewC_sh {r:Nat} {p:Path} {t:T} (h:t.isSh=true):viewC r p t = .k t:=by
 cases t with
 | sl f=>cases f <;> first | rfl | simp [T.isSh] at h
 | pt f=>cases f <;> first | rfl | simp [T.isSh] at h
 | pp f=>cases f <;> first | rfl | simp [T.isSh] at h
 | vr=>simp [T.isSh] at h
 | slo=>simp [T.isSh] at h
 | po=>simp [T.isSh] at h
 | bld=>simp [T.isSh] at h
 | _=>rfl
theorem box_viewC {r:Nat} {p:Path} {t:T} {cs:List T} (h:t.box?=some cs):viewC r p t = .pt r p 0 0 0:=by
 cases t with
 | pp f cs'=>cases f <;> simp [T.box?] at h; rfl
 | pt f e d=>cases f <;> simp [T.box?] at h; rfl
 | po=>rfl
 | _=>simp [T.box?] at h
theorem view_own {r:Nat} {p:Path} {t:T} {y:Value} {φ:Lay} (h:RepO w s.S t y φ) (hφ:(s.Φ r).under p=φ):RepC w s (viewC r p t) y:=by
 cases h with
 | nil e a _ h0 hn =>
  rw [← hφ,Lay.under_apply_nil] at h0
  exact .own r p e _ h0
 | sl e xs b off cap arr el vs _ hb hcap hsz hc hr h0 hn =>
  rw [← hφ,Lay.under_apply_nil] at h0
  exact .own r p e _ h0
 | slo e xs i cs b off cap arr el vs _ hb hcap hsz hc hr h0 hn =>
  rw [← hφ,Lay.under_apply_nil] at h0
  exact .own r p e _ h0
 | box _ cs ht b arr el vs _ hb hsz hc hr h0 hn =>
  rw [← hφ,Lay.under_apply_nil] at h0
  have:=RepC.pt (w:=w) (s:=s) r p 0 0 0 _ b h0 rfl
  simp only [Nat.zero_mul,Nat.zero_add,offOf] at this
  rw [box_viewC ht]; exact this
 | vr cs _ vs _ hr h0 hn=>exact .k _ _ (.dead y)
 | bld t0 bs b x0 x1 _ hb hx hr h0 hn =>
  rw [← hφ,Lay.under_apply_nil] at h0
  have:=RepC.pt (w:=w) (s:=s) r p 0 0 0 _ b h0 rfl
  simp only [Nat.zero_mul,Nat.zero_add,offOf] at this
  exact this
 | sh _ _ h ht=>rw [viewC_sh ht]; exact .k _ _ h
theorem RelW.take (h:RelW B s x a w) {r:Nat} {u:T} {q:Path} {i j:Nat} (hg:x.at r (q++[(i,j)])=some u) (hx:x.setAt r (q++[(i,j)]) u .dead=some x') :
 ∃ y,RepO w s.S u y ((s.Φ r).under (q++[(i,j)]))∧RelW B (setΦ s r ((s.Φ r).graft (q++[(i,j)]) noLay)) x' a w ∧
  OwnOut B (setΦ s r ((s.Φ r).graft (q++[(i,j)]) noLay)) w ((s.Φ r).under (q++[(i,j)])):=by
 have hg':=hg
 obtain ⟨row,hrow0,hg⟩:=Option.bind_eq_some_iff.mp hg
 obtain ⟨y0,hy0⟩:=h.roots r row hrow0
 obtain ⟨rw1,y,hrw,hch,hu,hblk,hcell⟩:=place_cell hy0 hg
 refine ⟨y,hu,?_,?_⟩
 ·refine h.setAt hg' hx (.sh .dead y (.dead y) rfl) (OwnOut.none B s w) (Same.refl w) (fun _ _=>rfl) (fun row' hr'=>?_)
  simp only [X.at,hrow0,Option.bind_some] at hr'
  rw [hrw] at hr'
  simp only [Option.some.injEq] at hr'
  subst hr'
  exact hblk
 ·refine ⟨?_,?_,?_⟩
  ·intro p1 z1 p2 z2 b h1 hb1 h2 hb2
   have:=(h.inj _ _ _ _ _ _ _ h1 hb1 h2 hb2).2
   simpa using this
  ·intro q' z b hz hb
   exact h.own _ _ _ _ hz hb
  ·intro q' z b hz hb r' p z' hz' hb'
   by_cases e:r'=r
   ·subst e
    rw [setΦ_same,graft_eq] at hz'
    cases es:strip (q++[(i,j)]) p with
    | none =>
     rw [es] at hz'
     have:=(h.inj _ _ _ _ _ _ _ hz hb hz' hb').2
     rw [← this,strip_append] at es
     simp at es
    | some p'=>rw [es] at hz'; simp [noLay] at hz'
   ·rw [setΦ_ne _ _ e] at hz'
    exact e (h.inj _ _ _ _ _ _ _ hz hb hz' hb').1.symm
def X.hang (x:X) (k:Nat) (row:List T):Option X:=match lockOk x k [] with
 | false=>none
 | true=>some { x with roots:=(k,row) :: x.roots,env:=mapS (D.kill k []) x.env,dirt:=(k,[]) :: x.dirt }
theorem RelW.hang (h:RelW B s x a w) {k:Nat} {row:List T} {y:Value} {ψ:Lay} (hy:RepO w s.S (.vr row) y ψ) (ho:OwnOut B s w ψ) (hx:x.hang k row=some x') :
 RelW B (setΦ s k ψ) x' a w:=by
 unfold X.hang at hx
 cases hl:lockOk x k [] with
 | false=>rw [hl] at hx; cases hx
 | true =>
 rw [hl] at hx
 simp only [Option.some.injEq] at hx
 subst hx
 have hcase:∀ r p z,(setΦ s k ψ).Φ r p=some z→(r≠k∧s.Φ r p=some z)∨(r=k∧ψ p=some z):=by
  intro r p z hz
  by_cases e:r=k
  ·subst e; rw [setΦ_same] at hz; exact .inr ⟨rfl,hz⟩
  ·rw [setΦ_ne _ _ e] at hz; exact .inl ⟨e,hz⟩
 have hlk:∀ r d,(r,d)∈x.lock→r≠k:=by
  intro r d hm e
  subst e
  have:=lockOk_spec hl hm
  simp [pc,pre] at this
 refine { h with
  env:=?_
  roots:=?_
  rootn:=?_
  inj:=?_
  own:=?_
  locks:=?_
  dirt:=?_ }
 ·intro k' d hd
  simp only [look_mapS] at hd
  obtain ⟨d0,e,rfl⟩:=Option.map_eq_some_iff.mp hd
  obtain ⟨v,hv1,hv2⟩:=h.env k' d0 e
  refine ⟨v,hv1,hv2.kill (fun _ _ _=>rfl) (fun _ _ h=>h) rfl (fun r' p' hh=>?_)⟩
  exact congrFun (setΦ_ne _ _ (fun e=>hh ⟨e,rfl⟩)) p'
 ·intro r row' hr
  rw [look_cons] at hr
  by_cases e:r=k
  ·subst e
   rw [if_pos rfl] at hr
   simp only [Option.some.injEq] at hr
   subst hr
   exact ⟨y,by rw [setΦ_same]; exact hy⟩
  ·rw [if_neg e] at hr
   obtain ⟨y',hy'⟩:=h.roots r row' hr
   exact ⟨y',by rw [setΦ_ne _ _ e]; exact hy'⟩
 ·intro r hr
  rw [look_cons] at hr
  by_cases e:r=k
  ·rw [if_pos e] at hr; cases hr
  ·rw [if_neg e] at hr
   rw [setΦ_ne _ _ e]
   exact h.rootn r hr
 ·intro r1 p1 z1 r2 p2 z2 b h1 hb1 h2 hb2
  rcases hcase r1 p1 z1 h1 with ⟨_,h1⟩ | ⟨e1,h1⟩ <;> rcases hcase r2 p2 z2 h2 with ⟨_,h2⟩ | ⟨e2,h2⟩
  ·exact h.inj _ _ _ _ _ _ _ h1 hb1 h2 hb2
  ·exact absurd hb1 (ho.out _ _ _ h2 hb2 _ _ _ h1)
  ·exact absurd hb2 (ho.out _ _ _ h1 hb1 _ _ _ h2)
  ·exact ⟨e1.trans e2.symm,ho.inj _ _ _ _ _ h1 hb1 h2 hb2⟩
 ·intro r p z b hz hb
  rcases hcase r p z hz with ⟨_,hz⟩ | ⟨_,hz⟩
  ·exact h.own _ _ _ _ hz hb
  ·exact ho.own _ _ _ hz hb
 ·intro r d hd
  have hne:=hlk r d hd
  have h0:=h.locks r d hd
  refine ⟨?_,?_⟩
  ·rw [← h0.1]; simp only [X.at,look_cons,if_neg hne]
  ·rw [← h0.2,setΦ_ne _ _ hne]
 ·intro r hr p hp
  by_cases e:r=k
  ·subst e
   have:=hp [] List.mem_cons_self
   simp [pre] at this
  ·rw [setΦ_ne _ _ e]
   exact h.dirt r hr p (fun d hd=>hp d (List.mem_cons_of_mem _ hd))
end
end Go.V
