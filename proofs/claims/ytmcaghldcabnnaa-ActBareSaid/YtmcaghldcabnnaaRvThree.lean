/- The abstract state of a call, and how it stands to the machine's. -/
import Derived.Test.YtmcaghldcabnnaaRvTwo
namespace Go.V
open Go.RowKit

/-- What one cell of a temporary holds. -/
inductive C where
  | k (t : T)
  | own (r : Nat) (p : Path) (e : Ty)
  | sub (r : Nat) (p : Path) (lo n : Nat) (e : Ty)
  | pt (r : Nat) (p : Path) (i j sz : Nat)
  | rq (f : Fl) (cs : List T) (j : Nat)
  | ra (e : Ty) (xs : List (den e))
  | nil
  | fnp (f : FuncId) (caps : List (Nat × Path))
  | fn (a r : Ty) (g : den a → Option (den r))

inductive V where
  | c (x : C)
  | ag (cs : List C)

inductive D where
  | v (x : V)
  | tup (xs : List V)

structure X where
  env : List (Nat × D)
  roots : List (Nat × List T)
  lock : List (Nat × List Nat)
  pin : List Nat
  dirt : List (Nat × List Nat)

def look {α : Type} : List (Nat × α) → Nat → Option α
  | [], _ => none
  | e :: l, k => match Nat.beq e.1 k with
    | true => some e.2
    | false => look l k

theorem look_cons {α : Type} (l : List (Nat × α)) (k : Nat) (x : α) (j : Nat) : look ((k, x) :: l) j = if j = k then some x else look l j := by
  simp only [look]
  cases h : Nat.beq k j with
  | true => have := Nat.eq_of_beq_eq_true h; subst this; simp
  | false => have := Nat.ne_of_beq_eq_false h; rw [if_neg (fun e => this e.symm)]

def mapS {α β : Type} (f : α → β) : List (Nat × α) → List (Nat × β)
  | [] => []
  | e :: l => (e.1, f e.2) :: mapS f l

theorem look_mapS {α β : Type} (l : List (Nat × α)) (f : α → β) (j : Nat) : look (mapS f l) j = (look l j).map f := by
  induction l with
  | nil => rfl
  | cons e l ih =>
    simp only [mapS, look]
    cases Nat.beq e.1 j <;> simp [ih]

def mem : List Nat → Nat → Bool
  | [], _ => false
  | a :: l, k => match Nat.beq a k with
    | true => true
    | false => mem l k

theorem mem_iff (l : List Nat) (k : Nat) : mem l k = true ↔ k ∈ l := by
  induction l with
  | nil => simp [mem]
  | cons a l ih =>
    simp only [mem, List.mem_cons]
    cases h : Nat.beq a k with
    | true => have := Nat.eq_of_beq_eq_true h; simp [this]
    | false =>
      have hne := Nat.ne_of_beq_eq_false h
      rw [show (match false with | true => true | false => mem l k) = mem l k from rfl, ih]
      constructor
      · exact .inr
      · rintro (h | h)
        · exact absurd h.symm hne
        · exact h

/-- Entries of some names only. -/
def onlyS {α : Type} (g : Nat → Bool) : List (Nat × α) → List (Nat × α)
  | [] => []
  | e :: l => match g e.1 with
    | true => e :: onlyS g l
    | false => onlyS g l

theorem look_onlyS {α : Type} (l : List (Nat × α)) (g : Nat → Bool) (j : Nat) : look (onlyS g l) j = if g j then look l j else none := by
  induction l with
  | nil => simp [onlyS, look]
  | cons e l ih =>
    simp only [onlyS]
    cases h : g e.1 with
    | true =>
      simp only [look]
      cases hb : Nat.beq e.1 j with
      | true => have := Nat.eq_of_beq_eq_true hb; subst this; simp [h]
      | false => simpa using ih
    | false =>
      simp only [look]
      cases hb : Nat.beq e.1 j with
      | true => have := Nat.eq_of_beq_eq_true hb; subst this; simp only [h] at ih ⊢; simpa using ih
      | false => simpa using ih

def jp : Path → List Nat
  | [] => []
  | (_, j) :: p => j :: jp p

def zp : List Nat → Path
  | [] => []
  | j :: l => (0, j) :: zp l

theorem jp_zp (l : List Nat) : jp (zp l) = l := by induction l <;> simp_all [jp, zp]

/-- The first goes on as the second. -/
def pre : List Nat → List Nat → Bool
  | [], _ => true
  | _ :: _, [] => false
  | a :: l, b :: m => match Nat.beq a b with
    | true => pre l m
    | false => false

theorem pre_append (l m : List Nat) : pre l (l ++ m) = true := by
  induction l with
  | nil => rfl
  | cons a l ih => simp [pre, ih]

theorem jp_append (p q : Path) : jp (p ++ q) = jp p ++ jp q := by
  induction p with
  | nil => rfl
  | cons c p ih => obtain ⟨i, j⟩ := c; simp [jp, ih]

theorem pre_of_strip {p q q' : Path} (h : strip p q = some q') : pre (jp p) (jp q) = true := by
  rw [strip_some h, jp_append]; exact pre_append _ _

/-- One of both goes on as the other. -/
def pc (l m : List Nat) : Bool := match pre l m with
  | true => true
  | false => pre m l

def anyL {α : Type} (g : α → Bool) : List α → Bool
  | [] => false
  | a :: l => match g a with
    | true => true
    | false => anyL g l

theorem anyL_iff {α : Type} (g : α → Bool) (l : List α) : anyL g l = true ↔ ∃ a ∈ l, g a = true := by
  induction l with
  | nil => simp [anyL]
  | cons a l ih =>
    simp only [anyL]
    cases h : g a <;> simp [h, ih]

/-- What is read of the outside: shared blocks; where owned data lies; functions handed in. -/
structure Sit where
  S : Fl → Nat → Prop
  Φ : Nat → Lay
  F : (a r : Ty) → (den a → Option (den r)) → Value → Prop

/-- A cell of a temporary, in memory. -/
inductive RepC (w : World) (s : Sit) : C → Value → Prop where
  | k (t : T) (v : Value) (h : RepR w s.S t v) : RepC w s (.k t) v
  | own (r : Nat) (p : Path) (e : Ty) (v : Value) (h : s.Φ r p = some v) : RepC w s (.own r p e) v
  | sub (r : Nat) (p : Path) (lo n : Nat) (e : Ty) (a a' : Option Addr) (n0 cap cap' : Nat) (h : s.Φ r p = some (.slice a n0 cap)) (hle : lo + n ≤ n0) (hcap : n0 ≤ cap)
      (hcn : n ≤ cap') (hcc : lo + cap' ≤ cap)
      (h0 : lo = 0 → a' = a) (hn : cap' ≠ 0 → ∃ b off, a = some ⟨b, off, none⟩ ∧ a' = some ⟨b, off + lo * e.size, none⟩) : RepC w s (.sub r p lo n e) (.slice a' n cap')
  | nil (a : Option Addr) : RepC w s .nil (.slice a 0 0)
  | pt (r : Nat) (p : Path) (i j sz : Nat) (x : Value) (b : Nat) (h : s.Φ r p = some x) (hb : blkOf x = some b) : RepC w s (.pt r p i j sz) (.pointer (some ⟨b, offOf x + (i * sz + j), none⟩))
  | rq (f : Fl) (cs : List T) (j b off : Nat) (vs : Nat → Value) (hR : s.S f b)
      (hc : ∀ (j : Nat) t, cs[j]? = some t → w.cell? ⟨b, off + j, none⟩ = some (vs j))
      (hr : ∀ (j : Nat) t, cs[j]? = some t → RepR w s.S t (vs j)) : RepC w s (.rq f cs j) (.pointer (some ⟨b, off + j, none⟩))
  | ra (e : Ty) (xs : List (den e)) (v : Value) (h : RepR w s.S (.ga e xs) v) : RepC w s (.ra e xs) v
  | fnp (f : FuncId) (caps : List (Nat × Path)) (cap : Array Value) (hs : cap.size = caps.length)
      (hc : ∀ (m : Nat) r p, caps[m]? = some (r, p) → ∃ b, s.Φ r p = some (.pointer (some ⟨b, 0, none⟩)) ∧ cap[m]? = some (.pointer (some ⟨b, 0, none⟩))) :
      RepC w s (.fnp f caps) (.func (.func f) #[] cap)
  | fn (a r : Ty) (g : den a → Option (den r)) (v : Value) (h : s.F a r g v) (h1 : v.oneCell' = true) : RepC w s (.fn a r g) v

/-- The places that it speaks of. -/
def C.ats : C → List (Nat × Path)
  | .own r p _ => [(r, p)]
  | .sub r p _ _ _ => [(r, p)]
  | .pt r p _ _ _ => [(r, p)]
  | .fnp _ caps => caps
  | _ => []

theorem RepC.mono {w w' : World} {s s' : Sit} {c : C} {v : Value} (h : RepC w s c v)
    (hw : ∀ f b, s.S f b → w'.heap[b]? = w.heap[b]?) (hS : ∀ f b, s.S f b → s'.S f b) (hF : s'.F = s.F) (hΦ : ∀ rp ∈ c.ats, s'.Φ rp.1 rp.2 = s.Φ rp.1 rp.2) : RepC w' s' c v := by
  cases h with
  | k t v h => exact .k t v (h.mono hw hS)
  | own r p e v h => exact .own r p e v (by rw [hΦ (r, p) (by simp [C.ats])]; exact h)
  | sub r p lo n e a a' n0 cap cap' h hle hcap hcn hcc h0 hn => exact .sub r p lo n e a a' n0 cap cap' (by rw [hΦ (r, p) (by simp [C.ats])]; exact h) hle hcap hcn hcc h0 hn
  | nil a => exact .nil a
  | pt r p i j sz x b h hb => exact .pt r p i j sz x b (by rw [hΦ (r, p) (by simp [C.ats])]; exact h) hb
  | rq f cs j b off vs hRb hc hr =>
    exact .rq f cs j b off vs (hS _ _ hRb) (fun j t e => by rw [← hc j t e]; exact World.cell?_of_block (w := w) (hw _ b hRb)) (fun j t e => (hr j t e).mono hw hS)
  | ra e xs v h => exact .ra e xs v (h.mono hw hS)
  | fnp f caps cap hs hc =>
    refine .fnp f caps cap hs (fun m r p e => ?_)
    obtain ⟨b, h1, h2⟩ := hc m r p e
    exact ⟨b, by rw [hΦ (r, p) (by simp only [C.ats]; exact List.mem_of_getElem? e)]; exact h1, h2⟩
  | fn a r g v h h1 => exact .fn a r g v (by rw [hF]; exact h) h1

inductive RepV (w : World) (s : Sit) : V → Value → Prop where
  | c (x : C) (v : Value) (h : RepC w s x v) : RepV w s (.c x) v
  | ag (cs : List C) (arr : Array Value) (hs : arr.size = cs.length) (h : ∀ (j : Nat) c, cs[j]? = some c → ∃ v, arr[j]? = some v ∧ RepC w s c v) : RepV w s (.ag cs) (.agg arr)

inductive RepD (w : World) (s : Sit) : D → Value → Prop where
  | v (x : V) (v : Value) (h : RepV w s x v) : RepD w s (.v x) v
  | tup (xs : List V) (arr : Array Value) (hs : arr.size = xs.length) (h : ∀ (j : Nat) x, xs[j]? = some x → ∃ v, arr[j]? = some v ∧ RepV w s x v) : RepD w s (.tup xs) (.tuple arr)

def V.ats : V → List (Nat × Path)
  | .c x => x.ats
  | .ag cs => cs.flatMap C.ats
def D.ats : D → List (Nat × Path)
  | .v x => x.ats
  | .tup xs => xs.flatMap V.ats

/-- One cell into others: what holds of cells holds of values. -/
theorem RepV.conv {w w' : World} {s s' : Sit} {g : C → C} {x : V} {v : Value} (h : RepV w s x v) (hg : ∀ c ∈ (match x with | .c y => [y] | .ag cs => cs), ∀ v, RepC w s c v → RepC w' s' (g c) v) :
    RepV w' s' (match x with | .c y => .c (g y) | .ag cs => .ag (cs.map g)) v := by
  cases h with
  | c x v h => exact .c _ v (hg x (by simp) v h)
  | ag cs arr hs h =>
    refine .ag _ arr (by simp [hs]) (fun j c e => ?_)
    rw [List.getElem?_map] at e
    cases e1 : cs[j]? with
    | none => simp [e1] at e
    | some c0 =>
      simp only [e1, Option.map_some, Option.some.injEq] at e
      subst e
      obtain ⟨v, h1, h2⟩ := h j c0 e1
      exact ⟨v, h1, hg c0 (List.mem_of_getElem? e1) v h2⟩

theorem RepV.mono {w w' : World} {s s' : Sit} {c : V} {v : Value} (h : RepV w s c v)
    (hw : ∀ f b, s.S f b → w'.heap[b]? = w.heap[b]?) (hS : ∀ f b, s.S f b → s'.S f b) (hF : s'.F = s.F) (hΦ : ∀ rp ∈ c.ats, s'.Φ rp.1 rp.2 = s.Φ rp.1 rp.2) : RepV w' s' c v := by
  cases h with
  | c x v h => exact .c x v (h.mono hw hS hF hΦ)
  | ag cs arr hs h =>
    refine .ag cs arr hs (fun j c e => ?_)
    obtain ⟨v, h1, h2⟩ := h j c e
    exact ⟨v, h1, h2.mono hw hS hF (fun rp hrp => hΦ rp (by simp only [V.ats, List.mem_flatMap]; exact ⟨c, List.mem_of_getElem? e, hrp⟩))⟩

theorem RepD.mono {w w' : World} {s s' : Sit} {c : D} {v : Value} (h : RepD w s c v)
    (hw : ∀ f b, s.S f b → w'.heap[b]? = w.heap[b]?) (hS : ∀ f b, s.S f b → s'.S f b) (hF : s'.F = s.F) (hΦ : ∀ rp ∈ c.ats, s'.Φ rp.1 rp.2 = s.Φ rp.1 rp.2) : RepD w' s' c v := by
  cases h with
  | v x v h => exact .v x v (h.mono hw hS hF hΦ)
  | tup cs arr hs h =>
    refine .tup cs arr hs (fun j c e => ?_)
    obtain ⟨v, h1, h2⟩ := h j c e
    exact ⟨v, h1, h2.mono hw hS hF (fun rp hrp => hΦ rp (by simp only [D.ats, List.mem_flatMap]; exact ⟨c, List.mem_of_getElem? e, hrp⟩))⟩

/-! ### what is lost -/
def hits (r : Nat) (d : List Nat) (c : C) : Bool := anyL (fun rp => match Nat.beq rp.1 r with | true => pre d (jp rp.2) | false => false) c.ats

def C.kill (r : Nat) (d : List Nat) (c : C) : C := match hits r d c with
  | true => .k .dead
  | false => c
def mapL {α β : Type} (g : α → β) : List α → List β
  | [] => []
  | a :: l => g a :: mapL g l
theorem mapL_eq {α β : Type} (g : α → β) (l : List α) : mapL g l = l.map g := by induction l <;> simp_all [mapL]
def V.kill (r : Nat) (d : List Nat) : V → V
  | .c x => .c (x.kill r d)
  | .ag cs => .ag (mapL (C.kill r d) cs)
def D.kill (r : Nat) (d : List Nat) : D → D
  | .v x => .v (x.kill r d)
  | .tup xs => .tup (mapL (V.kill r d) xs)

section kills
variable {w w' : World} {s s' : Sit} {r : Nat} {d : List Nat}
theorem RepC.kill {c : C} {v : Value} (h : RepC w s c v) (hw : ∀ f b, s.S f b → w'.heap[b]? = w.heap[b]?) (hS : ∀ f b, s.S f b → s'.S f b) (hF : s'.F = s.F)
    (hΦ : ∀ r' p', ¬ (r' = r ∧ pre d (jp p') = true) → s'.Φ r' p' = s.Φ r' p') : RepC w' s' (c.kill r d) v := by
  unfold C.kill
  cases hh : hits r d c with
  | true => exact .k _ _ (.dead v)
  | false =>
    refine h.mono hw hS hF (fun rp hrp => hΦ rp.1 rp.2 (fun e => ?_))
    have : hits r d c = true := by
      unfold hits
      rw [anyL_iff]
      refine ⟨rp, hrp, ?_⟩
      rw [e.1]
      simp [e.2]
    rw [hh] at this; cases this
theorem RepV.kill {c : V} {v : Value} (h : RepV w s c v) (hw : ∀ f b, s.S f b → w'.heap[b]? = w.heap[b]?) (hS : ∀ f b, s.S f b → s'.S f b) (hF : s'.F = s.F)
    (hΦ : ∀ r' p', ¬ (r' = r ∧ pre d (jp p') = true) → s'.Φ r' p' = s.Φ r' p') : RepV w' s' (c.kill r d) v := by
  have := h.conv (g := C.kill r d) (w' := w') (s' := s') (fun c _ v hc => hc.kill hw hS hF hΦ)
  cases c with
  | c x => exact this
  | ag cs => simpa only [V.kill, mapL_eq] using this
theorem RepD.kill {c : D} {v : Value} (h : RepD w s c v) (hw : ∀ f b, s.S f b → w'.heap[b]? = w.heap[b]?) (hS : ∀ f b, s.S f b → s'.S f b) (hF : s'.F = s.F)
    (hΦ : ∀ r' p', ¬ (r' = r ∧ pre d (jp p') = true) → s'.Φ r' p' = s.Φ r' p') : RepD w' s' (c.kill r d) v := by
  cases h with
  | v x v h => exact .v _ v (h.kill hw hS hF hΦ)
  | tup cs arr hs h =>
    refine .tup _ arr (by simp [hs, mapL_eq]) (fun j c e => ?_)
    rw [mapL_eq, List.getElem?_map] at e
    cases e1 : cs[j]? with
    | none => simp [e1] at e
    | some c0 =>
      simp only [e1, Option.map_some, Option.some.injEq] at e
      subst e
      obtain ⟨v, h1, h2⟩ := h j c0 e1
      exact ⟨v, h1, h2.kill hw hS hF hΦ⟩
end kills

/-! ### the state -/
/-- A frame: where its temporaries begin, and how many they are. -/
structure Fr where
  off : Nat
  n : Nat

def inFr (f : Fr) (k : Nat) : Bool := and (Nat.ble f.off k) (Nat.blt k (f.off + f.n))

theorem inFr_iff {f : Fr} {k : Nat} : inFr f k = true ↔ f.off ≤ k ∧ k < f.off + f.n := by simp [inFr, Nat.blt_eq]

/-- What a call was handed. -/
structure Base where
  nt : Fr
  out : Nat → Option Value
  w0 : World
  O0 : Nat → Prop
  R0 : Nat → Prop
  B0 : Nat → Prop
  G : List (Nat × T)
  F : (a r : Ty) → (den a → Option (den r)) → Value → Prop
  muts : List Nat
  Φ0 : Nat → Lay
  LC : Nat → List Nat → Option T
  LΦ : Nat → List Nat → Lay
  PV : Nat → Value

def X.at (x : X) (r : Nat) (p : Path) : Option T := (look x.roots r).bind fun row => getT p (.vr row)

/-- A temporary's value: of the frame, or of one further out. -/
def Base.tv (B : Base) (a : Act) (k : Nat) : Option Value := if k < B.nt.off then B.out k else a.tmps[k - B.nt.off]?

def _root_.Go.Act.gput (a : Act) (B : Base) (k : Nat) (v : Value) : Act := a.put (some (k - B.nt.off)) v

theorem gput_local {B : Base} {a : Act} {k : Nat} {v : Value} : a.gput B (B.nt.off + k) v = a.put (some k) v := by simp [Act.gput]

theorem tv_local {B : Base} {a : Act} {k : Nat} : B.tv a (B.nt.off + k) = a.tmps[k]? := by rw [Base.tv, if_neg (by omega), Nat.add_sub_cancel_left]

theorem tv_zero {B : Base} {a : Act} {k : Nat} (h : B.nt.off = 0) : B.tv a k = a.tmps[k]? := by rw [Base.tv, h, if_neg (by omega), Nat.sub_zero]

structure RelW (B : Base) (s : Sit) (x : X) (a : Act) (w : World) : Prop where
  defers : a.defers = []
  size : a.tmps.size = B.nt.n
  env : ∀ k d, look x.env k = some d → ∃ v, B.tv a k = some v ∧ RepD w s d v
  roots : ∀ r row, look x.roots r = some row → ∃ y, RepO w s.S (.vr row) y (s.Φ r)
  rootn : ∀ r, look x.roots r = none → s.Φ r = noLay
  inj : ∀ r p y r' p' y' b, s.Φ r p = some y → blkOf y = some b → s.Φ r' p' = some y' → blkOf y' = some b → r = r' ∧ p = p'
  own : ∀ r p y b, s.Φ r p = some y → blkOf y = some b → (∀ f, ¬ s.S f b) ∧ b < w.heap.size ∧ (B.O0 b ∨ B.w0.heap.size ≤ b)
  slt : ∀ f b, s.S f b → b < w.heap.size
  sown : ∀ b, ¬ s.S .own b
  sro : ∀ b, B.R0 b → s.S .ro b
  srn : ∀ b, s.S .ro b → B.R0 b ∨ B.O0 b ∨ B.w0.heap.size ≤ b
  sbo : ∀ b, B.B0 b → s.S .bo b
  srb : ∀ b, s.S .ro b → s.S .bo b
  sbn : ∀ b, s.S .bo b → B.B0 b ∨ s.S .ro b
  F : s.F = B.F
  os : w.os = B.w0.os
  tape : w.tape = B.w0.tape
  output : w.output = B.w0.output
  grow : B.w0.heap.size ≤ w.heap.size
  kept : ∀ b, b < B.w0.heap.size → ¬ B.O0 b → w.heap[b]? = B.w0.heap[b]?
  glob : ∀ g t, look B.G g = some t → RepR w s.S t (.pointer (some ⟨g, 0, none⟩))
  pins : ∀ k, k ∈ x.pin → B.tv a k = some (B.PV k)
  locks : ∀ r d, (r, d) ∈ x.lock → x.at r (zp d) = B.LC r d ∧ (s.Φ r).under (zp d) = B.LΦ r d
  dirt : ∀ r, r ∈ B.muts → ∀ p, (∀ d, (r, d) ∈ x.dirt → pre d (jp p) = false) → s.Φ r p = B.Φ0 r p

def Rel (B : Base) (x : X) (a : Act) (w : World) : Prop := ∃ s, RelW B s x a w

theorem RelW.injR {B : Base} {s : Sit} {x : X} {a : Act} {w : World} (h : RelW B s x a w) (r : Nat) : Inj (s.Φ r) :=
  fun p y p' y' b h1 h2 h3 h4 => (h.inj r p y r p' y' b h1 h2 h3 h4).2

theorem tv_put_same {B : Base} {a : Act} {k : Nat} {v : Value} (hs : a.tmps.size = B.nt.n) (hk : inFr B.nt k = true) : B.tv (a.gput B k v) k = some v := by
  have := inFr_iff.1 hk
  rw [Base.tv, if_neg (by omega)]
  simp only [Act.gput, Act.put]
  rw [Array.getElem?_setIfInBounds_self_of_lt (by omega)]

theorem tv_put_ne {B : Base} {a : Act} {k j : Nat} {v : Value} (hk : inFr B.nt k = true) (h : j ≠ k) : B.tv (a.gput B k v) j = B.tv a j := by
  have := inFr_iff.1 hk
  unfold Base.tv
  split
  · rfl
  · simp only [Act.gput, Act.put]
    rw [Array.getElem?_setIfInBounds_ne (by omega)]

/-- A temporary is given a value. -/
theorem RelW.put {B : Base} {s : Sit} {x : X} {a : Act} {w : World} (h : RelW B s x a w) {k : Nat} {d : D} {v : Value}
    (hk : inFr B.nt k = true) (hp : k ∉ x.pin) (hv : RepD w s d v) : RelW B s { x with env := (k, d) :: x.env } (a.gput B k v) w :=
  { h with
    size := by simp [Act.gput, Act.put, h.size]
    env := by
      intro j d' hj
      rw [look_cons] at hj
      by_cases e : j = k
      · subst e
        simp only [if_true, Option.some.injEq] at hj
        subst hj
        exact ⟨v, tv_put_same h.size hk, hv⟩
      · rw [if_neg e] at hj
        obtain ⟨v', h1, h2⟩ := h.env j d' hj
        exact ⟨v', by rw [tv_put_ne hk e]; exact h1, h2⟩
    pins := fun j hj => by
      rw [tv_put_ne hk (fun e' => hp (by rw [← e']; exact hj))]
      exact h.pins j hj }

/-- Another world, of which nothing that was there has turned. -/
theorem RelW.world {B : Base} {s : Sit} {x : X} {a : Act} {w w' : World} (h : RelW B s x a w) (hb : ∀ b, b < w.heap.size → w'.heap[b]? = w.heap[b]?) (hs : w.heap.size ≤ w'.heap.size)
    (h1 : w'.os = w.os) (h2 : w'.tape = w.tape) (h3 : w'.output = w.output) : RelW B s x a w' :=
  have hS : ∀ f b, s.S f b → w'.heap[b]? = w.heap[b]? := fun f b hR => hb b (h.slt f b hR)
  { h with
    env := fun k d hd => by
      obtain ⟨v, e1, e2⟩ := h.env k d hd
      exact ⟨v, e1, e2.mono hS (fun _ _ h => h) rfl (fun _ _ => rfl)⟩
    roots := fun r t hr => by
      obtain ⟨y, hy⟩ := h.roots r t hr
      exact ⟨y, hy.mono hS (fun _ _ h => h) (fun p z b hz hbz => hb b (h.own _ _ _ _ hz hbz).2.1)⟩
    own := fun r p y b e1 e2 => by
      have := h.own r p y b e1 e2
      exact ⟨this.1, by omega, this.2.2⟩
    slt := fun f b hR => by have := h.slt f b hR; omega
    os := h1.trans h.os
    tape := h2.trans h.tape
    output := h3.trans h.output
    grow := by have := h.grow; omega
    kept := fun b e1 e2 => by
      rw [hb b (by have := h.grow; omega)]
      exact h.kept b e1 e2
    glob := fun g t hg => (h.glob g t hg).mono hS (fun _ _ h => h) }

/-- Owned data that hangs nowhere yet. -/
structure OwnOut (B : Base) (s : Sit) (w : World) (ψ : Lay) : Prop where
  inj : Inj ψ
  own : ∀ q y b, ψ q = some y → blkOf y = some b → (∀ f, ¬ s.S f b) ∧ b < w.heap.size ∧ (B.O0 b ∨ B.w0.heap.size ≤ b)
  out : ∀ q y b, ψ q = some y → blkOf y = some b → ∀ r p z, s.Φ r p = some z → blkOf z ≠ some b

theorem OwnOut.none (B : Base) (s : Sit) (w : World) : OwnOut B s w noLay :=
  ⟨fun _ _ _ _ _ h => by simp [noLay] at h, fun _ _ _ h => by simp [noLay] at h, fun _ _ _ h => by simp [noLay] at h⟩

theorem OwnOut.sub {B : Base} {s s' : Sit} {w : World} {ψ : Lay} (h : OwnOut B s w ψ) (hS : s'.S = s.S) (hs : ∀ r p z, s'.Φ r p = some z → s.Φ r p = some z) : OwnOut B s' w ψ :=
  ⟨h.inj, fun q y b h1 h2 => by rw [hS]; exact h.own q y b h1 h2, fun q y b h1 h2 r p z h3 => h.out q y b h1 h2 r p z (hs r p z h3)⟩

def setΦ (s : Sit) (r : Nat) (φ : Lay) : Sit := { s with Φ := fun r' => if r' = r then φ else s.Φ r' }
theorem setΦ_S (s : Sit) (r : Nat) (φ : Lay) : (setΦ s r φ).S = s.S := rfl
theorem setΦ_F (s : Sit) (r : Nat) (φ : Lay) : (setΦ s r φ).F = s.F := rfl
theorem setΦ_same (s : Sit) (r : Nat) (φ : Lay) : (setΦ s r φ).Φ r = φ := by simp [setΦ]
theorem setΦ_ne (s : Sit) {r r' : Nat} (φ : Lay) (h : r' ≠ r) : (setΦ s r φ).Φ r' = s.Φ r' := by simp [setΦ, h]

/-- The same streams, as many blocks. -/
structure Same (w w' : World) : Prop where
  os : w'.os = w.os
  tape : w'.tape = w.tape
  output : w'.output = w.output
  size : w'.heap.size = w.heap.size

theorem Same.refl (w : World) : Same w w := ⟨rfl, rfl, rfl, rfl⟩

end Go.V
