/- Typed data as trees, and how a tree lies in memory. -/
import Derived.Tactics
import Derived.Orders
import Derived.Below
namespace Go.V
open Go.RowKit

/-! ### types and what they hold -/
inductive Ty where
  | int (k : IntKind)
  | bool
  | str
  | sl (e : Ty)
  | rsl (e : Ty)
  | ptr (e : Ty)
  | pair (a b : Ty)
  | unit
  | nat
  | sum (a b : Ty)
  | fn (a r : Ty)

def den : Ty → Type
  | .int _ => Int
  | .bool => Bool
  | .str => List UInt8
  | .sl e => List (den e)
  | .rsl e => List (den e)
  | .ptr e => den e
  | .pair a b => den a × den b
  | .unit => Unit
  | .nat => Nat
  | .sum a b => den a ⊕ den b
  | .fn a r => den a → Option (den r)

def kindEq : IntKind → IntKind → Bool
  | .i8, .i8 | .i16, .i16 | .i32, .i32 | .i64, .i64 | .u8, .u8 | .u16, .u16 | .u32, .u32 | .u64, .u64 => true
  | _, _ => false

theorem kindEq_eq {a b : IntKind} (h : kindEq a b = true) : a = b := by
  cases a <;> cases b <;> first | rfl | simp [kindEq] at h

def Ty.beq : Ty → Ty → Bool
  | .int k, .int k' => kindEq k k'
  | .bool, .bool => true
  | .str, .str => true
  | .sl e, .sl e' => e.beq e'
  | .rsl e, .rsl e' => e.beq e'
  | .ptr e, .ptr e' => e.beq e'
  | .pair a b, .pair a' b' => and (a.beq a') (b.beq b')
  | .unit, .unit => true
  | .nat, .nat => true
  | .sum a b, .sum a' b' => and (a.beq a') (b.beq b')
  | .fn a b, .fn a' b' => and (a.beq a') (b.beq b')
  | _, _ => false

theorem Ty.beq_eq : ∀ {a b : Ty}, a.beq b = true → a = b := by
  intro a
  induction a with
  | int k => intro b h; cases b <;> simp [Ty.beq] at h; rw [kindEq_eq h]
  | bool => intro b h; cases b <;> simp [Ty.beq] at h; rfl
  | str => intro b h; cases b <;> simp [Ty.beq] at h; rfl
  | unit => intro b h; cases b <;> simp [Ty.beq] at h; rfl
  | nat => intro b h; cases b <;> simp [Ty.beq] at h; rfl
  | sl e ih => intro b h; cases b <;> simp [Ty.beq] at h; rw [ih h]
  | rsl e ih => intro b h; cases b <;> simp [Ty.beq] at h; rw [ih h]
  | ptr e ih => intro b h; cases b <;> simp [Ty.beq] at h; rw [ih h]
  | pair a b ih1 ih2 => intro c h; cases c <;> simp [Ty.beq] at h; rw [ih1 h.1, ih2 h.2]
  | sum a b ih1 ih2 => intro c h; cases c <;> simp [Ty.beq] at h; rw [ih1 h.1, ih2 h.2]
  | fn a b ih1 ih2 => intro c h; cases c <;> simp [Ty.beq] at h; rw [ih1 h.1, ih2 h.2]

/-- Data of one type as data of another one that is the same. -/
def cast? (e e' : Ty) (d : den e) : Option (den e') := if h : e.beq e' = true then some (Ty.beq_eq h ▸ d) else none

theorem cast?_some {e e' : Ty} {d : den e} {d' : den e'} (h : cast? e e' d = some d') : ∃ h : e = e', h ▸ d = d' := by
  unfold cast? at h
  split at h
  · rename_i hb
    have := Ty.beq_eq hb
    subst this
    exact ⟨rfl, by simpa using h⟩
  · simp at h

/-- How many cells data of a type takes. -/
def Ty.size : Ty → Nat
  | .int _ | .bool | .str | .sl _ | .rsl _ | .ptr _ => 1
  | .pair a b => a.size + b.size
  | _ => 0

inductive Fl where
  | own | ro | bo
  deriving DecidableEq

def flEq : Fl → Fl → Bool
  | .own, .own | .ro, .ro | .bo, .bo => true
  | _, _ => false
theorem flEq_eq {a b : Fl} (h : flEq a b = true) : a = b := by cases a <;> cases b <;> first | rfl | simp [flEq] at h

/-- What a cell holds. -/
inductive T where
  | v (x : Value)
  | sl (f : Fl) (e : Ty) (xs : List (den e))
  | pt (f : Fl) (e : Ty) (d : den e)
  | pp (f : Fl) (cs : List T)
  | ga (e : Ty) (xs : List (den e))
  | vr (cs : List T)
  | dead
  | slo (e : Ty) (xs : List (den e)) (i : Nat) (cs : List T)
  | po (e : Ty) (cs : List T)

instance : Inhabited T := ⟨.dead⟩

def nth {α : Type} : List α → Nat → Option α
  | [], _ => none
  | x :: _, 0 => some x
  | _ :: xs, n + 1 => nth xs n

theorem nth_eq {α : Type} : ∀ (l : List α) (n : Nat), nth l n = l[n]?
  | [], n => by simp [nth]
  | x :: xs, 0 => by simp [nth]
  | x :: xs, n + 1 => by simp [nth, nth_eq xs n]

def setN {α : Type} : List α → Nat → α → List α
  | [], _, _ => []
  | _ :: xs, 0, y => y :: xs
  | x :: xs, n + 1, y => x :: setN xs n y

theorem setN_eq {α : Type} : ∀ (l : List α) (n : Nat) (y : α), setN l n y = l.set n y
  | [], n, y => by simp [setN]
  | x :: xs, 0, y => by simp [setN]
  | x :: xs, n + 1, y => by simp [setN, setN_eq xs n y]

def app {α : Type} : List α → List α → List α
  | [], ys => ys
  | x :: xs, ys => x :: app xs ys
theorem app_eq {α : Type} : ∀ (l m : List α), app l m = l ++ m
  | [], m => rfl
  | x :: xs, m => by simp [app, app_eq xs m]

/-- The cells of typed data. -/
def cells (f : Fl) : (e : Ty) → den e → List T
  | .int k, n => [.v (.int k n)]
  | .bool, b => [.v (.bool b)]
  | .str, l => [.v (.string ⟨⟨l⟩⟩)]
  | .sl e, xs => [.sl f e xs]
  | .rsl e, xs => [.sl .ro e xs]
  | .ptr e, d => [.pt f e d]
  | .pair a b, d => app (cells f a d.1) (cells f b d.2)
  | .unit, _ => []
  | .nat, _ => []
  | .sum _ _, _ => []
  | .fn _ _, _ => []

theorem length_cells (f : Fl) : ∀ (e : Ty) (d : den e), (cells f e d).length = e.size
  | .int _, _ | .bool, _ | .str, _ | .sl _, _ | .rsl _, _ | .ptr _, _ | .unit, _ | .nat, _ | .sum _ _, _ | .fn _ _, _ => rfl
  | .pair a b, d => by simp [cells, app_eq, Ty.size, length_cells f a d.1, length_cells f b d.2]

/-- Typed data out of cells: what it is, and the cells that are left. -/
def pack (f : Fl) : (e : Ty) → List T → Option (den e × List T)
  | .int k => fun ts => match ts with
    | .v (.int k' n) :: ts => if kindEq k' k = true then some (n, ts) else none
    | _ => none
  | .bool => fun ts => match ts with
    | .v (.bool b) :: ts => some (b, ts)
    | _ => none
  | .str => fun ts => match ts with
    | .v (.string s) :: ts => some (s.data.toList, ts)
    | _ => none
  | .sl e => fun ts => match ts with
    | .sl f' e' xs :: ts => if flEq f' f = true then (cast? (.sl e') (.sl e) xs).map fun xs => (xs, ts) else none
    | _ => none
  | .rsl e => fun ts => match ts with
    | .sl f' e' xs :: ts => if flEq f' .ro = true then (cast? (.sl e') (.sl e) xs).map fun xs => (xs, ts) else none
    | _ => none
  | .ptr e => fun ts => match ts with
    | .pt f' e' d :: ts => if flEq f' f = true then (cast? e' e d).map fun d => (d, ts) else none
    | _ => none
  | .pair a b => fun ts => (pack f a ts).bind fun x => (pack f b x.2).map fun y => ((x.1, y.1), y.2)
  | .unit => fun ts => some ((), ts)
  | .nat => fun _ => none
  | .sum _ _ => fun _ => none
  | .fn _ _ => fun _ => none

theorem pack_some (f : Fl) : ∀ (e : Ty) {ts ts' : List T} {d : den e}, pack f e ts = some (d, ts') → ts = cells f e d ++ ts' := by
  intro e
  induction e with
  | int k =>
    intro ts ts' d h
    simp only [pack] at h
    split at h
    · split at h
      · rename_i hk
        cases h
        rw [kindEq_eq hk]; rfl
      · cases h
    · cases h
  | bool =>
    intro ts ts' d h
    simp only [pack] at h
    split at h
    · cases h; rfl
    · cases h
  | str =>
    intro ts ts' d h
    simp only [pack] at h
    split at h
    · cases h; rfl
    · cases h
  | sl e ih =>
    intro ts ts' d h
    simp only [pack] at h
    split at h
    · split at h
      · rename_i hf
        rw [flEq_eq hf]
        obtain ⟨y, h1, h2⟩ := Option.map_eq_some_iff.mp h
        obtain ⟨he, h3⟩ := cast?_some h1
        cases he
        cases h2
        subst h3
        rfl
      · cases h
    · cases h
  | rsl e ih =>
    intro ts ts' d h
    simp only [pack] at h
    split at h
    · split at h
      · rename_i hf
        rw [flEq_eq hf]
        obtain ⟨y, h1, h2⟩ := Option.map_eq_some_iff.mp h
        obtain ⟨he, h3⟩ := cast?_some h1
        cases he
        cases h2
        subst h3
        rfl
      · cases h
    · cases h
  | ptr e ih =>
    intro ts ts' d h
    simp only [pack] at h
    split at h
    · split at h
      · rename_i hf
        rw [flEq_eq hf]
        obtain ⟨y, h1, h2⟩ := Option.map_eq_some_iff.mp h
        obtain ⟨he, h3⟩ := cast?_some h1
        cases he
        cases h2
        subst h3
        rfl
      · cases h
    · cases h
  | pair a b iha ihb =>
    intro ts ts' d h
    obtain ⟨⟨x, r⟩, h1, h⟩ := Option.bind_eq_some_iff.mp h
    obtain ⟨⟨y, s⟩, h2, h3⟩ := Option.map_eq_some_iff.mp h
    cases h3
    rw [iha h1]
    have h4 : r = cells f b y ++ s := ihb h2
    rw [h4]
    simp [cells, app_eq]
  | unit => intro ts ts' d h; cases h; rfl
  | nat => intro ts ts' d h; cases h
  | sum a b => intro ts ts' d h; cases h
  | fn a b => intro ts ts' d h; cases h

/-- All the cells. -/
def packAll (f : Fl) (e : Ty) (ts : List T) : Option (den e) := (pack f e ts).bind fun x => match x.2 with
  | [] => some x.1
  | _ => none

theorem packAll_some {f : Fl} {e : Ty} {ts : List T} {d : den e} (h : packAll f e ts = some d) : ts = cells f e d := by
  unfold packAll at h
  obtain ⟨⟨x, r⟩, h1, h2⟩ := Option.bind_eq_some_iff.mp h
  cases r with
  | nil => cases h2; simpa using pack_some f e h1
  | cons => cases h2

def rows (f : Fl) (e : Ty) (xs : List (den e)) : List (List T) := xs.map (cells f e)

theorem length_rows {f : Fl} {e : Ty} {xs : List (den e)} : (rows f e xs).length = xs.length := by simp [rows]
theorem rows_size {f : Fl} {e : Ty} {xs : List (den e)} : ∀ r ∈ rows f e xs, r.length = e.size := by
  intro r hr
  obtain ⟨x, _, rfl⟩ := List.mem_map.mp hr
  exact length_cells f e x

abbrev Path := List (Nat × Nat)
abbrev Lay := Path → Option Value
def noLay : Lay := fun _ => none
def Lay.at (φ : Lay) (i j : Nat) : Lay := fun p => φ ((i, j) :: p)
def Lay.under (φ : Lay) (p : Path) : Lay := fun q => φ (p ++ q)

def cellOf {α : Type} (es : List (List α)) (i j : Nat) : Option α := (es[i]?).bind (·[j]?)

theorem cellOf_lt {es : List (List T)} {i j sz : Nat} {t : T} (hl : ∀ e ∈ es, e.length = sz) (h : cellOf es i j = some t) : i < es.length ∧ j < sz := by
  simp only [cellOf] at h
  cases e : es[i]? with
  | none => simp [e] at h
  | some x =>
    simp only [e, Option.bind_some] at h
    have := hl x (List.mem_of_getElem? e)
    exact ⟨(List.getElem?_eq_some_iff.mp e).1, by have := (List.getElem?_eq_some_iff.mp h).1; omega⟩

theorem cellOf_rows {f : Fl} {e : Ty} {xs : List (den e)} {i j : Nat} : cellOf (rows f e xs) i j = (xs[i]?).bind fun x => nth (cells f e x) j := by
  simp only [cellOf, rows, List.getElem?_map]
  cases xs[i]? <;> simp [nth_eq]

theorem rows_lt {f : Fl} {e : Ty} {xs : List (den e)} {i j : Nat} {t : T} (h : cellOf (rows f e xs) i j = some t) : i < xs.length ∧ j < e.size := by
  have := cellOf_lt rows_size h
  rw [length_rows] at this; exact this

/-- The cells of a slice of which one row is open. -/
def cellX (e : Ty) (xs : List (den e)) (i : Nat) (cs : List T) (k l : Nat) : Option T := if k < xs.length ∧ l < e.size then (if k = i then cs[l]? else cellOf (rows .own e xs) k l) else none

theorem cellX_lt {e : Ty} {xs : List (den e)} {i : Nat} {cs : List T} {k l : Nat} {t : T} (h : cellX e xs i cs k l = some t) : k < xs.length ∧ l < e.size := by
  unfold cellX at h
  split at h
  · assumption
  · cases h

/-- Not owned. -/
def T.isSh : T → Bool
  | .sl .own _ _ => false
  | .pt .own _ _ => false
  | .pp .own _ => false
  | .vr _ => false
  | .slo _ _ _ _ => false
  | .po _ _ => false
  | _ => true

/-- The cells of an owned box. -/
def T.box? : T → Option (List T)
  | .pp .own cs => some cs
  | .po _ cs => some cs
  | .pt .own e d => some (cells .own e d)
  | _ => none

/-- The cells of a shared box. -/
def T.shBox? : T → Option (Fl × List T)
  | .pp .own _ => none
  | .pt .own _ _ => none
  | .pp f cs => some (f, cs)
  | .pt f e d => some (f, cells f e d)
  | _ => none

def blkOf : Value → Option Nat
  | .slice (some a) _ (_ + 1) => some a.block
  | .pointer (some a) => some a.block
  | _ => none

/-- Where in its block the data begins. -/
def offOf : Value → Nat
  | .slice (some a) _ _ => a.off
  | _ => 0

/-- Shared: what lies in blocks of S. -/
inductive RepR (w : World) (S : Fl → Nat → Prop) : T → Value → Prop where
  | v (x : Value) (h1 : x.oneCell' = true) : RepR w S (.v x) x
  | dead (x : Value) : RepR w S .dead x
  | nil (f : Fl) (e : Ty) (a : Option Addr) (c : Nat) : RepR w S (.sl f e []) (.slice a 0 c)
  | sl (f : Fl) (e : Ty) (xs : List (den e)) (b off cap : Nat) (vs : Nat → Nat → Value) (hR : S f b) (hcap : xs.length ≤ cap)
      (hc : ∀ i j t, cellOf (rows f e xs) i j = some t → w.cell? ⟨b, off + i * e.size + j, none⟩ = some (vs i j))
      (hr : ∀ i j t, cellOf (rows f e xs) i j = some t → RepR w S t (vs i j)) : RepR w S (.sl f e xs) (.slice (some ⟨b, off, none⟩) xs.length cap)
  | box (t : T) (f : Fl) (cs : List T) (hb : t.shBox? = some (f, cs)) (b off : Nat) (vs : Nat → Value) (hR : S f b)
      (hc : ∀ (j : Nat) t, cs[j]? = some t → w.cell? ⟨b, off + j, none⟩ = some (vs j))
      (hr : ∀ (j : Nat) t, cs[j]? = some t → RepR w S t (vs j)) : RepR w S t (.pointer (some ⟨b, off, none⟩))
  | ga (e : Ty) (xs : List (den e)) (b off : Nat) (vs : Nat → Nat → Value) (hR : S .ro b)
      (hc : ∀ i j t, cellOf (rows .ro e xs) i j = some t → w.cell? ⟨b, off + i * e.size + j, none⟩ = some (vs i j))
      (hr : ∀ i j t, cellOf (rows .ro e xs) i j = some t → RepR w S t (vs i j)) : RepR w S (.ga e xs) (.pointer (some ⟨b, off, none⟩))

/-- Owned: the owned nodes' values stand in φ. -/
inductive RepO (w : World) (S : Fl → Nat → Prop) : T → Value → Lay → Prop where
  | sh (t : T) (x : Value) (h : RepR w S t x) (ht : t.isSh = true) : RepO w S t x noLay
  | nil (e : Ty) (a : Option Addr) (φ : Lay) (h0 : φ [] = some (.slice a 0 0)) (hn : ∀ c p, φ (c :: p) = none) :
      RepO w S (.sl .own e []) (.slice a 0 0) φ
  | sl (e : Ty) (xs : List (den e)) (b off cap : Nat) (arr : Array Value) (el : TypeId) (vs : Nat → Nat → Value) (φ : Lay)
      (hb : w.heap[b]? = some (.cells arr el (0, 0))) (hcap : xs.length ≤ cap + 1) (hsz : off + (cap + 1) * e.size ≤ arr.size)
      (hc : ∀ i j t, cellOf (rows .own e xs) i j = some t → arr[off + (i * e.size + j)]? = some (vs i j))
      (hr : ∀ i j t, cellOf (rows .own e xs) i j = some t → RepO w S t (vs i j) (φ.at i j))
      (h0 : φ [] = some (.slice (some ⟨b, off, none⟩) xs.length (cap + 1))) (hn : ∀ i j, cellOf (rows .own e xs) i j = none → φ.at i j = noLay) :
      RepO w S (.sl .own e xs) (.slice (some ⟨b, off, none⟩) xs.length (cap + 1)) φ
  | box (t : T) (cs : List T) (ht : t.box? = some cs) (b : Nat) (arr : Array Value) (el : TypeId) (vs : Nat → Value) (φ : Lay)
      (hb : w.heap[b]? = some (.cells arr el (0, 0))) (hsz : cs.length ≤ arr.size)
      (hc : ∀ (j : Nat) t, cs[j]? = some t → arr[j]? = some (vs j))
      (hr : ∀ (j : Nat) t, cs[j]? = some t → RepO w S t (vs j) (φ.at 0 j))
      (h0 : φ [] = some (.pointer (some ⟨b, 0, none⟩))) (hn : ∀ i j, (i ≠ 0 ∨ cs[j]? = none) → φ.at i j = noLay) :
      RepO w S t (.pointer (some ⟨b, 0, none⟩)) φ
  | slo (e : Ty) (xs : List (den e)) (i : Nat) (cs : List T) (b off cap : Nat) (arr : Array Value) (el : TypeId) (vs : Nat → Nat → Value) (φ : Lay)
      (hb : w.heap[b]? = some (.cells arr el (0, 0))) (hcap : xs.length ≤ cap + 1) (hsz : off + (cap + 1) * e.size ≤ arr.size)
      (hc : ∀ k l t, cellX e xs i cs k l = some t → arr[off + (k * e.size + l)]? = some (vs k l))
      (hr : ∀ k l t, cellX e xs i cs k l = some t → RepO w S t (vs k l) (φ.at k l))
      (h0 : φ [] = some (.slice (some ⟨b, off, none⟩) xs.length (cap + 1))) (hn : ∀ k l, cellX e xs i cs k l = none → φ.at k l = noLay) :
      RepO w S (.slo e xs i cs) (.slice (some ⟨b, off, none⟩) xs.length (cap + 1)) φ
  | vr (cs : List T) (x : Value) (vs : Nat → Value) (φ : Lay)
      (hr : ∀ (j : Nat) t, cs[j]? = some t → RepO w S t (vs j) (φ.at 0 j))
      (h0 : φ [] = none) (hn : ∀ i j, (i ≠ 0 ∨ cs[j]? = none) → φ.at i j = noLay) : RepO w S (.vr cs) x φ

theorem RepR.mono {w w' : World} {S S' : Fl → Nat → Prop} {t : T} {x : Value} (h : RepR w S t x)
    (hw : ∀ f b, S f b → w'.heap[b]? = w.heap[b]?) (hS : ∀ f b, S f b → S' f b) : RepR w' S' t x := by
  induction h with
  | v x h1 => exact .v x h1
  | dead x => exact .dead x
  | nil f e a c => exact .nil f e a c
  | sl f e xs b off cap vs hRb hcap hc hr ih =>
    exact .sl f e xs b off cap vs (hS _ _ hRb) hcap (fun i j t e => by rw [← hc i j t e]; exact World.cell?_of_block (w := w) (hw _ b hRb)) ih
  | box t f cs hb b off vs hRb hc hr ih =>
    exact .box t f cs hb b off vs (hS _ _ hRb) (fun j t e => by rw [← hc j t e]; exact World.cell?_of_block (w := w) (hw _ b hRb)) ih
  | ga e xs b off vs hRb hc hr ih =>
    exact .ga e xs b off vs (hS _ _ hRb) (fun i j t e => by rw [← hc i j t e]; exact World.cell?_of_block (w := w) (hw _ b hRb)) ih

/-- Of what φ owns nothing has turned between two worlds. -/
def KeptBy (φ : Lay) (w w' : World) : Prop := ∀ p x b, φ p = some x → blkOf x = some b → w'.heap[b]? = w.heap[b]?

theorem KeptBy.at {φ : Lay} {w w' : World} (h : KeptBy φ w w') (i j : Nat) : KeptBy (φ.at i j) w w' := fun p x b hp hb => h ((i, j) :: p) x b hp hb

theorem RepO.mono {w w' : World} {S S' : Fl → Nat → Prop} {t : T} {x : Value} {φ : Lay} (h : RepO w S t x φ)
    (hw : ∀ f b, S f b → w'.heap[b]? = w.heap[b]?) (hS : ∀ f b, S f b → S' f b) (ho : KeptBy φ w w') : RepO w' S' t x φ := by
  induction h with
  | sh t x h ht => exact .sh t x (h.mono hw hS) ht
  | nil e a φ h0 hn => exact .nil e a φ h0 hn
  | sl e xs b off cap arr el vs φ hb hcap hsz hc hr h0 hn ih =>
    exact .sl e xs b off cap arr el vs φ (by rw [ho _ _ _ h0 rfl]; exact hb) hcap hsz hc (fun i j t e => ih i j t e (ho.at i j)) h0 hn
  | box t cs ht b arr el vs φ hb hsz hc hr h0 hn ih =>
    exact .box t cs ht b arr el vs φ (by rw [ho _ _ _ h0 rfl]; exact hb) hsz hc (fun j t e => ih j t e (ho.at 0 j)) h0 hn
  | slo e xs i cs b off cap arr el vs φ hb hcap hsz hc hr h0 hn ih =>
    exact .slo e xs i cs b off cap arr el vs φ (by rw [ho _ _ _ h0 rfl]; exact hb) hcap hsz hc (fun k l t e => ih k l t e (ho.at k l)) h0 hn
  | vr cs x vs φ hr h0 hn ih => exact .vr cs x vs φ (fun j t e => ih j t e (ho.at 0 j)) h0 hn

theorem cell?_of_cells {w : World} {b o : Nat} {arr : Array Value} {el : TypeId} {fz : Nat × Nat} (hb : w.heap[b]? = some (.cells arr el fz)) :
    w.cell? ⟨b, o, none⟩ = arr[o]? := by
  simp [World.cell?, hb]

def OwnedIn (φ : Lay) (R : Nat → Prop) : Prop := ∀ p x b, φ p = some x → blkOf x = some b → R b
theorem OwnedIn.at {φ : Lay} {R : Nat → Prop} (h : OwnedIn φ R) (i j : Nat) : OwnedIn (φ.at i j) R := fun p x b hp hb => h ((i, j) :: p) x b hp hb

/-! ### what is lent -/
/-- A cell, lent. -/
def T.len0 : T → T
  | .sl .own e xs => .sl .bo e xs
  | .pt .own e d => .pt .bo e d
  | .pp .own _ => .dead
  | .vr _ => .dead
  | .slo _ _ _ _ => .dead
  | .po _ _ => .dead
  | t => t

def T.lend : T → T
  | .pp .own cs => .pp .bo (cs.map T.len0)
  | t => t.len0

theorem len0_cells : ∀ (e : Ty) (d : den e), (cells .own e d).map T.len0 = cells .bo e d
  | .int _, _ | .bool, _ | .str, _ | .sl _, _ | .rsl _, _ | .ptr _, _ | .unit, _ | .nat, _ | .sum _ _, _ | .fn _ _, _ => rfl
  | .pair a b, d => by simp [cells, app_eq, len0_cells a d.1, len0_cells b d.2]

theorem lend_dead {w : World} {S : Fl → Nat → Prop} {t : T} {x : Value} (h : RepR w S t.lend x) : RepR w S t.len0 x := by
  unfold T.lend at h
  split at h
  · exact .dead x
  · exact h

theorem cellOf_len0 {e : Ty} {xs : List (den e)} {i j : Nat} {t : T} (h : cellOf (rows .bo e xs) i j = some t) :
    ∃ u, cellOf (rows .own e xs) i j = some u ∧ t = u.len0 := by
  rw [cellOf_rows] at h ⊢
  cases hx : xs[i]? with
  | none => simp [hx] at h
  | some x =>
    rw [hx, Option.bind_some] at h
    rw [Option.bind_some]
    rw [nth_eq, ← len0_cells, List.getElem?_map] at h
    rw [nth_eq]
    cases hu : (cells .own e x)[j]? with
    | none => simp [hu] at h
    | some u => rw [hu] at h; simp only [Option.map_some, Option.some.injEq] at h; exact ⟨u, rfl, h.symm⟩

/-- What is owned may be read. -/
theorem RepO.toR {w : World} {S S' : Fl → Nat → Prop} {t : T} {x : Value} {φ : Lay} (h : RepO w S t x φ)
    (hS : ∀ f b, S f b → S' f b) (ho : OwnedIn φ (S' .bo)) : RepR w S' t.lend x := by
  induction h with
  | sh t x h ht =>
    have : t.lend = t := by cases t with
      | sl f => cases f <;> simp_all [T.lend, T.len0, T.isSh]
      | pt f => cases f <;> simp_all [T.lend, T.len0, T.isSh]
      | pp f => cases f <;> simp_all [T.lend, T.len0, T.isSh]
      | vr => simp [T.isSh] at ht
      | slo => simp [T.isSh] at ht
      | po => simp [T.isSh] at ht
      | _ => rfl
    rw [this]; exact h.mono (fun _ _ _ => rfl) hS
  | nil e a φ h0 hn => exact .nil .bo e a 0
  | sl e xs b off cap arr el vs φ hb hcap hsz hc hr h0 hn ih =>
    refine .sl .bo e xs b off (cap + 1) vs (ho _ _ _ h0 rfl) hcap (fun i j t e => ?_) (fun i j t e => ?_)
    · obtain ⟨u, h1, rfl⟩ := cellOf_len0 e
      rw [cell?_of_cells hb, Nat.add_assoc]; exact hc i j u h1
    · obtain ⟨u, h1, rfl⟩ := cellOf_len0 e
      exact lend_dead (ih i j u h1 (ho.at i j))
  | box t cs ht b arr el vs φ hb hsz hc hr h0 hn ih =>
    by_cases hpo : ∃ e cs', t = .po e cs'
    · obtain ⟨e, cs', rfl⟩ := hpo
      exact .dead _
    have hsb : t.lend.shBox? = some (.bo, cs.map T.len0) := by
      cases t with
      | pp f cs' => cases f <;> simp [T.box?] at ht; subst ht; rfl
      | pt f e d => cases f <;> simp [T.box?] at ht; subst ht; simp [T.lend, T.len0, T.shBox?, len0_cells]
      | po e cs' => exact absurd ⟨e, cs', rfl⟩ hpo
      | _ => simp [T.box?] at ht
    refine .box _ .bo _ hsb b 0 vs (ho _ _ _ h0 rfl) (fun j u e => ?_) (fun j u e => ?_)
    · rw [List.getElem?_map] at e
      cases hu : cs[j]? with
      | none => simp [hu] at e
      | some u' => rw [cell?_of_cells hb, Nat.zero_add]; exact hc j u' hu
    · rw [List.getElem?_map] at e
      cases hu : cs[j]? with
      | none => simp [hu] at e
      | some u' =>
        simp only [hu, Option.map_some, Option.some.injEq] at e
        subst e
        exact lend_dead (ih j u' hu (ho.at 0 j))
  | slo => exact .dead _
  | vr cs x vs φ hr h0 hn ih => exact .dead x

/-! ### what is shared for good -/
def T.fr0 : T → T
  | .sl .own e xs => .sl .ro e xs
  | .pt .own e d => .pt .ro e d
  | .pp .own _ => .dead
  | .vr _ => .dead
  | .slo _ _ _ _ => .dead
  | .po _ _ => .dead
  | t => t

def T.frz : T → T
  | .pp .own cs => .pp .ro (cs.map T.fr0)
  | t => t.fr0

theorem fr0_cells : ∀ (e : Ty) (d : den e), (cells .own e d).map T.fr0 = cells .ro e d
  | .int _, _ | .bool, _ | .str, _ | .sl _, _ | .rsl _, _ | .ptr _, _ | .unit, _ | .nat, _ | .sum _ _, _ | .fn _ _, _ => rfl
  | .pair a b, d => by simp [cells, app_eq, fr0_cells a d.1, fr0_cells b d.2]

theorem frz_dead {w : World} {S : Fl → Nat → Prop} {t : T} {x : Value} (h : RepR w S t.frz x) : RepR w S t.fr0 x := by
  unfold T.frz at h
  split at h
  · exact .dead x
  · exact h

theorem cellOf_fr0 {e : Ty} {xs : List (den e)} {i j : Nat} {t : T} (h : cellOf (rows .ro e xs) i j = some t) :
    ∃ u, cellOf (rows .own e xs) i j = some u ∧ t = u.fr0 := by
  rw [cellOf_rows] at h ⊢
  cases hx : xs[i]? with
  | none => simp [hx] at h
  | some x =>
    rw [hx, Option.bind_some] at h
    rw [Option.bind_some]
    rw [nth_eq, ← fr0_cells, List.getElem?_map] at h
    rw [nth_eq]
    cases hu : (cells .own e x)[j]? with
    | none => simp [hu] at h
    | some u => rw [hu] at h; simp only [Option.map_some, Option.some.injEq] at h; exact ⟨u, rfl, h.symm⟩

/-- What is owned may be shared for good. -/
theorem RepO.toRo {w : World} {S S' : Fl → Nat → Prop} {t : T} {x : Value} {φ : Lay} (h : RepO w S t x φ)
    (hS : ∀ f b, S f b → S' f b) (ho : OwnedIn φ (S' .ro)) : RepR w S' t.frz x := by
  induction h with
  | sh t x h ht =>
    have : t.frz = t := by cases t with
      | sl f => cases f <;> simp_all [T.frz, T.fr0, T.isSh]
      | pt f => cases f <;> simp_all [T.frz, T.fr0, T.isSh]
      | pp f => cases f <;> simp_all [T.frz, T.fr0, T.isSh]
      | vr => simp [T.isSh] at ht
      | slo => simp [T.isSh] at ht
      | po => simp [T.isSh] at ht
      | _ => rfl
    rw [this]; exact h.mono (fun _ _ _ => rfl) hS
  | nil e a φ h0 hn => exact .nil .ro e a 0
  | sl e xs b off cap arr el vs φ hb hcap hsz hc hr h0 hn ih =>
    refine .sl .ro e xs b off (cap + 1) vs (ho _ _ _ h0 rfl) hcap (fun i j t e => ?_) (fun i j t e => ?_)
    · obtain ⟨u, h1, rfl⟩ := cellOf_fr0 e
      rw [cell?_of_cells hb, Nat.add_assoc]; exact hc i j u h1
    · obtain ⟨u, h1, rfl⟩ := cellOf_fr0 e
      exact frz_dead (ih i j u h1 (ho.at i j))
  | box t cs ht b arr el vs φ hb hsz hc hr h0 hn ih =>
    by_cases hpo : ∃ e cs', t = .po e cs'
    · obtain ⟨e, cs', rfl⟩ := hpo
      exact .dead _
    have hsb : t.frz.shBox? = some (.ro, cs.map T.fr0) := by
      cases t with
      | pp f cs' => cases f <;> simp [T.box?] at ht; subst ht; rfl
      | pt f e d => cases f <;> simp [T.box?] at ht; subst ht; simp [T.frz, T.fr0, T.shBox?, fr0_cells]
      | po e cs' => exact absurd ⟨e, cs', rfl⟩ hpo
      | _ => simp [T.box?] at ht
    refine .box _ .ro _ hsb b 0 vs (ho _ _ _ h0 rfl) (fun j u e => ?_) (fun j u e => ?_)
    · rw [List.getElem?_map] at e
      cases hu : cs[j]? with
      | none => simp [hu] at e
      | some u' => rw [cell?_of_cells hb, Nat.zero_add]; exact hc j u' hu
    · rw [List.getElem?_map] at e
      cases hu : cs[j]? with
      | none => simp [hu] at e
      | some u' =>
        simp only [hu, Option.map_some, Option.some.injEq] at e
        subst e
        exact frz_dead (ih j u' hu (ho.at 0 j))
  | slo => exact .dead _
  | vr cs x vs φ hr h0 hn ih => exact .dead x

end Go.V
