/- Places in a tree: what lies there, and what it is when something else is put there. -/
import Derived.Test.YtmcaghldcabnnaaRvOne
namespace Go.V
open Go.RowKit

def childT (t : T) (i j : Nat) : Option T :=
  match t with
  | .sl .own e xs => (xs[i]?).bind fun x => nth (cells .own e x) j
  | .pt .own e d => match i with
    | 0 => nth (cells .own e d) j
    | _ + 1 => none
  | .pp .own cs => match i with
    | 0 => nth cs j
    | _ + 1 => none
  | .vr cs => match i with
    | 0 => nth cs j
    | _ + 1 => none
  | .slo e xs i' cs => (xs[i]?).bind fun x => match Nat.blt j e.size with
    | true => match Nat.beq i i' with
      | true => nth cs j
      | false => nth (cells .own e x) j
    | false => none
  | .po _ cs => match i with
    | 0 => nth cs j
    | _ + 1 => none
  | _ => none

/-- A slice with a row of these cells: open, if they are no data. -/
def closeS (e : Ty) (xs : List (den e)) (i : Nat) (cs : List T) : T := match packAll .own e cs with
  | some x => .sl .own e (xs.set i x)
  | none => .slo e xs i cs

def closeB (e : Ty) (cs : List T) : T := match packAll .own e cs with
  | some d => .pt .own e d
  | none => .po e cs

def putChild (t : T) (i j : Nat) (n : T) : Option T :=
  match t with
  | .sl .own e xs => (xs[i]?).map fun x => closeS e xs i (setN (cells .own e x) j n)
  | .pt .own e d => match i with
    | 0 => some (closeB e (setN (cells .own e d) j n))
    | _ + 1 => none
  | .pp .own cs => match i with
    | 0 => some (.pp .own (setN cs j n))
    | _ + 1 => none
  | .vr cs => match i with
    | 0 => some (.vr (setN cs j n))
    | _ + 1 => none
  | .slo e xs i' cs => (xs[i]?).bind fun x => match Nat.beq i i' with
    | true => some (closeS e xs i' (setN cs j n))
    | false => (packAll .own e (setN (cells .own e x) j n)).map fun x' => .slo e (xs.set i x') i' cs
  | .po e cs => match i with
    | 0 => some (closeB e (setN cs j n))
    | _ + 1 => none
  | _ => none

def getT : Path → T → Option T
  | [], t => some t
  | (i, j) :: p, t => (childT t i j).bind fun c => getT p c

def setT : Path → T → T → Option T
  | [], _, n => some n
  | (i, j) :: p, t, n => (childT t i j).bind fun c => (setT p c n).bind fun c' => putChild t i j c'

theorem getT_append : ∀ {q p : Path} {t : T}, getT (q ++ p) t = (getT q t).bind fun r => getT p r
  | [], p, t => by simp [getT]
  | (i, j) :: q, p, t => by
    simp only [List.cons_append, getT]
    cases childT t i j with
    | none => simp
    | some c => simp only [Option.bind_some]; exact getT_append

/-- The layout with another one under a path. -/
def Lay.graft (φ : Lay) : Path → Lay → Lay
  | [], ψ => ψ
  | (i, j) :: p, ψ => fun q => match q with
    | [] => φ []
    | (k, l) :: q => if k = i ∧ l = j then Lay.graft (φ.at i j) p ψ q else φ ((k, l) :: q)

theorem Lay.graft_at_same (φ : Lay) (i j : Nat) (p : Path) (ψ : Lay) : (φ.graft ((i, j) :: p) ψ).at i j = (φ.at i j).graft p ψ := by
  funext q; simp [Lay.graft, Lay.at]
theorem Lay.graft_at_ne (φ : Lay) (i j k l : Nat) (p : Path) (ψ : Lay) (h : ¬ (k = i ∧ l = j)) : (φ.graft ((i, j) :: p) ψ).at k l = φ.at k l := by
  funext q; simp [Lay.graft, Lay.at, h]
theorem Lay.graft_nil (φ : Lay) (i j : Nat) (p : Path) (ψ : Lay) : φ.graft ((i, j) :: p) ψ [] = φ [] := rfl

def strip : Path → Path → Option Path
  | [], q => some q
  | _ :: _, [] => none
  | c :: p, d :: q => if c = d then strip p q else none

theorem graft_eq (p : Path) : ∀ (φ : Lay) (ψ : Lay) (q : Path), φ.graft p ψ q = match strip p q with | some q' => ψ q' | none => φ q := by
  induction p with
  | nil => intro φ ψ q; simp [Lay.graft, strip]
  | cons c p ih =>
    obtain ⟨i, j⟩ := c
    intro φ ψ q
    cases q with
    | nil => simp [Lay.graft, strip]
    | cons d q =>
      obtain ⟨k, l⟩ := d
      simp only [Lay.graft, strip]
      by_cases h : k = i ∧ l = j
      · obtain ⟨rfl, rfl⟩ := h
        simp only [and_self, if_true]
        rw [ih]
        cases strip p q <;> rfl
      · rw [if_neg h]
        have h' : ¬ ((i, j) = (k, l)) := fun e => h (by simp only [Prod.mk.injEq] at e; exact ⟨e.1.symm, e.2.symm⟩)
        rw [if_neg h']

theorem strip_some {p q q' : Path} (h : strip p q = some q') : q = p ++ q' := by
  induction p generalizing q with
  | nil => simp [strip] at h; simp [h]
  | cons c p ih =>
    cases q with
    | nil => simp [strip] at h
    | cons d q =>
      simp only [strip] at h
      by_cases e : c = d
      · rw [if_pos e] at h; subst e; rw [ih h]; rfl
      · rw [if_neg e] at h; simp at h

theorem strip_append (p q : Path) : strip p (p ++ q) = some q := by
  induction p with
  | nil => simp [strip]
  | cons c p ih => simp [strip, ih]

/-- No block twice. -/
def Inj (φ : Lay) : Prop := ∀ p x p' x' b, φ p = some x → blkOf x = some b → φ p' = some x' → blkOf x' = some b → p = p'

theorem Inj.at {φ : Lay} (h : Inj φ) (i j : Nat) : Inj (φ.at i j) := fun p x p' x' b a1 a2 a3 a4 => by
  have := h ((i, j) :: p) x ((i, j) :: p') x' b a1 a2 a3 a4
  simpa using this

/-- Where a node's cell lies in its block. -/
def T.idx (v : Option Value) : T → Nat → Nat → Nat
  | .sl _ e _, i, j => (match v with | some x => offOf x | none => 0) + (i * e.size + j)
  | .slo e _ _ _, i, j => (match v with | some x => offOf x | none => 0) + (i * e.size + j)
  | _, _, j => j

/-- In the node's own block (if it has one) the cell has got that value, and nothing else has turned there. -/
def RowBlk (w w' : World) (t : T) (v : Option Value) (i j : Nat) (y : Value) : Prop :=
  match t with
  | .vr _ => True
  | t => ∃ b, v.bind blkOf = some b ∧ ∀ arr el, w.heap[b]? = some (.cells arr el (0, 0)) → w'.heap[b]? = some (.cells (arr.setIfInBounds (t.idx v i j) y) el (0, 0))

theorem flat_inj {sz i j k l : Nat} (hj : j < sz) (hl : l < sz) (h : i * sz + j = k * sz + l) : i = k ∧ j = l := by
  have h1 : (i * sz + j) / sz = i := by rw [Nat.mul_comm, Nat.mul_add_div (by omega), Nat.div_eq_of_lt hj, Nat.add_zero]
  have h2 : (k * sz + l) / sz = k := by rw [Nat.mul_comm, Nat.mul_add_div (by omega), Nat.div_eq_of_lt hl, Nat.add_zero]
  have : i = k := by rw [← h1, ← h2, h]
  subst this
  exact ⟨rfl, by omega⟩

theorem closeB_box (e : Ty) (cs : List T) : (closeB e cs).box? = some cs := by
  unfold closeB
  split
  · rename_i d h
    rw [packAll_some h]; rfl
  · rfl

/-- A box's new cells. -/
theorem putChild_box {t t' n u : T} {cs : List T} {i j : Nat} (hb : t.box? = some cs) (hc : childT t i j = some u) (hp : putChild t i j n = some t') :
    i = 0 ∧ cs[j]? = some u ∧ t'.box? = some (cs.set j n) := by
  cases t with
  | pp f cs' =>
    cases f <;> simp [T.box?] at hb
    subst hb
    cases i with
    | zero =>
      simp only [childT, nth_eq] at hc
      simp only [putChild, Option.some.injEq] at hp
      subst hp
      exact ⟨rfl, hc, by simp [T.box?, setN_eq]⟩
    | succ i => simp [childT] at hc
  | pt f e d =>
    cases f <;> simp [T.box?] at hb
    subst hb
    cases i with
    | zero =>
      simp only [childT, nth_eq] at hc
      simp only [putChild, Option.some.injEq] at hp
      subst hp
      exact ⟨rfl, hc, by rw [closeB_box, setN_eq]⟩
    | succ i => simp [childT] at hc
  | po e cs' =>
    simp only [T.box?, Option.some.injEq] at hb
    subst hb
    cases i with
    | zero =>
      simp only [childT, nth_eq] at hc
      simp only [putChild, Option.some.injEq] at hp
      subst hp
      exact ⟨rfl, hc, by rw [closeB_box, setN_eq]⟩
    | succ i => simp [childT] at hc
  | _ => simp [T.box?] at hb

theorem idx_box {t : T} {cs : List T} (hb : t.box? = some cs) (v : Option Value) (i j : Nat) : t.idx v i j = j := by
  cases t with
  | sl f e xs => simp [T.box?] at hb
  | slo => simp [T.box?] at hb
  | _ => rfl

theorem RowBlk.box {w w' : World} {t : T} {cs : List T} (hb : t.box? = some cs) {v : Option Value} {i j : Nat} {y : Value} (h : RowBlk w w' t v i j y) :
    ∃ b, v.bind blkOf = some b ∧ ∀ arr el, w.heap[b]? = some (.cells arr el (0, 0)) → w'.heap[b]? = some (.cells (arr.setIfInBounds j y) el (0, 0)) := by
  cases t with
  | vr cs => simp [T.box?] at hb
  | sl f e xs => simp [T.box?] at hb
  | slo => simp [T.box?] at hb
  | _ => exact h

theorem beq_ne {a b : Nat} (h : ¬ a = b) : Nat.beq a b = false := by
  cases e : Nat.beq a b with
  | false => rfl
  | true => exact absurd (Nat.eq_of_beq_eq_true e) h

/-- An owned slice, perhaps with a row open: its cells. -/
inductive SlX : T → (e : Ty) → Nat → (Nat → Nat → Option T) → Prop where
  | sl (e : Ty) (xs : List (den e)) : SlX (.sl .own e xs) e xs.length (cellOf (rows .own e xs))
  | slo (e : Ty) (xs : List (den e)) (i : Nat) (cs : List T) : SlX (.slo e xs i cs) e xs.length (cellX e xs i cs)

theorem SlX.lt {t : T} {e : Ty} {n : Nat} {f : Nat → Nat → Option T} (h : SlX t e n f) {k l : Nat} {u : T} (hu : f k l = some u) : k < n ∧ l < e.size := by
  cases h with
  | sl => exact rows_lt hu
  | slo => exact cellX_lt hu

theorem SlX.child {t : T} {e : Ty} {n : Nat} {f : Nat → Nat → Option T} (h : SlX t e n f) (k l : Nat) : childT t k l = f k l := by
  cases h with
  | sl => simp only [childT]; rw [cellOf_rows]
  | slo _ xs i cs =>
    simp only [childT, cellX]
    by_cases hk : k < xs.length
    · rw [List.getElem?_eq_getElem hk, Option.bind_some]
      by_cases hl : l < e.size
      · rw [if_pos ⟨hk, hl⟩]
        have : Nat.blt l e.size = true := by simpa [Nat.blt_eq] using hl
        rw [this]
        by_cases hki : k = i
        · subst hki; simp [nth_eq]
        · simp only [beq_ne hki, if_neg hki]
          rw [cellOf_rows, List.getElem?_eq_getElem hk, Option.bind_some]
      · rw [if_neg (fun h => hl h.2)]
        have : Nat.blt l e.size = false := by
          cases hb : Nat.blt l e.size with
          | false => rfl
          | true => exact absurd (by simpa [Nat.blt_eq] using hb) hl
        rw [this]
    · rw [if_neg (fun h => hk h.1), List.getElem?_eq_none (by omega)]; rfl

theorem SlX.idx {t : T} {e : Ty} {n : Nat} {f : Nat → Nat → Option T} (h : SlX t e n f) (v : Option Value) (k l : Nat) : t.idx v k l = (match v with | some x => offOf x | none => 0) + (k * e.size + l) := by
  cases h <;> rfl

theorem SlX.noVr {t : T} {e : Ty} {n : Nat} {f : Nat → Nat → Option T} (h : SlX t e n f) : ∀ cs, t ≠ .vr cs := by
  cases h <;> exact nofun

theorem cellOf_set {e : Ty} {xs : List (den e)} {i j : Nat} {x' : den e} {u n : T} {cs : List T} (hi : i < xs.length) (hx : cells .own e x' = cs.set j n) (hu : cs[j]? = some u) (hc : ∀ l, cellOf (rows .own e xs) i l = cs[l]?) (k l : Nat) :
    cellOf (rows .own e (xs.set i x')) k l = if k = i ∧ l = j then some n else cellOf (rows .own e xs) k l := by
  have hj := (List.getElem?_eq_some_iff.mp hu).1
  rw [cellOf_rows, List.getElem?_set]
  by_cases hk : i = k
  · subst hk
    rw [if_pos rfl, if_pos hi, Option.bind_some, nth_eq, hx, List.getElem?_set, hc]
    by_cases hl : j = l
    · subst hl; simp [hj]
    · rw [if_neg hl, if_neg (fun h => hl h.2.symm)]
  · rw [if_neg hk, if_neg (fun h => hk h.1.symm), cellOf_rows]

/-- A slice with a row of these cells. -/
theorem closeS_X {e : Ty} {xs : List (den e)} {i : Nat} {cs : List T} (hi : i < xs.length) : ∃ f', SlX (closeS e xs i cs) e xs.length f' ∧ ∀ k l, l < e.size → f' k l = if k = i then cs[l]? else cellOf (rows .own e xs) k l := by
  unfold closeS
  split
  · rename_i x hx
    have hx := packAll_some hx
    refine ⟨_, by have := SlX.sl e (xs.set i x); rwa [List.length_set] at this, fun k l _ => ?_⟩
    rw [cellOf_rows, List.getElem?_set]
    by_cases hk : i = k
    · subst hk
      rw [if_pos rfl, if_pos hi, if_pos rfl, Option.bind_some, nth_eq, hx]
    · rw [if_neg hk, if_neg (fun h => hk h.symm), cellOf_rows]
  · refine ⟨_, .slo e xs i cs, fun k l hl => ?_⟩
    unfold cellX
    by_cases hk : k < xs.length
    · rw [if_pos ⟨hk, hl⟩]
    · rw [if_neg (fun h => hk h.1), if_neg (by omega), cellOf_rows, List.getElem?_eq_none (by omega)]; rfl

theorem SlX.put {t t' : T} {e : Ty} {m : Nat} {f : Nat → Nat → Option T} (h : SlX t e m f) {i j : Nat} {u n : T} (hc : childT t i j = some u) (hp : putChild t i j n = some t') :
    ∃ f', SlX t' e m f' ∧ f i j = some u ∧ ∀ k l, f' k l = if k = i ∧ l = j then some n else f k l := by
  have hu := hc
  rw [h.child] at hu
  have hij := h.lt hu
  suffices hgoal : ∃ f', SlX t' e m f' ∧ ∀ k l, f' k l = if k = i ∧ l = j then some n else f k l by
    obtain ⟨f', h1, h2⟩ := hgoal
    exact ⟨f', h1, hu, h2⟩
  have fin : ∀ {f' : Nat → Nat → Option T} {cs : List T}, SlX t' e m f' → cs[j]? = some u → (∀ l, l < e.size → f i l = cs[l]?) → (∀ k l, l < e.size → f' k l = if k = i then (cs.set j n)[l]? else f k l) → ∀ k l, f' k l = if k = i ∧ l = j then some n else f k l := by
    intro f' cs hX' h1 h2 h3 k l
    have hj := (List.getElem?_eq_some_iff.mp h1).1
    by_cases hl : l < e.size
    · rw [h3 k l hl]
      by_cases hk : k = i
      · subst hk
        rw [if_pos rfl, List.getElem?_set]
        by_cases hl' : j = l
        · subst hl'; simp [hj]
        · rw [if_neg hl', if_neg (fun h => hl' h.2.symm), h2 l hl]
      · rw [if_neg hk, if_neg (fun h => hk h.1)]
    · rw [if_neg (fun h => hl (by rw [h.2]; exact hij.2))]
      cases h5 : f' k l with
      | some v => exact absurd (hX'.lt h5).2 hl
      | none =>
        cases h6 : f k l with
        | some v => exact absurd (h.lt h6).2 hl
        | none => rfl
  cases h with
  | sl _ xs =>
    simp only [childT] at hc
    obtain ⟨x, hx, hu'⟩ := Option.bind_eq_some_iff.mp hc
    simp only [putChild, hx, Option.map_some, Option.some.injEq] at hp
    have hi := (List.getElem?_eq_some_iff.mp hx).1
    rw [nth_eq] at hu'
    obtain ⟨f', h1, h2⟩ := closeS_X (xs := xs) (i := i) (cs := setN (cells .own e x) j n) hi
    rw [hp] at h1
    exact ⟨f', h1, fin h1 hu' (fun l _ => by rw [cellOf_rows, hx, Option.bind_some, nth_eq]) (fun k l hl => by rw [h2 k l hl, setN_eq])⟩
  | slo _ xs i' cs =>
    simp only [childT] at hc
    obtain ⟨x, hx, hc⟩ := Option.bind_eq_some_iff.mp hc
    simp only [putChild, hx, Option.bind_some] at hp
    have hi := (List.getElem?_eq_some_iff.mp hx).1
    have hbl : Nat.blt j e.size = true := by simpa [Nat.blt_eq] using hij.2
    simp only [hbl] at hc
    cases hb : Nat.beq i i' with
    | true =>
      have hii := Nat.eq_of_beq_eq_true hb
      subst hii
      simp only [hb, nth_eq] at hc
      simp only [hb, Option.some.injEq] at hp
      obtain ⟨f', h1, h2⟩ := closeS_X (xs := xs) (i := i) (cs := setN cs j n) hi
      rw [hp] at h1
      refine ⟨f', h1, fin h1 hc (fun l hl => by unfold cellX; rw [if_pos ⟨hi, hl⟩, if_pos rfl]) (fun k l hl => ?_)⟩
      rw [h2 k l hl, setN_eq]
      by_cases hk : k = i
      · rw [if_pos hk, if_pos hk]
      · rw [if_neg hk, if_neg hk]
        unfold cellX
        by_cases hkl : k < xs.length
        · rw [if_pos ⟨hkl, hl⟩, if_neg hk]
        · rw [if_neg (fun h => hkl h.1), cellOf_rows, List.getElem?_eq_none (by omega)]; rfl
    | false =>
      have hne : ¬ i = i' := fun e => by rw [e, Nat.beq_refl] at hb; cases hb
      simp only [hb] at hc hp
      obtain ⟨x', h1, rfl⟩ := Option.map_eq_some_iff.mp hp
      have hcells := packAll_some h1
      rw [setN_eq] at hcells
      rw [nth_eq] at hc
      refine ⟨_, by have := SlX.slo e (xs.set i x') i' cs; rwa [List.length_set] at this, fun k l => ?_⟩
      have hset := cellOf_set (n := n) hi hcells.symm hc (fun l => by rw [cellOf_rows, hx, Option.bind_some, nth_eq]) k l
      unfold cellX
      rw [List.length_set]
      by_cases hkl : k < xs.length ∧ l < e.size
      · rw [if_pos hkl, if_pos hkl]
        by_cases hk : k = i'
        · rw [if_pos hk, if_pos hk, if_neg (fun h => hne (h.1.symm.trans hk))]
        · rw [if_neg hk, if_neg hk, hset]
      · rw [if_neg hkl, if_neg hkl, if_neg (fun h => hkl (by rw [h.1, h.2]; exact ⟨hi, hij.2⟩))]

/-- What an owned slice's cells are in memory. -/
theorem RepO.ofX {w : World} {S : Fl → Nat → Prop} {t : T} {e : Ty} {n : Nat} {f : Nat → Nat → Option T} (h : SlX t e n f) {b off cap : Nat} {arr : Array Value} {el : TypeId} {vs : Nat → Nat → Value} {φ : Lay}
    (hb : w.heap[b]? = some (.cells arr el (0, 0))) (hcap : n ≤ cap + 1) (hsz : off + (cap + 1) * e.size ≤ arr.size)
    (hc : ∀ k l t, f k l = some t → arr[off + (k * e.size + l)]? = some (vs k l)) (hr : ∀ k l t, f k l = some t → RepO w S t (vs k l) (φ.at k l))
    (h0 : φ [] = some (.slice (some ⟨b, off, none⟩) n (cap + 1))) (hn : ∀ k l, f k l = none → φ.at k l = noLay) : RepO w S t (.slice (some ⟨b, off, none⟩) n (cap + 1)) φ := by
  cases h with
  | sl _ xs => exact .sl e xs b off cap arr el vs φ hb hcap hsz hc hr h0 hn
  | slo _ xs i cs => exact .slo e xs i cs b off cap arr el vs φ hb hcap hsz hc hr h0 hn

/-- An owned slice in memory: nil, or in a block. -/
theorem RepO.toX {w : World} {S : Fl → Nat → Prop} {t : T} {x : Value} {φ : Lay} (h : RepO w S t x φ) {e : Ty} {n : Nat} {f : Nat → Nat → Option T} (hX : SlX t e n f) :
    (∃ a, x = .slice a 0 0 ∧ n = 0 ∧ φ [] = some (.slice a 0 0) ∧ (∀ c p, φ (c :: p) = none) ∧ ∀ k l, f k l = none) ∨
    ∃ (b off cap : Nat) (arr : Array Value) (el : TypeId) (vs : Nat → Nat → Value), x = .slice (some ⟨b, off, none⟩) n (cap + 1) ∧ w.heap[b]? = some (.cells arr el (0, 0)) ∧ n ≤ cap + 1 ∧ off + (cap + 1) * e.size ≤ arr.size ∧
      (∀ k l t, f k l = some t → arr[off + (k * e.size + l)]? = some (vs k l)) ∧ (∀ k l t, f k l = some t → RepO w S t (vs k l) (φ.at k l)) ∧
      φ [] = some (.slice (some ⟨b, off, none⟩) n (cap + 1)) ∧ (∀ k l, f k l = none → φ.at k l = noLay) := by
  cases hX with
  | sl _ xs =>
    cases h with
    | sh _ _ _ ht => simp [T.isSh] at ht
    | nil _ a _ h0 hn => exact .inl ⟨a, rfl, rfl, h0, hn, fun k l => by rw [cellOf_rows]; simp⟩
    | sl _ _ b off cap arr el vs _ hb hcap hsz hc hr h0 hn => exact .inr ⟨b, off, cap, arr, el, vs, rfl, hb, hcap, hsz, hc, hr, h0, hn⟩
    | box _ _ ht => simp [T.box?] at ht
  | slo _ xs i cs =>
    cases h with
    | sh _ _ _ ht => simp [T.isSh] at ht
    | slo _ _ _ _ b off cap arr el vs _ hb hcap hsz hc hr h0 hn => exact .inr ⟨b, off, cap, arr, el, vs, rfl, hb, hcap, hsz, hc, hr, h0, hn⟩
    | box _ _ ht => simp [T.box?] at ht

theorem sh_child {t : T} {i j : Nat} (h : t.isSh = true) : childT t i j = none := by
  cases t with
  | sl f => cases f <;> first | rfl | simp [T.isSh] at h
  | pt f => cases f <;> first | rfl | simp [T.isSh] at h
  | pp f => cases f <;> first | rfl | simp [T.isSh] at h
  | vr => simp [T.isSh] at h
  | slo => simp [T.isSh] at h
  | po => simp [T.isSh] at h
  | _ => rfl

/-- An owned slice with another child. -/
theorem put_X {w w' : World} {S : Fl → Nat → Prop} {t t' n u : T} {x y : Value} {φ ψ : Lay} {i j : Nat} {e : Ty} {m : Nat} {f : Nat → Nat → Option T} (hX : SlX t e m f) (h : RepO w S t x φ) (hn : RepO w' S n y ψ)
    (hS : ∀ f b, S f b → w'.heap[b]? = w.heap[b]?) (hrow : RowBlk w w' t (φ []) i j y) (hk : ∀ k l, ¬ (k = i ∧ l = j) → KeptBy (φ.at k l) w w')
    (hc : childT t i j = some u) (hp : putChild t i j n = some t') : RepO w' S t' x (φ.graft [(i, j)] ψ) := by
  obtain ⟨f', hX', hu, hcell⟩ := hX.put hc hp
  rcases h.toX hX with ⟨a, -, -, -, -, hno⟩ | ⟨b, off, cap, arr, el, vs, rfl, hb, hcap, hsz, hc', hr, h0, hn'⟩
  · rw [hno] at hu; cases hu
  have hrow : w'.heap[b]? = some (.cells (arr.setIfInBounds (off + (i * e.size + j)) y) el (0, 0)) := by
    unfold RowBlk at hrow
    split at hrow
    · exact absurd rfl (hX.noVr _)
    · obtain ⟨b', hb1, hb2⟩ := hrow
      simp only [h0, Option.bind_some, blkOf, Option.some.injEq] at hb1
      subst hb1
      have := hb2 arr el hb
      rw [hX.idx, h0] at this
      exact this
  have hij := hX.lt hu
  refine RepO.ofX (w := w') (vs := fun k l => if k = i ∧ l = j then y else vs k l) hX' hrow hcap (by simpa using hsz) (fun k l t' ht' => ?_) (fun k l t' ht' => ?_) (by rw [Lay.graft_nil, h0]) (fun k l hkl' => ?_)
  · rw [hcell] at ht'
    by_cases hkl : k = i ∧ l = j
    · rw [if_pos hkl]
      obtain ⟨rfl, rfl⟩ := hkl
      have := hc' k l u hu
      rw [Array.getElem?_setIfInBounds_self_of_lt]
      exact (Array.getElem?_eq_some_iff.mp this).1
    · rw [if_neg hkl] at ht' ⊢
      have hkl' := hX.lt ht'
      rw [Array.getElem?_setIfInBounds_ne]
      · exact hc' k l t' ht'
      · intro e'
        obtain ⟨e1, e2⟩ := flat_inj hij.2 hkl'.2 (Nat.add_left_cancel e')
        exact hkl ⟨e1.symm, e2.symm⟩
  · rw [hcell] at ht'
    by_cases hkl : k = i ∧ l = j
    · rw [if_pos hkl] at ht' ⊢
      obtain ⟨rfl, rfl⟩ := hkl
      simp only [Option.some.injEq] at ht'
      subst ht'
      rw [Lay.graft_at_same]
      exact hn
    · rw [if_neg hkl] at ht' ⊢
      rw [Lay.graft_at_ne _ _ _ _ _ _ _ hkl]
      exact (hr k l t' ht').mono hS (fun _ _ h => h) (hk k l hkl)
  · rw [hcell] at hkl'
    by_cases hkl : k = i ∧ l = j
    · rw [if_pos hkl] at hkl'; simp at hkl'
    · rw [if_neg hkl] at hkl'
      rw [Lay.graft_at_ne _ _ _ _ _ _ _ hkl]
      exact hn' k l hkl'

/-- A node with another child. -/
theorem put_own {w w' : World} {S : Fl → Nat → Prop} {t t' n u : T} {x y : Value} {φ ψ : Lay} {i j : Nat} (h : RepO w S t x φ) (hn : RepO w' S n y ψ)
    (hS : ∀ f b, S f b → w'.heap[b]? = w.heap[b]?) (hrow : RowBlk w w' t (φ []) i j y) (hk : ∀ k l, ¬ (k = i ∧ l = j) → KeptBy (φ.at k l) w w')
    (hc : childT t i j = some u) (hp : putChild t i j n = some t') : RepO w' S t' x (φ.graft [(i, j)] ψ) := by
  cases h with
  | sh _ _ h ht => rw [sh_child ht] at hc; simp at hc
  | nil e a φ h0 hn' => simp [childT] at hc
  | sl e xs b off cap arr el vs φ hb hcap hsz hc' hr h0 hn' =>
    exact put_X (.sl e xs) (.sl e xs b off cap arr el vs φ hb hcap hsz hc' hr h0 hn') hn hS hrow hk hc hp
  | slo e xs i' cs b off cap arr el vs φ hb hcap hsz hc' hr h0 hn' =>
    exact put_X (.slo e xs i' cs) (.slo e xs i' cs b off cap arr el vs φ hb hcap hsz hc' hr h0 hn') hn hS hrow hk hc hp
  | box _ cs ht b arr el vs φ hb hsz hc' hr h0 hn' =>
    obtain ⟨rfl, hu, hbox⟩ := putChild_box ht hc hp
    obtain ⟨b1, hb1, hblk⟩ := hrow.box ht
    simp only [h0, Option.bind_some, blkOf, Option.some.injEq] at hb1
    subst hb1
    have hb' := hblk arr el hb
    have hj : j < cs.length := (List.getElem?_eq_some_iff.mp hu).1
    refine .box t' (cs.set j n) hbox b (arr.setIfInBounds j y) el (fun l => if l = j then y else vs l) (φ.graft [(0, j)] ψ) hb' (by simpa using hsz)
      (fun l t' ht' => ?_) (fun l t' ht' => ?_) (by rw [Lay.graft_nil, h0]) (fun k l hkl => ?_)
    · rw [List.getElem?_set] at ht'
      by_cases hl : j = l
      · subst hl
        simp only [if_true]
        rw [Array.getElem?_setIfInBounds_self_of_lt (by omega)]
      · rw [if_neg hl] at ht'
        have hl' : ¬ l = j := fun e => hl e.symm
        simp only [if_neg hl']
        rw [Array.getElem?_setIfInBounds_ne hl]
        exact hc' l t' ht'
    · rw [List.getElem?_set] at ht'
      by_cases hl : j = l
      · subst hl
        simp only [if_true, hj] at ht' ⊢
        simp only [Option.some.injEq] at ht'
        subst ht'
        rw [Lay.graft_at_same]
        exact hn
      · rw [if_neg hl] at ht'
        have hl' : ¬ l = j := fun e => hl e.symm
        simp only [if_neg hl']
        rw [Lay.graft_at_ne _ _ _ _ _ _ _ (fun h => hl' h.2)]
        exact (hr l t' ht').mono hS (fun _ _ h => h) (hk 0 l (fun h => hl' h.2))
    · by_cases hkl' : k = 0 ∧ l = j
      · obtain ⟨rfl, rfl⟩ := hkl'
        rcases hkl with hkl | hkl
        · exact absurd rfl hkl
        · rw [List.getElem?_set] at hkl; simp [hj] at hkl
      · rw [Lay.graft_at_ne _ _ _ _ _ _ _ hkl']
        refine hn' k l ?_
        rcases hkl with hkl | hkl
        · exact .inl hkl
        · rw [List.getElem?_set] at hkl
          by_cases hl : j = l
          · subst hl; simp [hj] at hkl
          · rw [if_neg hl] at hkl; exact .inr hkl
  | vr cs _ vs φ hr h0 hn' =>
    cases i with
    | succ i => simp [childT] at hc
    | zero =>
      simp only [childT, nth_eq] at hc
      simp only [putChild, Option.some.injEq] at hp
      subst hp
      have hj : j < cs.length := (List.getElem?_eq_some_iff.mp hc).1
      rw [setN_eq]
      refine .vr (cs.set j n) x (fun l => if l = j then y else vs l) (φ.graft [(0, j)] ψ) (fun l t' ht' => ?_) (by rw [Lay.graft_nil, h0]) (fun k l hkl => ?_)
      · rw [List.getElem?_set] at ht'
        by_cases hl : j = l
        · subst hl
          simp only [if_true, hj] at ht' ⊢
          simp only [Option.some.injEq] at ht'
          subst ht'
          rw [Lay.graft_at_same]
          exact hn
        · rw [if_neg hl] at ht'
          have hl' : ¬ l = j := fun e => hl e.symm
          simp only [if_neg hl']
          rw [Lay.graft_at_ne _ _ _ _ _ _ _ (fun h => hl' h.2)]
          exact (hr l t' ht').mono hS (fun _ _ h => h) (hk 0 l (fun h => hl' h.2))
      · by_cases hkl' : k = 0 ∧ l = j
        · obtain ⟨rfl, rfl⟩ := hkl'
          rcases hkl with hkl | hkl
          · exact absurd rfl hkl
          · rw [List.getElem?_set] at hkl; simp [hj] at hkl
        · rw [Lay.graft_at_ne _ _ _ _ _ _ _ hkl']
          refine hn' k l ?_
          rcases hkl with hkl | hkl
          · exact .inl hkl
          · rw [List.getElem?_set] at hkl
            by_cases hl : j = l
            · subst hl; simp [hj] at hkl
            · rw [if_neg hl] at hkl; exact .inr hkl

theorem set_same {arr : Array Value} {o : Nat} {y : Value} (h : arr[o]? = some y) : arr.setIfInBounds o y = arr := by
  apply Array.ext_getElem?
  intro i
  by_cases e : o = i
  · subst e
    rw [Array.getElem?_setIfInBounds_self_of_lt (Array.getElem?_eq_some_iff.mp h).1, h]
  · rw [Array.getElem?_setIfInBounds_ne e]

/-- Where a node's cell lies, and what is there. -/
def CellAt (w : World) (t : T) (v : Option Value) (i j : Nat) (y : Value) : Prop :=
  (∃ cs, t = .vr cs) ∨ ∃ b arr el, v.bind blkOf = some b ∧ w.heap[b]? = some (.cells arr el (0, 0)) ∧ arr[t.idx v i j]? = some y

/-- A node's child, and where it lies. -/
theorem child_own {w : World} {S : Fl → Nat → Prop} {t u : T} {x : Value} {φ : Lay} {i j : Nat} (h : RepO w S t x φ) (hc : childT t i j = some u) :
    ∃ y, RepO w S u y (φ.at i j) ∧ (∀ w', (∀ b, (φ []).bind blkOf = some b → w'.heap[b]? = w.heap[b]?) → RowBlk w w' t (φ []) i j y) ∧
      CellAt w t (φ []) i j y := by
  cases h with
  | sh _ _ h ht => rw [sh_child ht] at hc; simp at hc
  | nil e a φ h0 hn' => simp [childT] at hc
  | sl e xs b off cap arr el vs φ hb hcap hsz hc' hr h0 hn' =>
    have hu : cellOf (rows .own e xs) i j = some u := by rw [cellOf_rows]; exact hc
    refine ⟨vs i j, hr i j u hu, fun w' hw => ?_, .inr ⟨b, arr, el, by simp [h0, blkOf], hb, by rw [h0]; exact hc' i j u hu⟩⟩
    refine ⟨b, by simp [h0, blkOf], fun arr' el' h' => ?_⟩
    rw [hb] at h'
    simp only [Option.some.injEq, Obj.cells.injEq] at h'
    obtain ⟨rfl, rfl, _⟩ := h'
    rw [set_same (show arr[T.idx (φ []) (.sl .own e xs) i j]? = some (vs i j) by rw [h0]; exact hc' i j u hu), hw b (by simp [h0, blkOf]), hb]
  | slo e xs i' cs b off cap arr el vs φ hb hcap hsz hc' hr h0 hn' =>
    have hX := SlX.slo e xs i' cs
    have hu : cellX e xs i' cs i j = some u := by rw [← hX.child]; exact hc
    refine ⟨vs i j, hr i j u hu, fun w' hw => ?_, .inr ⟨b, arr, el, by simp [h0, blkOf], hb, by rw [h0]; exact hc' i j u hu⟩⟩
    refine ⟨b, by simp [h0, blkOf], fun arr' el' h' => ?_⟩
    rw [hb] at h'
    simp only [Option.some.injEq, Obj.cells.injEq] at h'
    obtain ⟨rfl, rfl, _⟩ := h'
    rw [set_same (show arr[T.idx (φ []) (.slo e xs i' cs) i j]? = some (vs i j) by rw [h0]; exact hc' i j u hu), hw b (by simp [h0, blkOf]), hb]
  | box _ cs ht b arr el vs φ hb hsz hc' hr h0 hn' =>
    have hi : i = 0 ∧ cs[j]? = some u := by
      cases t with
      | pp f cs' =>
        cases f <;> simp [T.box?] at ht
        subst ht
        cases i with
        | zero => exact ⟨rfl, by simpa [childT, nth_eq] using hc⟩
        | succ i => simp [childT] at hc
      | pt f e d =>
        cases f <;> simp [T.box?] at ht
        subst ht
        cases i with
        | zero => exact ⟨rfl, by simpa [childT, nth_eq] using hc⟩
        | succ i => simp [childT] at hc
      | po e cs' =>
        simp only [T.box?, Option.some.injEq] at ht
        subst ht
        cases i with
        | zero => exact ⟨rfl, by simpa [childT, nth_eq] using hc⟩
        | succ i => simp [childT] at hc
      | _ => simp [T.box?] at ht
    obtain ⟨rfl, hu⟩ := hi
    have hne : ∀ cs, t ≠ .vr cs := by intro cs e; subst e; simp [T.box?] at ht
    refine ⟨vs j, hr j u hu, fun w' hw => ?_, ?_⟩
    · have : ∃ b, (φ []).bind blkOf = some b ∧ ∀ arr el, w.heap[b]? = some (.cells arr el (0, 0)) → w'.heap[b]? = some (.cells (arr.setIfInBounds (t.idx (φ []) 0 j) (vs j)) el (0, 0)) := by
        refine ⟨b, by simp [h0, blkOf], fun arr' el' h' => ?_⟩
        rw [hb] at h'
        simp only [Option.some.injEq, Obj.cells.injEq] at h'
        obtain ⟨rfl, rfl, _⟩ := h'
        rw [idx_box ht, set_same (hc' j u hu), hw b (by simp [h0, blkOf]), hb]
      unfold RowBlk
      split
      · trivial
      · exact this
    · exact .inr ⟨b, arr, el, by simp [h0, blkOf], hb, by rw [idx_box ht]; exact hc' j u hu⟩
  | vr cs _ vs φ hr h0 hn' =>
    cases i with
    | succ i => simp [childT] at hc
    | zero =>
      simp only [childT, nth_eq] at hc
      exact ⟨vs j, hr j u hc, fun _ _ => trivial, .inl ⟨_, rfl⟩⟩

theorem Lay.under_nil (φ : Lay) : φ.under [] = φ := rfl
theorem Lay.under_cons (φ : Lay) (i j : Nat) (p : Path) : (φ.at i j).under p = φ.under ((i, j) :: p) := rfl
theorem Lay.under_at (φ : Lay) (q : Path) (i j : Nat) : (φ.under q).at i j = φ.under (q ++ [(i, j)]) := by
  funext p; simp [Lay.under, Lay.at]
theorem Lay.under_apply_nil (φ : Lay) (q : Path) : φ.under q [] = φ q := by simp [Lay.under]

theorem getT_own {w : World} {S : Fl → Nat → Prop} : ∀ (p : Path) {t : T} {x : Value} {φ : Lay} {t' : T}, RepO w S t x φ → getT p t = some t' →
    ∃ x', RepO w S t' x' (φ.under p)
  | [], t, x, φ, t', h, hg => by simp only [getT, Option.some.injEq] at hg; subst hg; exact ⟨x, h⟩
  | (i, j) :: p, t, x, φ, t', h, hg => by
    obtain ⟨c, hc, hg⟩ := Option.bind_eq_some_iff.mp hg
    obtain ⟨y, hy, _⟩ := child_own h hc
    exact getT_own p hy hg

/-- Put at a place: the node above has its cell turned; nothing else has turned. -/
theorem setT_own {w w' : World} {S : Fl → Nat → Prop} {n : T} {y : Value} {ψ : Lay} (hn' : RepO w' S n y ψ) (hS : ∀ f b, S f b → w'.heap[b]? = w.heap[b]?) :
    ∀ (q : Path) (i j : Nat) {t t' : T} {x : Value} {φ : Lay}, RepO w S t x φ → Inj φ → setT (q ++ [(i, j)]) t n = some t' →
    (∀ b, (φ q).bind blkOf ≠ some b → w'.heap[b]? = w.heap[b]?) →
    (∀ row, getT q t = some row → RowBlk w w' row (φ q) i j y) → RepO w' S t' x (φ.graft (q ++ [(i, j)]) ψ) := by
  intro q
  induction q with
  | nil =>
    intro i j t t' x φ h hinj hs hw hrow
    obtain ⟨c, hc, hs⟩ := Option.bind_eq_some_iff.mp hs
    simp only [setT, Option.bind_some] at hs
    refine put_own h hn' hS (hrow t rfl) (fun k l hkl p z b hz hb => hw b (fun e => ?_)) hc hs
    cases h0 : φ [] with
    | none => rw [h0] at e; simp at e
    | some z0 =>
      rw [h0, Option.bind_some] at e
      have := hinj _ _ _ _ _ hz hb h0 e
      simp at this
  | cons c0 q ih =>
    obtain ⟨i0, j0⟩ := c0
    intro i j t t' x φ h hinj hs hw hrow
    obtain ⟨c, hc, hs⟩ := Option.bind_eq_some_iff.mp hs
    obtain ⟨c', hs1, hs2⟩ := Option.bind_eq_some_iff.mp hs
    obtain ⟨y0, hy0, hblk, _⟩ := child_own h hc
    have hcc : getT ((i0, j0) :: q) t = getT q c := by simp only [getT, hc, Option.bind_some]
    have h1 := ih i j hy0 (hinj.at i0 j0) hs1 hw (fun row hr => hrow row (by rw [hcc]; exact hr))
    refine put_own h h1 hS (hblk w' (fun b hb => hw b (fun e => ?_))) (fun k l hkl p z b hz hb => hw b (fun e => ?_)) hc hs2
    · cases h0 : φ [] with
      | none => rw [h0] at hb; simp at hb
      | some z0 =>
        cases h1 : φ ((i0, j0) :: q) with
        | none => rw [h1] at e; simp at e
        | some z1 =>
          rw [h0, Option.bind_some] at hb
          rw [h1, Option.bind_some] at e
          have := hinj _ _ _ _ _ h0 hb h1 e
          simp at this
    · cases h1 : φ ((i0, j0) :: q) with
      | none => rw [h1] at e; simp at e
      | some z1 =>
        rw [h1, Option.bind_some] at e
        have := hinj _ _ _ _ _ hz hb h1 e
        simp only [List.cons.injEq, Prod.mk.injEq] at this
        exact hkl this.1

/-- The row at a place. -/
theorem setT_row : ∀ {q : Path} {i j : Nat} {t t' n : T}, setT (q ++ [(i, j)]) t n = some t' → ∃ row u, getT q t = some row ∧ childT row i j = some u ∧ getT (q ++ [(i, j)]) t = some u
  | [], i, j, t, t', n, h => by
    obtain ⟨c, hc, _⟩ := Option.bind_eq_some_iff.mp h
    exact ⟨t, c, rfl, hc, by simp [getT, hc]⟩
  | (i0, j0) :: q, i, j, t, t', n, h => by
    obtain ⟨c, hc, hs⟩ := Option.bind_eq_some_iff.mp h
    obtain ⟨c', hs1, hs2⟩ := Option.bind_eq_some_iff.mp hs
    obtain ⟨row, u, h1, h2, h3⟩ := setT_row hs1
    exact ⟨row, u, by simp only [getT, hc, Option.bind_some]; exact h1, h2, by simp only [List.cons_append, getT, hc, Option.bind_some]; exact h3⟩

/-- A place's cell, and what is there. -/
theorem place_cell {w : World} {S : Fl → Nat → Prop} {t u : T} {x : Value} {φ : Lay} {q : Path} {i j : Nat} (h : RepO w S t x φ) (hg : getT (q ++ [(i, j)]) t = some u) :
    ∃ row y, getT q t = some row ∧ childT row i j = some u ∧ RepO w S u y (φ.under (q ++ [(i, j)])) ∧ RowBlk w w row (φ q) i j y ∧ CellAt w row (φ q) i j y := by
  rw [getT_append] at hg
  obtain ⟨row, hr, hg⟩ := Option.bind_eq_some_iff.mp hg
  obtain ⟨c, hc, hg⟩ := Option.bind_eq_some_iff.mp hg
  simp only [getT, Option.some.injEq] at hg
  subst hg
  obtain ⟨x', hx'⟩ := getT_own q h hr
  obtain ⟨y, h1, h2, h3⟩ := child_own hx' hc
  rw [Lay.under_apply_nil] at h2 h3
  rw [Lay.under_at] at h1
  exact ⟨row, y, hr, hc, h1, h2 w (fun _ _ => rfl), h3⟩

end Go.V
