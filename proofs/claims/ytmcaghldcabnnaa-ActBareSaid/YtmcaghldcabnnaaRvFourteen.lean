/- New variables and slices. -/
import Derived.Test.YtmcaghldcabnnaaRvThirteen
import Derived.Laws.MakeOwn
namespace Go.V
open Go.RowKit

variable {α : Type}

def putK (nt : Fr) (x : X) (k : Nat) (d : D) (K : X → Option α) : Option α := match inFr nt k with
  | true => match mem x.pin k with
    | true => none
    | false => K { x with env := (k, d) :: x.env }
  | false => none

/-- With a new root of one cell, of which the temporary speaks. -/
def newK (nt : Fr) (x : X) (k : Nat) (t : T) (y : C) (K : X → Option α) : Option α := (x.hang k [t]).bind fun x' => putK nt x' k (.v (.c y)) K

def topLay (v : Value) (χ : Lay) : Lay := fun q => match q with
  | [] => some v
  | c :: q => χ (c :: q)

def inVr (ψ : Lay) : Lay := fun q => match q with
  | [] => none
  | (i, j) :: q => if i = 0 ∧ j = 0 then ψ q else none

section
variable {c : Ctx} {B : Base} {s : Sit} {x : X} {a : Act} {w : World}

theorem put_sound {nt : Fr} {k : Nat} {d : D} {v : Value} {K : X → Option α} {q : α} (hnt : B.nt = nt) (h : RelW B s x a w) (he : putK nt x k d K = some q) (hv : RepD w s d v) :
    ∃ x', K x' = some q ∧ RelW B s x' (a.gput B k v) w := by
  unfold putK at he
  split at he
  · rename_i hb
    rw [← hnt] at hb
    split at he
    · cases he
    · rename_i hm
      exact ⟨_, he, h.put hb (fun e => by rw [(mem_iff _ _).2 e] at hm; cases hm) hv⟩
  · cases he

theorem putK_in {nt : Fr} {k : Nat} {d : D} {K : X → Option α} {q : α} (he : putK nt x k d K = some q) : inFr nt k = true := by
  unfold putK at he
  split at he
  · rename_i hb; exact hb
  · cases he

theorem inVr_cons (ψ : Lay) : (inVr ψ).at 0 0 = ψ := by funext q; simp [Lay.at, inVr]

theorem inVr_some {ψ : Lay} {q : Path} {y : Value} (h : inVr ψ q = some y) : ∃ q', q = (0, 0) :: q' ∧ ψ q' = some y := by
  match q with
  | [] => cases h
  | (i, j) :: q =>
    simp only [inVr] at h
    split at h
    · rename_i e; obtain ⟨rfl, rfl⟩ := e; exact ⟨q, rfl, h⟩
    · cases h

theorem OwnOut.inVr {ψ : Lay} (h : OwnOut B s w ψ) : OwnOut B s w (inVr ψ) := by
  refine ⟨fun q y q' y' b e1 e2 e3 e4 => ?_, fun q y b e1 e2 => ?_, fun q y b e1 e2 r p z e3 => ?_⟩
  · obtain ⟨q1, rfl, f1⟩ := inVr_some e1
    obtain ⟨q2, rfl, f2⟩ := inVr_some e3
    rw [h.inj _ _ _ _ _ f1 e2 f2 e4]
  · obtain ⟨q1, rfl, f1⟩ := inVr_some e1
    exact h.own _ _ _ f1 e2
  · obtain ⟨q1, rfl, f1⟩ := inVr_some e1
    exact h.out _ _ _ f1 e2 _ _ _ e3

theorem RepO.inVr {S : Fl → Nat → Prop} {t : T} {y : Value} {ψ : Lay} (h : RepO w S t y ψ) (x0 : Value) : RepO w S (.vr [t]) x0 (inVr ψ) := by
  refine .vr [t] x0 (fun _ => y) _ (fun j u hu => ?_) rfl (fun i j hij => ?_)
  · cases j with
    | zero =>
      simp only [List.getElem?_cons_zero, Option.some.injEq] at hu
      subst hu
      rw [inVr_cons]; exact h
    | succ j => simp at hu
  · funext q
    simp only [Lay.at, V.inVr, noLay]
    rw [if_neg]
    rintro ⟨rfl, rfl⟩
    rcases hij with hij | hij
    · exact hij rfl
    · simp at hij

/-- A new root, and a temporary that speaks of it. -/
theorem new_sound {nt : Fr} {k : Nat} {t : T} {y : C} {u v : Value} {ψ : Lay} {K : X → Option α} {q : α} (hnt : B.nt = nt) (h : RelW B s x a w) (he : newK nt x k t y K = some q) (hy : RepO w s.S t u ψ) (ho : OwnOut B s w ψ)
    (hv : ∀ s', s'.S = s.S → (∀ p, s'.Φ k ((0, 0) :: p) = ψ p) → RepC w s' y v) : ∃ x' s', K x' = some q ∧ RelW B s' x' (a.gput B k v) w := by
  obtain ⟨x1, h1, he⟩ := Option.bind_eq_some_iff.mp he
  have hr := h.hang (hy.inVr .nilIface) ho.inVr h1
  obtain ⟨x', h2, h3⟩ := put_sound hnt hr he (.v _ _ (.c _ _ (hv _ rfl (fun p => by rw [setΦ_same]; simp [V.inVr]))))
  exact ⟨x', _, h2, h3⟩

theorem topLay_at (v : Value) (χ : Lay) (i j : Nat) : (topLay v χ).at i j = χ.at i j := rfl

theorem heap_push_lt {o : Obj} {b : Nat} (hb : b < w.heap.size) : ({ w with heap := w.heap.push o } : World).heap[b]? = w.heap[b]? := by
  simp [Array.getElem?_push, Nat.ne_of_lt hb]

theorem topLay_out {χ : Lay} {v : Value} {o : Obj} (h : RelW B s x a w) (ho : OwnOut B s w χ) (hv : ∀ b, blkOf v = some b → b = w.heap.size) :
    OwnOut B s { w with heap := w.heap.push o } (topLay v χ) := by
  refine ⟨fun q y q' y' b e1 e2 e3 e4 => ?_, fun q y b e1 e2 => ?_, fun q y b e1 e2 r p z e3 e4 => ?_⟩
  · cases q with
    | nil =>
      simp only [topLay, Option.some.injEq] at e1
      subst e1
      have hb := hv _ e2
      cases q' with
      | nil => rfl
      | cons c0 q' =>
        have := (ho.own _ _ _ e3 e4).2.1
        omega
    | cons c0 q =>
      cases q' with
      | nil =>
        simp only [topLay, Option.some.injEq] at e3
        subst e3
        have hb := hv _ e4
        have := (ho.own _ _ _ e1 e2).2.1
        omega
      | cons c1 q' => exact ho.inj _ _ _ _ _ e1 e2 e3 e4
  · cases q with
    | nil =>
      simp only [topLay, Option.some.injEq] at e1
      subst e1
      have hb := hv _ e2
      subst hb
      exact ⟨fun f hS => by have := h.slt _ _ hS; omega, by simp, .inr h.grow⟩
    | cons c0 q =>
      have := ho.own _ _ _ e1 e2
      exact ⟨this.1, by simp; omega, this.2.2⟩
  · cases q with
    | nil =>
      simp only [topLay, Option.some.injEq] at e1
      subst e1
      have hb := hv _ e2
      have := (h.own _ _ _ _ e3 e4).2.1
      omega
    | cons c0 q => exact ho.out _ _ _ e1 e2 _ _ _ e3 e4

theorem RelW.push (h : RelW B s x a w) (o : Obj) : RelW B s x a { w with heap := w.heap.push o } :=
  h.world (fun b hb => heap_push_lt hb) (by simp) rfl rfl rfl

/-- A new box. -/
theorem box_rep {ts : List T} {us : Nat → Value} {φ : Lay} (h : RelW B s x a w) (ht : Taken B s w ts us φ) {arr : Array Value} {el : TypeId} (hsz : ts.length ≤ arr.size) (hu : ∀ j, j < ts.length → arr[j]? = some (us j)) :
    RepO { w with heap := w.heap.push (.cells arr el) } s.S (.pp .own ts) (.pointer (some ⟨w.heap.size, 0, none⟩)) (topLay (.pointer (some ⟨w.heap.size, 0, none⟩)) φ) := by
  refine .box _ ts rfl w.heap.size arr el us _ (by simp) hsz (fun j t e => hu j (List.getElem?_eq_some_iff.mp e).1) (fun j t e => ?_) rfl (fun i j hij => ?_)
  · rw [topLay_at]
    exact (ht.get j t e).mono (fun f b hS => heap_push_lt (h.slt _ _ hS)) (fun _ _ h => h) (fun p z b e1 e2 => heap_push_lt (ht.own.own _ _ _ e1 e2).2.1)
  · rw [topLay_at]
    exact ht.out i j hij

/-- Cells as rows of typed data. -/
def packN (e : Ty) : Nat → List T → Option (List (den e))
  | 0, [] => some []
  | 0, _ :: _ => none
  | n + 1, ts => (pack .own e ts).bind fun p => (packN e n p.2).map (p.1 :: ·)

theorem packN_some {e : Ty} : ∀ {n : Nat} {ts : List T} {xs : List (den e)}, packN e n ts = some xs → xs.length = n ∧ ts.length = n * e.size ∧ ∀ i j t, cellOf (rows .own e xs) i j = some t → ts[i * e.size + j]? = some t
  | 0, [], xs, h => by simp only [packN, Option.some.injEq] at h; subst h; exact ⟨rfl, by simp, fun i j t e => by simp [cellOf, rows] at e⟩
  | 0, t :: ts, xs, h => by cases h
  | n + 1, ts, xs, h => by
    obtain ⟨⟨d, ts'⟩, h1, h⟩ := Option.bind_eq_some_iff.mp h
    obtain ⟨ys, h2, rfl⟩ := Option.map_eq_some_iff.mp h
    obtain ⟨g1, g2, g3⟩ := packN_some h2
    have := pack_some .own e h1
    subst this
    simp only at g2 g3
    refine ⟨by simp [g1], by simp [length_cells, g2, Nat.add_mul]; omega, fun i j t e' => ?_⟩
    have hj := (rows_lt e').2
    cases i with
    | zero =>
      rw [cellOf_rows] at e'
      simp only [List.getElem?_cons_zero, Option.bind_some, nth_eq] at e'
      rw [Nat.zero_mul, Nat.zero_add, List.getElem?_append_left (by rw [length_cells]; exact hj)]
      exact e'
    | succ i =>
      have := g3 i j t (by rw [cellOf_rows] at e' ⊢; simpa using e')
      rw [List.getElem?_append_right (by rw [length_cells, Nat.add_mul]; omega), length_cells]
      rw [show (i + 1) * e.size + j - e.size = i * e.size + j by rw [Nat.add_mul]; omega]
      exact this

/-- The layouts of cells, row after row. -/
def rowLay (φ : Lay) (n sz : Nat) : Lay := fun q => match q with
  | [] => none
  | (i, j) :: q => if i < n ∧ j < sz then φ ((0, i * sz + j) :: q) else none

theorem rowLay_some {φ : Lay} {n sz : Nat} {q : Path} {y : Value} (h : rowLay φ n sz q = some y) : ∃ i j q0, q = (i, j) :: q0 ∧ i < n ∧ j < sz ∧ φ ((0, i * sz + j) :: q0) = some y := by
  match q with
  | [] => cases h
  | (i, j) :: q =>
    simp only [rowLay] at h
    split at h
    · rename_i e; exact ⟨i, j, q, rfl, e.1, e.2, h⟩
    · cases h

theorem rowLay_out {φ : Lay} {n sz : Nat} (h : OwnOut B s w φ) : OwnOut B s w (rowLay φ n sz) := by
  refine ⟨fun q y q' y' b e1 e2 e3 e4 => ?_, fun q y b e1 e2 => ?_, fun q y b e1 e2 r p z e3 => ?_⟩
  · obtain ⟨i, j, q1, rfl, a1, b1, f1⟩ := rowLay_some e1
    obtain ⟨k, l, q2, rfl, a2, b2, f2⟩ := rowLay_some e3
    have := h.inj _ _ _ _ _ f1 e2 f2 e4
    simp only [List.cons.injEq, Prod.mk.injEq, true_and] at this
    obtain ⟨rfl, rfl⟩ := flat_inj b1 b2 this.1
    rw [this.2]
  · obtain ⟨i, j, q1, rfl, a1, b1, f1⟩ := rowLay_some e1
    exact h.own _ _ _ f1 e2
  · obtain ⟨i, j, q1, rfl, a1, b1, f1⟩ := rowLay_some e1
    exact h.out _ _ _ f1 e2 _ _ _ e3

/-- A new slice, of cells that lie row after row. -/
theorem sl_rep {e : Ty} {xs : List (den e)} {cap : Nat} {χ : Lay} (h : RelW B s x a w) (ho : OwnOut B s w χ) {arr : Array Value} {el : TypeId} (hn : xs.length ≤ cap) (hsz : cap * e.size ≤ arr.size)
    (hc : ∀ i j t, cellOf (rows .own e xs) i j = some t → ∃ u, arr[i * e.size + j]? = some u ∧ RepO w s.S t u (χ.at i j)) (hn0 : ∀ i j, cellOf (rows .own e xs) i j = none → χ.at i j = noLay) :
    RepO { w with heap := w.heap.push (.cells arr el) } s.S (.sl .own e xs) (.slice (some ⟨w.heap.size, 0, none⟩) xs.length cap) (topLay (.slice (some ⟨w.heap.size, 0, none⟩) xs.length cap) χ) := by
  cases cap with
  | zero =>
    have : xs = [] := List.length_eq_zero_iff.mp (by omega)
    subst this
    refine .nil e _ _ rfl (fun c0 p => ?_)
    obtain ⟨i, j⟩ := c0
    exact congrFun (hn0 i j (by simp [cellOf, rows])) p
  | succ cap =>
    have hex : ∀ i j, ∃ u, ∀ t, cellOf (rows .own e xs) i j = some t → arr[i * e.size + j]? = some u ∧ RepO w s.S t u (χ.at i j) := by
      intro i j
      cases hh : cellOf (rows .own e xs) i j with
      | none => exact ⟨.nilIface, fun t e => by cases e⟩
      | some t =>
        obtain ⟨u, g1, g2⟩ := hc i j t hh
        exact ⟨u, fun t' e => by cases e; exact ⟨g1, g2⟩⟩
    have hch : ∃ vs : Nat → Nat → Value, ∀ i j t, cellOf (rows .own e xs) i j = some t → arr[i * e.size + j]? = some (vs i j) ∧ RepO w s.S t (vs i j) (χ.at i j) :=
      ⟨fun i j => (hex i j).choose, fun i j => (hex i j).choose_spec⟩
    obtain ⟨vs, hvs⟩ := hch
    refine .sl e xs w.heap.size 0 cap arr el vs _ (by simp) hn (by omega) (fun i j t e' => by rw [Nat.zero_add]; exact (hvs i j t e').1) (fun i j t e' => ?_) rfl (fun i j e' => hn0 i j e')
    rw [topLay_at]
    exact (hvs i j t e').2.mono (fun f b hS => heap_push_lt (h.slt _ _ hS)) (fun _ _ h => h) (fun p z b e1 e2 => heap_push_lt (ho.own ((i, j) :: p) _ _ e1 e2).2.1)

theorem rows_hc {e : Ty} {n : Nat} {ts : List T} {xs : List (den e)} {us : Nat → Value} {φ : Lay} (ht : Taken B s w ts us φ) (hp : packN e n ts = some xs) {arr : Array Value} (hu : ∀ j, j < ts.length → arr[j]? = some (us j)) :
    (∀ i j t, cellOf (rows .own e xs) i j = some t → ∃ u, arr[i * e.size + j]? = some u ∧ RepO w s.S t u ((rowLay φ n e.size).at i j)) ∧ (∀ i j, cellOf (rows .own e xs) i j = none → (rowLay φ n e.size).at i j = noLay) := by
  obtain ⟨g1, g2, g3⟩ := packN_some hp
  refine ⟨fun i j t e' => ?_, fun i j e' => ?_⟩
  · have hlt := rows_lt e'
    have hg := g3 i j t e'
    refine ⟨us (i * e.size + j), hu _ (List.getElem?_eq_some_iff.mp hg).1, ?_⟩
    have : (rowLay φ n e.size).at i j = φ.at 0 (i * e.size + j) := by
      funext q
      simp only [Lay.at, rowLay]
      rw [if_pos ⟨by omega, hlt.2⟩]
    rw [this]
    exact ht.get _ _ hg
  · funext q
    simp only [Lay.at, rowLay, noLay]
    split
    · rename_i hij
      exfalso
      rw [cellOf_rows, List.getElem?_eq_getElem (by omega), Option.bind_some, nth_eq] at e'
      have := List.getElem?_eq_none_iff.mp e'
      rw [length_cells] at this
      omega
    · rfl

/-! ### the operations -/
def zTs : List Value → List (Option Ty) → List T
  | v :: vs, z :: zs => (match z with | some e => .sl .own e [] | none => .v v) :: zTs vs zs
  | _, _ => []

theorem zTs_get : ∀ {vs : List Value} {zs : List (Option Ty)} (_ : vs.length = zs.length) (j : Nat), (zTs vs zs)[j]? = (vs[j]?).bind fun v => (zs[j]?).map fun z => (match z with | some e => .sl .own e [] | none => .v v)
  | [], [], _, j => by simp [zTs]
  | v :: vs, z :: zs, h, 0 => by simp [zTs]
  | v :: vs, z :: zs, h, j + 1 => by simpa [zTs] using zTs_get (by simpa using h) j

theorem zTs_length : ∀ {vs : List Value} {zs : List (Option Ty)} (_ : vs.length = zs.length), (zTs vs zs).length = vs.length
  | [], [], _ => rfl
  | v :: vs, z :: zs, h => by simp [zTs, zTs_length (by simpa using h : vs.length = zs.length)]

def zLay (zs : List (Option Ty)) : Lay := fun q => match q with
  | [(i, j)] => if i = 0 then (match zs[j]? with | some (some _) => some (.slice none 0 0) | _ => none) else none
  | _ => none

/-- The cells of a type's first value. -/
theorem zTaken {vs : List Value} {zs : List (Option Ty)} (hz : zeroOk vs zs = true) : Taken B s w (zTs vs zs) (fun j => (vs[j]?).getD .nilIface) (zLay zs) := by
  obtain ⟨hlen, hall⟩ := zeroOk_spec hz
  have hb : ∀ q y, zLay zs q = some y → blkOf y = none := by
    intro q y h
    match q with
    | [] => cases h
    | [(i, j)] =>
      simp only [zLay] at h
      split at h
      · split at h
        · cases h; rfl
        · cases h
      · cases h
    | _ :: _ :: _ => cases h
  refine ⟨fun j t e => ?_, rfl, fun i j hij => ?_, ⟨fun q y q' y' b e1 e2 _ _ => absurd ((hb _ _ e1).symm.trans e2) nofun, fun q y b e1 e2 => absurd ((hb _ _ e1).symm.trans e2) nofun, fun q y b e1 e2 _ _ _ _ => absurd ((hb _ _ e1).symm.trans e2) nofun⟩⟩
  · rw [zTs_get hlen] at e
    obtain ⟨v, e1, e⟩ := Option.bind_eq_some_iff.mp e
    obtain ⟨z, e2, rfl⟩ := Option.map_eq_some_iff.mp e
    obtain ⟨g1, z', g2, g3⟩ := hall j v e1
    rw [e2, Option.some.injEq] at g2
    subst g2
    simp only [e1, Option.getD_some]
    cases z with
    | none =>
      have : (zLay zs).at 0 j = noLay := by funext q; cases q <;> simp [Lay.at, zLay, e2, noLay]
      rw [this]
      exact .sh _ _ (.v v g1) rfl
    | some e0 =>
      rw [g3 e0 rfl]
      refine .nil e0 none _ ?_ (fun c0 p => rfl)
      simp [Lay.at, zLay, e2]
  · funext q
    cases q with
    | nil =>
      simp only [Lay.at, zLay, noLay]
      rcases hij with hij | hij
      · rw [if_neg hij]
      · have : zs[j]? = none := by
          rw [List.getElem?_eq_none_iff] at hij ⊢
          rw [zTs_length hlen] at hij
          omega
        rw [this]; simp
    | cons => rfl

def allocK (cx : Ctx) (nt : Fr) (x : X) (t : TypeId) (k : Nat) (K : X → Option α) : Option α := (look cx.Ty t).bind fun i => match and (zeroOk i.zero i.zel) (Nat.ble 1 i.size) with
  | true => newK nt x k (.pp .own (zTs i.zero i.zel)) (.pt k [(0, 0)] 0 0 i.size) K
  | false => none

theorem alloc_sound {nt : Fr} (hnt : B.nt = nt) (h : RelW B s x a w) {t : TypeId} {k : Nat} {K : X → Option α} {q : α} (he : allocK c nt x t k K = some q) :
    ∃ x' s' u w', K x' = some q ∧ (Instr.alloc t true (.tuple #[])).run c.P w = .ok u w' ∧ RelW B s' x' (a.gput B k u) w' := by
  unfold allocK at he
  obtain ⟨i, e1, he⟩ := Option.bind_eq_some_iff.mp he
  have hok := c.hTy t i e1
  split at he
  rotate_left
  · cases he
  rename_i hb
  simp only [Bool.and_eq_true] at hb
  obtain ⟨z, hz1, hz2⟩ := hok.run_zeroValue w
  have htk := zTaken (B := B) (s := s) (w := w) hb.1
  obtain ⟨hlen, hall⟩ := zeroOk_spec hb.1
  have hrep := box_rep (arr := z.cells) (el := t) h htk (by rw [zTs_length hlen, ← hz2]; simp) (fun j hj => by
    rw [zTs_length hlen] at hj
    rw [← Array.getElem?_toList, hz2, List.getElem?_eq_getElem hj]; rfl)
  have hout := topLay_out (o := .cells z.cells t) (v := .pointer (some ⟨w.heap.size, 0, none⟩)) h htk.own (fun b hb => by simp only [blkOf, Option.some.injEq] at hb; exact hb.symm)
  obtain ⟨x', s', k1, k2⟩ := new_sound (v := .pointer (some ⟨w.heap.size, 0, none⟩)) hnt (h.push _) he hrep hout (fun s' _ hΦ => by
    have := RepC.pt (w := { w with heap := w.heap.push (.cells z.cells t) }) (s := s') k [(0, 0)] 0 0 i.size _ w.heap.size (hΦ []) rfl
    simpa [offOf] using this)
  exact ⟨x', s', _, _, k1, by simp [Instr.alloc, hz1, newVar, newRow], k2⟩

def boxK (cx : Ctx) (nt : Fr) (x : X) (t : TypeId) (vd : D) (k : Nat) (K : X → Option α) : Option α := (look cx.Ty t).bind fun i =>
  takeAllK i vd x fun ts x1 => newK nt x1 k (.pp .own ts) (.pt k [(0, 0)] 0 0 i.size) K

theorem box_sound {nt : Fr} (hnt : B.nt = nt) (h : RelW B s x a w) {t : TypeId} {vd : D} {vv : Value} (hv : RepD w s vd vv) {k : Nat} {K : X → Option α} {q : α} (he : boxK c nt x t vd k K = some q) :
    ∃ x' s' u w', K x' = some q ∧ (Instr.box t vv).run c.P w = .ok u w' ∧ RelW B s' x' (a.gput B k u) w' := by
  unfold boxK at he
  obtain ⟨i, e1, he⟩ := Option.bind_eq_some_iff.mp he
  obtain ⟨ts, x1, s1, us, φ, hK, tk⟩ := takeAll_sound h hv he
  have hlen := tk.len
  have hsize := tk.size
  have hrep := box_rep (arr := vv.cells) (el := t) tk.rel tk.tk (by omega) (fun j hj => tk.vals j (by omega))
  have hout := topLay_out (o := .cells vv.cells t) (v := .pointer (some ⟨w.heap.size, 0, none⟩)) tk.rel tk.tk.own (fun b hb => by simp only [blkOf, Option.some.injEq] at hb; exact hb.symm)
  obtain ⟨x', s', k1, k2⟩ := new_sound (v := .pointer (some ⟨w.heap.size, 0, none⟩)) hnt (tk.rel.push _) hK hrep hout (fun s' _ hΦ => by
    have := RepC.pt (w := { w with heap := w.heap.push (.cells vv.cells t) }) (s := s') k [(0, 0)] 0 0 i.size _ w.heap.size (hΦ []) rfl
    simpa [offOf] using this)
  exact ⟨x', s', _, _, k1, by simp [Instr.box, newVar, newRow], k2⟩

end
end Go.V
