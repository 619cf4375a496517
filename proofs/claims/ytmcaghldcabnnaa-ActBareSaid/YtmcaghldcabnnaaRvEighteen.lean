/- What is appended; appending in the state. -/
import Derived.Test.YtmcaghldcabnnaaRvSeventeen
namespace Go.V
open Go.RowKit

variable {α : Type}

/-- Nothing in it is owned. -/
def Ty.flat : Ty → Bool
  | .int _ | .bool | .str | .rsl _ | .unit => true
  | .pair a b => and a.flat b.flat
  | _ => false

theorem flat_cells {f g : Fl} : ∀ {e : Ty} (_ : e.flat = true) (d : den e), cells f e d = cells g e d := by
  intro e
  induction e with
  | pair a b iha ihb =>
    intro h d
    simp only [Ty.flat, Bool.and_eq_true] at h
    simp only [cells, iha h.1, ihb h.2]
  | int | bool | str | rsl | unit => intro _ _; rfl
  | _ => intro h _; simp [Ty.flat] at h

theorem flat_sh {f : Fl} : ∀ {e : Ty} (_ : e.flat = true) (d : den e), ∀ t ∈ cells f e d, t.isSh = true := by
  intro e
  induction e with
  | pair a b iha ihb =>
    intro h d t ht
    simp only [Ty.flat, Bool.and_eq_true] at h
    simp only [cells, app_eq, List.mem_append] at ht
    rcases ht with ht | ht
    · exact iha h.1 _ t ht
    · exact ihb h.2 _ t ht
  | int | bool | str | rsl => intro _ d t ht; simp only [cells, List.mem_singleton] at ht; subst ht; rfl
  | unit => intro _ d t ht; simp [cells] at ht
  | _ => intro h _; simp [Ty.flat] at h

def byteI (b : UInt8) : den (.int .u8) := (b.toNat : Int)

/-- The elements that a slice or text has, to be copied (or taken, if they own something). -/
def srcK (x : X) (e : Ty) (z : C) (K : List (den e) → X → Option α) : Option α := match z with
  | .k t => match t with
    | .sl .own _ _ => none
    | .sl _ e' ys => match e.flat with
      | true => (cast? (.sl e') (.sl e) ys).bind fun ys => K ys x
      | false => none
    | .v (.string s) => (cast? (.sl (.int .u8)) (.sl e) (s.data.toList.map byteI)).bind fun ys => K ys x
    | _ => none
  | .nil => K [] x
  | .own r p _ => match e.flat with
    | true => atK x r p fun t => match t with
      | .sl .own e' ys => (cast? (.sl e') (.sl e) ys).bind fun ys => K ys x
      | _ => none
    | false => takeCK x none z fun t x1 => match t with
      | .sl .own e' ys => (cast? (.sl e') (.sl e) ys).bind fun ys => K ys x1
      | _ => none
  | .sub r p lo n e0 => match e.flat with
    | true => atK x r p fun t => match t with
      | .sl .own e' ys => match Nat.beq e0.size e'.size with
        | true => (cast? (.sl e') (.sl e) ys).bind fun ys => K (midL ys lo n) x
        | false => none
      | _ => none
    | false => none
  | _ => none

section
variable {c : Ctx} {B : Base} {s : Sit} {x : X} {a : Act} {w : World}

/-- Values that stand in rows. -/
def flatU (n sz : Nat) (vs : Nat → Nat → Value) : List Value := (List.range (n * sz)).map fun k => vs (k / sz) (k % sz)

theorem flatU_get {n sz i j : Nat} {vs : Nat → Nat → Value} (hi : i < n) (hj : j < sz) : (flatU n sz vs)[i * sz + j]? = some (vs i j) := by
  have hlt : i * sz + j < n * sz := by
    have : (i + 1) * sz ≤ n * sz := Nat.mul_le_mul_right _ hi
    rw [Nat.add_mul, Nat.one_mul] at this
    omega
  simp only [flatU, List.getElem?_map, List.getElem?_range hlt, Option.map_some, Option.some.injEq]
  have h1 : (i * sz + j) / sz = i := by rw [Nat.mul_comm, Nat.mul_add_div (by omega), Nat.div_eq_of_lt hj, Nat.add_zero]
  have h2 : (i * sz + j) % sz = j := by rw [Nat.mul_comm, Nat.mul_add_mod, Nat.mod_eq_of_lt hj]
  rw [h1, h2]

theorem flatU_some {n sz k : Nat} {vs : Nat → Nat → Value} {u : Value} (h : (flatU n sz vs)[k]? = some u) : ∃ i j, i < n ∧ j < sz ∧ k = i * sz + j ∧ u = vs i j := by
  have hlt : k < n * sz := by have := (List.getElem?_eq_some_iff.mp h).1; simpa [flatU] using this
  simp only [flatU, List.getElem?_map, List.getElem?_range hlt, Option.map_some, Option.some.injEq] at h
  have hsz : 0 < sz := Nat.pos_of_ne_zero (fun e => by rw [e] at hlt; simp at hlt)
  refine ⟨k / sz, k % sz, Nat.div_lt_of_lt_mul (by rw [Nat.mul_comm]; exact hlt), Nat.mod_lt _ hsz, ?_, h.symm⟩
  rw [Nat.mul_comm]; exact (Nat.div_add_mod k sz).symm

theorem src_slice {sz n cap : Nat} {b : Option Addr} {us : List Value} (hl : us.length = n * sz) (h : n = 0 ∨ ∃ bb o, b = some ⟨bb, o, none⟩ ∧ ∀ (k : Nat) u, us[k]? = some u → w.cell? ⟨bb, o + k, none⟩ = some u) :
    SrcRuns c.P w sz (.slice b n cap) n us :=
  ⟨rfl, fun d => run_firstCells (w := { w with drawn := d }) hl h⟩

/-- An owned slice's cells, where they lie. -/
theorem own_rows {S : Fl → Nat → Prop} {e : Ty} {xs : List (den e)} {v : Value} {φ : Lay} (h : RepO w S (.sl .own e xs) v φ) :
    ∃ us b cap, v = .slice b xs.length cap ∧ RowsAt w S e xs us (fun q => match q with | [] => none | q => φ q) ∧ SrcRuns c.P w e.size v xs.length us := by
  cases h with
  | sh _ _ _ ht => simp [T.isSh] at ht
  | box _ cs ht => simp [T.box?] at ht
  | nil _ ad φ h0 hn =>
    exact ⟨[], ad, 0, rfl, ⟨by simp, fun i j t e' => by simp [cellOf, rows] at e', fun i j _ => by funext q; exact hn (i, j) q⟩, src_slice (by simp) (.inl rfl)⟩
  | sl _ _ b off cap arr el vs φ hb hcap hsz hc hr h0 hn =>
    refine ⟨flatU xs.length e.size vs, _, _, rfl, ⟨by simp [flatU], fun i j t e' => ?_, fun i j e' => hn i j e'⟩, src_slice (by simp [flatU]) (.inr ⟨b, off, rfl, fun k u hk => ?_⟩)⟩
    · have hij := rows_lt e'
      exact ⟨vs i j, flatU_get hij.1 hij.2, hr i j t e'⟩
    · obtain ⟨i, j, hi, hj, rfl, rfl⟩ := flatU_some hk
      rw [cell?_of_cells hb]
      have hcell : ∃ t, cellOf (rows .own e xs) i j = some t := by
        rw [cellOf_rows, List.getElem?_eq_getElem hi, Option.bind_some, nth_eq]
        exact ⟨_, List.getElem?_eq_getElem (by rw [length_cells]; exact hj)⟩
      obtain ⟨t, ht⟩ := hcell
      exact hc i j t ht

theorem flat_rows {S : Fl → Nat → Prop} {e : Ty} {xs : List (den e)} {us : List Value} {φ : Lay} (hf : e.flat = true) (h : RowsAt w S e xs us φ) : RowsAt w S e xs us noLay := by
  refine ⟨h.len, fun i j t e' => ?_, fun _ _ _ => rfl⟩
  obtain ⟨u, g1, g2⟩ := h.get i j t e'
  refine ⟨u, g1, ?_⟩
  have hsh : t.isSh = true := by
    rw [cellOf_rows] at e'
    obtain ⟨d, _, e'⟩ := Option.bind_eq_some_iff.mp e'
    rw [nth_eq] at e'
    exact flat_sh hf d t (List.mem_of_getElem? e')
  rw [g2.shLay hsh] at g2
  exact g2

theorem sh_rows {S : Fl → Nat → Prop} {f : Fl} {e : Ty} {xs : List (den e)} {v : Value} (hf : e.flat = true) (h : RepR w S (.sl f e xs) v) :
    ∃ us b cap, v = .slice b xs.length cap ∧ RowsAt w S e xs us noLay ∧ SrcRuns c.P w e.size v xs.length us := by
  cases h with
  | box _ _ _ hb => simp [T.shBox?] at hb
  | nil _ _ ad cap => exact ⟨[], ad, cap, rfl, ⟨by simp, fun i j t e' => by simp [cellOf, rows] at e', fun _ _ _ => rfl⟩, src_slice (by simp) (.inl rfl)⟩
  | sl _ _ _ b off cap vs hR hcap hc hr =>
    have hcell : ∀ i j t, cellOf (rows .own e xs) i j = some t → cellOf (rows f e xs) i j = some t := by
      intro i j t e'
      rw [cellOf_rows] at e' ⊢
      obtain ⟨d, h1, h2⟩ := Option.bind_eq_some_iff.mp e'
      rw [h1, Option.bind_some, flat_cells (f := f) (g := .own) hf d]
      exact h2
    refine ⟨flatU xs.length e.size vs, _, _, rfl, ⟨by simp [flatU], fun i j t e' => ?_, fun _ _ _ => rfl⟩, src_slice (by simp [flatU]) (.inr ⟨b, off, rfl, fun k u hk => ?_⟩)⟩
    · have hij := rows_lt e'
      refine ⟨vs i j, flatU_get hij.1 hij.2, .sh _ _ (hr i j t (hcell i j t e')) ?_⟩
      rw [cellOf_rows] at e'
      obtain ⟨d, _, e'⟩ := Option.bind_eq_some_iff.mp e'
      rw [nth_eq] at e'
      exact flat_sh hf d t (List.mem_of_getElem? e')
    · obtain ⟨i, j, hi, hj, rfl, rfl⟩ := flatU_some hk
      have hex : ∃ t, cellOf (rows .own e xs) i j = some t := by
        rw [cellOf_rows, List.getElem?_eq_getElem hi, Option.bind_some, nth_eq]
        exact ⟨_, List.getElem?_eq_getElem (by rw [length_cells]; exact hj)⟩
      obtain ⟨t, ht⟩ := hex
      rw [← hc i j t (hcell i j t ht), Nat.add_assoc]

theorem str_rows {S : Fl → Nat → Prop} (l : ByteArray) : RowsAt w S (.int .u8) (l.data.toList.map byteI) (l.data.toList.map fun b => .int .u8 b.toNat) noLay ∧ SrcRuns c.P w 1 (.string l) l.size (l.data.toList.map fun b => .int .u8 b.toNat) := by
  refine ⟨⟨by rw [List.length_map, List.length_map]; simp [Ty.size], fun i j t e' => ?_, fun _ _ _ => rfl⟩, rfl, fun d => ?_⟩
  · have hj : j = 0 := by have := (rows_lt e').2; simp only [Ty.size] at this; omega
    subst hj
    rw [cellOf_rows, List.getElem?_map] at e'
    obtain ⟨d, h1, h2⟩ := Option.bind_eq_some_iff.mp e'
    obtain ⟨b, h3, rfl⟩ := Option.map_eq_some_iff.mp h1
    simp only [cells, nth, Option.some.injEq] at h2
    subst h2
    exact ⟨.int .u8 (byteI b), by simp [Ty.size, h3, byteI], .sh _ _ (.v _ rfl) rfl⟩
  · have : l.extract 0 l.size = l := by
      apply ByteArray.ext
      simp [ByteArray.data_extract]
    simp only [Builtin.firstCells, this, Sem.run_pure]
    congr 1
    apply Array.ext'
    simp

structure Src (P : Program) (B : Base) (s : Sit) (x1 : X) (a : Act) (w : World) (e : Ty) (ys : List (den e)) (v : Value) (us : List Value) (χ : Lay) (s1 : Sit) : Prop where
  rel : RelW B s1 x1 a w
  rows : RowsAt w s.S e ys us χ
  out : OwnOut B s1 w χ
  S : s1.S = s.S
  F : s1.F = s.F
  sub : ∀ r p z, s1.Φ r p = some z → s.Φ r p = some z
  orig : ∀ q y b, χ q = some y → blkOf y = some b → ∃ r p z, s.Φ r p = some z ∧ blkOf z = some b
  runs : SrcRuns P w e.size v ys.length us

theorem src_sound (h : RelW B s x a w) {e : Ty} {z : C} {v : Value} (hz : RepC w s z v) {K : List (den e) → X → Option α} {q : α} (he : srcK x e z K = some q) :
    ∃ ys x1 us χ s1, K ys x1 = some q ∧ Src c.P B s x1 a w e ys v us χ s1 := by
  have plain : ∀ {ys : List (den e)} {us : List Value}, K ys x = some q → RowsAt w s.S e ys us noLay → SrcRuns c.P w e.size v ys.length us → ∃ ys x1 us χ s1, K ys x1 = some q ∧ Src c.P B s x1 a w e ys v us χ s1 :=
    fun hK hr hs => ⟨_, x, _, noLay, s, hK, h, hr, .none B s w, rfl, rfl, fun _ _ _ h => h, fun _ _ _ h => (by cases h), hs⟩
  unfold srcK at he
  split at he
  · split at he
    · cases he
    · rename_i t f e' ys hf
      split at he
      · rename_i hfl
        obtain ⟨ys', h1, he⟩ := Option.bind_eq_some_iff.mp he
        obtain ⟨e1, rfl⟩ := cast?_some h1
        cases e1
        cases hz with
        | k _ _ hr =>
          obtain ⟨us, b, cap, g1, g2, g3⟩ := sh_rows (c := c) hfl hr
          exact plain he g2 g3
      · cases he
    · rename_i l
      obtain ⟨ys', h1, he⟩ := Option.bind_eq_some_iff.mp he
      obtain ⟨e1, rfl⟩ := cast?_some h1
      cases e1
      have : v = .string l := RepC.scal hz
      subst this
      obtain ⟨g1, g2⟩ := str_rows (c := c) (w := w) (S := s.S) l
      refine plain he g1 ?_
      have hl : l.size = (l.data.toList.map byteI).length := by rw [List.length_map, Array.length_toList]; rfl
      rw [hl] at g2
      exact g2
    · cases he
  · cases hz with
    | nil ad => exact plain he ⟨by simp, fun i j t e' => by simp [cellOf, rows] at e', fun _ _ _ => rfl⟩ (src_slice (us := []) (by simp) (.inl rfl))
  · rename_i r p e0
    split at he
    · rename_i hfl
      obtain ⟨t, h1, he⟩ := atK_some he
      split at he
      · rename_i e' ys
        obtain ⟨ys', h2, he⟩ := Option.bind_eq_some_iff.mp he
        obtain ⟨e1, rfl⟩ := cast?_some h2
        cases e1
        cases hz with
        | own _ _ _ _ hΦ =>
          obtain ⟨row, k1, k2⟩ := Option.bind_eq_some_iff.mp h1
          obtain ⟨y0, hy0⟩ := h.roots r row k1
          obtain ⟨y, hy⟩ := getT_own p hy0 k2
          obtain ⟨us, b, cap, g1, g2, g3⟩ := own_rows (c := c) hy
          have hv : y = v := by
            have hv' : ((s.Φ r).under p) [] = some v := by rw [Lay.under_apply_nil]; exact hΦ
            generalize (s.Φ r).under p = φ at hy hv'
            cases hy with
            | sh _ _ _ ht => simp [T.isSh] at ht
            | nil e ad φ h0 hn => rw [h0, Option.some.injEq] at hv'; exact hv'
            | sl e xs b off cap arr el vs φ hb hcap hsz hc hr h0 hn => rw [h0, Option.some.injEq] at hv'; exact hv'
            | box _ cs ht => simp [T.box?] at ht
          subst hv
          exact plain he (flat_rows hfl g2) g3
      · cases he
    · obtain ⟨t, x1, s1, ψ, hK, tc⟩ := takeC_sound h hz he
      split at hK
      · rename_i e' ys
        obtain ⟨ys', h2, hK⟩ := Option.bind_eq_some_iff.mp hK
        obtain ⟨e1, rfl⟩ := cast?_some h2
        cases e1
        obtain ⟨us, b, cap, g1, g2, g3⟩ := own_rows (c := c) tc.rep
        have hsubl : ∀ (q : Path) y, (fun q => match q with | [] => none | q => ψ q : Lay) q = some y → ψ q = some y := by
          intro q y e1
          cases q with
          | nil => cases e1
          | cons => exact e1
        exact ⟨_, x1, us, _, s1, hK, tc.rel, g2, ⟨fun p y p' y' b e1 e2 e3 e4 => tc.out.inj _ _ _ _ _ (hsubl _ _ e1) e2 (hsubl _ _ e3) e4, fun q y b e1 => tc.out.own _ _ _ (hsubl _ _ e1), fun q y b e1 => tc.out.out _ _ _ (hsubl _ _ e1)⟩,
          tc.S, tc.F, tc.sub, fun q y b e1 e2 => tc.orig _ _ _ (hsubl _ _ e1) e2, g3⟩
      · cases hK
  · rename_i r p lo n e0
    split at he
    · rename_i hfl
      obtain ⟨t, h1, he⟩ := atK_some he
      split at he
      · rename_i e' ys
        split at he
        · rename_i hsz
          have hsz := Nat.eq_of_beq_eq_true hsz
          obtain ⟨ys', h2, he⟩ := Option.bind_eq_some_iff.mp he
          obtain ⟨e1, rfl⟩ := cast?_some h2
          cases e1
          cases hz with
          | sub _ _ _ _ _ a1 a' n0 cap cap' hΦ hle hcap hcn hcc h0 hn =>
            obtain ⟨row, k1, k2⟩ := Option.bind_eq_some_iff.mp h1
            obtain ⟨y0, hy0⟩ := h.roots r row k1
            obtain ⟨y, hy⟩ := getT_own p hy0 k2
            have hv : y = .slice a1 n0 cap := by
              have hv' : ((s.Φ r).under p) [] = some (.slice a1 n0 cap) := by rw [Lay.under_apply_nil]; exact hΦ
              generalize (s.Φ r).under p = φ at hy hv'
              cases hy with
              | sh _ _ _ ht => simp [T.isSh] at ht
              | nil e ad φ h0 hn => rw [h0, Option.some.injEq] at hv'; exact hv'
              | sl e xs b off cap arr el vs φ hb hcap hsz hc hr h0 hn => rw [h0, Option.some.injEq] at hv'; exact hv'
              | box _ cs ht => simp [T.box?] at ht
            subst hv
            obtain ⟨ψ, m1, -⟩ := mid_rep (a' := a') hy hle hcn hcc (fun hc0 => by
              obtain ⟨b, off, f1, f2⟩ := hn hc0
              exact ⟨b, off, f1, by rw [f2, hsz]⟩)
            obtain ⟨us, b, cap2, g1, g2, g3⟩ := own_rows (c := c) m1
            exact plain he (flat_rows hfl g2) g3
        · cases he
      · cases he
    · cases he
  · cases he

def isNilC : C → Bool
  | .nil => true
  | _ => false

/-- The cell that an operand is. -/
def D.one : D → Option C
  | .v (.c y) => some y
  | _ => none

def appendK (cx : Ctx) (nt : Fr) (x : X) (ats : Array TypeId) (d1 d2 : D) (k : Nat) (K : X → Option α) : Option α :=
  (nth ats.toList 0).bind fun st => (nth ats.toList 1).bind fun xt => (look cx.Ty st).bind fun i => (look cx.Ty xt).bind fun xi => match i.d with
    | .sl e => (look cx.Ty e).bind fun ei => (d1.one).bind fun y => (d2.one).bind fun z =>
      match and (Nat.beq ei.ty.size ei.size) (and (Nat.ble 1 ei.size) (and (Nat.ble 1 ei.bytes) (and (Nat.beq ei.zero.length ei.size) (match xi.d with | .sl _ => true | .str => true | _ => false)))) with
      | true => takeCK x (some ei.ty) y fun t x1 => match t with
        | .sl .own e1 xs => (cast? (.sl e1) (.sl ei.ty) xs).bind fun xs => srcK x1 ei.ty (killBy y z) fun ys x2 =>
          cond (roomOk (isNilC y) xs.length ys.length ei.bytes) (newK nt x2 k (.sl .own ei.ty (app xs ys)) (.own k [(0, 0)] ei.ty) K) none
        | _ => none
      | false => none
    | _ => none

theorem append_sound {nt : Fr} (hnt : B.nt = nt) (h : RelW B s x a w) {ats : Array TypeId} {ty : TypeId} {d1 d2 : D} {v1 v2 : Value} (hv1 : RepD w s d1 v1) (hv2 : RepD w s d2 v2) {k : Nat} {K : X → Option α} {q : α}
    (he : appendK c nt x ats d1 d2 k K = some q) :
    ∃ x' s' u w', K x' = some q ∧ (Builtin.append_ ats ty #[v1, v2]).run c.P w = .ok u w' ∧ RelW B s' x' (a.gput B k u) w' := by
  unfold appendK at he
  obtain ⟨st, h00, he⟩ := Option.bind_eq_some_iff.mp he
  obtain ⟨xt, h11, he⟩ := Option.bind_eq_some_iff.mp he
  have h0 : ats[0]? = some st := by rw [nth_eq, Array.getElem?_toList] at h00; exact h00
  have h1 : ats[1]? = some xt := by rw [nth_eq, Array.getElem?_toList] at h11; exact h11
  obtain ⟨i, e1, he⟩ := Option.bind_eq_some_iff.mp he
  obtain ⟨xi, e2, he⟩ := Option.bind_eq_some_iff.mp he
  have hi := c.hTy st i e1
  have hxi := c.hTy xt xi e2
  split at he
  rotate_left
  · cases he
  rename_i e hel
  obtain ⟨ei, e3, he⟩ := Option.bind_eq_some_iff.mp he
  have hei := c.hTy e ei e3
  obtain ⟨y, hy, he⟩ := Option.bind_eq_some_iff.mp he
  obtain ⟨z, hz, he⟩ := Option.bind_eq_some_iff.mp he
  have hy' : d1 = .v (.c y) := by unfold D.one at hy; split at hy <;> cases hy; rfl
  have hz' : d2 = .v (.c z) := by unfold D.one at hz; split at hz <;> cases hz; rfl
  rw [hy'] at hv1
  rw [hz'] at hv2
  have hrc1 : RepC w s y v1 := by cases hv1 with | v _ _ hv1 => cases hv1 with | c _ _ hv1 => exact hv1
  have hrc2 : RepC w s z v2 := by cases hv2 with | v _ _ hv2 => cases hv2 with | c _ _ hv2 => exact hv2
  split at he
  rotate_left
  · cases he
  rename_i hb
  simp only [Bool.and_eq_true] at hb
  obtain ⟨hb1, hb2, hb3, hb4, hb5⟩ := hb
  have hb1 := Nat.eq_of_beq_eq_true hb1
  have hb2 := Nat.le_of_ble_eq_true hb2
  have hb3 := Nat.le_of_ble_eq_true hb3
  have hb4 := Nat.eq_of_beq_eq_true hb4
  obtain ⟨t, x1, s1, ψ, hK, tc⟩ := takeC_sound h hrc1 he
  split at hK
  rotate_left
  · cases hK
  rename_i e1' xs0
  obtain ⟨xs, h2, hK⟩ := Option.bind_eq_some_iff.mp hK
  obtain ⟨e4, rfl⟩ := cast?_some h2
  cases e4
  obtain ⟨ys, x2, us, χ, s2, hK2, src⟩ := src_sound (c := c) tc.rel (tc.live _ _ hrc2) hK
  rcases cond_some hK2 with ⟨hroom, hK3⟩ | ⟨_, hK3⟩
  rotate_left
  · cases hK3
  have hval : ∃ base cap0, v1 = .slice base xs0.length cap0 ∧ (isNilC y = true → cap0 = 0) := by
    have hnil : isNilC y = true → v1.cells = v1.cells ∧ ∃ b, v1 = .slice b 0 0 := by
      intro e
      cases hrc1 <;> simp [isNilC] at e
      exact ⟨rfl, _, rfl⟩
    have hrep := tc.rep
    cases hrep with
    | sh _ _ _ ht => simp [T.isSh] at ht
    | nil _ ad φ _ _ => exact ⟨ad, 0, rfl, fun _ => rfl⟩
    | sl _ _ b off cap arr el vs φ => exact ⟨_, cap + 1, rfl, fun e => by obtain ⟨_, b, hb⟩ := hnil e; simp at hb⟩
    | box _ cs ht => simp [T.box?] at ht
  obtain ⟨base, cap0, rfl, hnil⟩ := hval
  have hxd : ∃ xd, c.P.underlying xt = some xd ∧ ∀ k, xd ≠ .int k := by
    split at hb5
    · rename_i e9 h9; exact ⟨_, hxi.slice h9, nofun⟩
    · rename_i h9; exact ⟨_, hxi.string h9, nofun⟩
    · cases hb5
  obtain ⟨xd, hxu, hxd⟩ := hxd
  have hsrcR : SrcRuns c.P w ei.size v2 ys.length us := by rw [← hb1]; exact src.runs
  obtain ⟨v', w', ψ', r1, r2, r3, r4, r5⟩ := append_core (ty := ty) h0 h1 hi hel hxu hxd hei hb4 hb3 src.rel (te := ei.ty) hb1 (by omega) (xs := xs0) (ys := ys) (ψ := ψ) (χ := χ) (base := base) (n0 := xs0.length) (cap0 := cap0)
    (by rw [src.S, tc.S]; exact tc.rep) (tc.out.sub src.S src.sub) (by rw [src.S]; exact src.rows) src.out
    (fun q1 y1 b1 g1 g2 q' y' g3 g4 => by
      obtain ⟨r, p, z', f1, f2⟩ := src.orig _ _ _ g1 g2
      exact tc.out.out _ _ _ g3 g4 _ _ _ f1 f2) rfl hsrcR hnil hroom
  rw [app_eq] at hK3
  obtain ⟨x', s', k1, k2⟩ := new_sound (v := v') hnt r2 hK3 r3 r4 (fun s' _ hΦ => .own k [(0, 0)] ei.ty v' (by rw [hΦ []]; exact r5))
  exact ⟨x', s', _, w', k1, r1, k2⟩

end
end Go.V
