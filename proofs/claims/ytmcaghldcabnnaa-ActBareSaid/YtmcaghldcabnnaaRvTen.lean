/- Some cells of one row of a node, turned together. -/
import Derived.Test.YtmcaghldcabnnaaRvNine
namespace Go.V
open Go.RowKit

def getRowT (t : T) (i : Nat) : Option (List T) := match t with
  | .sl .own e xs => (xs[i]?).map (cells .own e)
  | .pt .own e d => match i with
    | 0 => some (cells .own e d)
    | _ + 1 => none
  | .pp .own cs => match i with
    | 0 => some cs
    | _ + 1 => none
  | .vr cs => match i with
    | 0 => some cs
    | _ + 1 => none
  | .slo e xs i' cs => (xs[i]?).bind fun _ => match and (Nat.beq i i') (Nat.beq cs.length e.size) with
    | true => some cs
    | false => none
  | .po _ cs => match i with
    | 0 => some cs
    | _ + 1 => none
  | _ => none

def putRowT (t : T) (i : Nat) (cs : List T) : Option T := match t with
  | .sl .own e xs => some (closeS e xs i cs)
  | .pt .own e _ => some (closeB e cs)
  | .pp .own _ => some (.pp .own cs)
  | .vr _ => some (.vr cs)
  | .slo e xs _ _ => some (closeS e xs i cs)
  | .po e _ => some (closeB e cs)
  | _ => none

def setRowT : Path → T → Nat → List T → Option T
  | [], t, i, cs => putRowT t i cs
  | (k, l) :: p, t, i, cs => (childT t k l).bind fun c => (setRowT p c i cs).bind fun c' => putChild t k l c'

theorem getRow_child {t : T} {i : Nat} {cs : List T} (h : getRowT t i = some cs) (j : Nat) : childT t i j = cs[j]? := by
  cases t with
  | sl f e xs =>
    cases f <;> simp only [getRowT, reduceCtorEq] at h
    obtain ⟨x, hx, rfl⟩ := Option.map_eq_some_iff.mp h
    simp only [childT, hx, Option.bind_some, nth_eq]
  | pt f e d =>
    cases f <;> simp only [getRowT, reduceCtorEq] at h
    cases i <;> simp only [reduceCtorEq, Option.some.injEq] at h
    subst h; simp [childT, nth_eq]
  | pp f cs' =>
    cases f <;> simp only [getRowT, reduceCtorEq] at h
    cases i <;> simp only [reduceCtorEq, Option.some.injEq] at h
    subst h; simp [childT, nth_eq]
  | vr cs' =>
    simp only [getRowT] at h
    cases i <;> simp only [reduceCtorEq, Option.some.injEq] at h
    subst h; simp [childT, nth_eq]
  | slo e xs i' cs' =>
    simp only [getRowT] at h
    obtain ⟨x, hx, h⟩ := Option.bind_eq_some_iff.mp h
    split at h
    · rename_i hb
      simp only [Option.some.injEq] at h
      subst h
      simp only [Bool.and_eq_true] at hb
      have hl := Nat.eq_of_beq_eq_true hb.2
      simp only [childT, hx, Option.bind_some, hb.1, nth_eq]
      by_cases hj : j < e.size
      · rw [Nat.blt_eq.symm ▸ hj |> (fun h => (h : Nat.blt j e.size = true))]
      · rw [List.getElem?_eq_none (by omega)]
        cases Nat.blt j e.size <;> rfl
    · cases h
  | po e cs' =>
    simp only [getRowT] at h
    cases i <;> simp only [reduceCtorEq, Option.some.injEq] at h
    subst h; simp [childT, nth_eq]
  | _ => simp [getRowT] at h

/-- The row of a slice turned. -/
theorem putRow_X {t t' : T} {e : Ty} {n : Nat} {f : Nat → Nat → Option T} (hX : SlX t e n f) {i : Nat} {cs cs' : List T} (h : getRowT t i = some cs) (hl : cs'.length = cs.length) (hp : putRowT t i cs' = some t') :
    ∃ f', SlX t' e n f' ∧ ∀ k l, f' k l = if k = i then cs'[l]? else f k l := by
  have fin : ∀ {xs : List (den e)} {t0 : T}, n = xs.length → i < xs.length → cs.length = e.size → t' = closeS e xs i cs' → (∀ k l, k ≠ i → f k l = cellOf (rows .own e xs) k l) →
      ∃ f', SlX t' e n f' ∧ ∀ k l, f' k l = if k = i then cs'[l]? else f k l := by
    intro xs t0 hn hi hlen ht hf
    subst ht
    obtain ⟨f', h1, h2⟩ := closeS_X (e := e) (xs := xs) (i := i) (cs := cs') hi
    rw [hn]
    refine ⟨f', h1, fun k l => ?_⟩
    by_cases hls : l < e.size
    · rw [h2 k l hls]
      by_cases hk : k = i
      · rw [if_pos hk, if_pos hk]
      · rw [if_neg hk, if_neg hk, hf k l hk]
    · have h3 : f' k l = none := by
        cases h5 : f' k l with
        | none => rfl
        | some v => exact absurd (h1.lt h5).2 hls
      rw [h3]
      by_cases hk : k = i
      · rw [if_pos hk, List.getElem?_eq_none (by omega)]
      · rw [if_neg hk]
        cases h6 : f k l with
        | none => rfl
        | some v => exact absurd (hX.lt h6).2 hls
  cases hX with
  | sl _ xs =>
    simp only [getRowT] at h
    obtain ⟨x, hx, rfl⟩ := Option.map_eq_some_iff.mp h
    simp only [putRowT, Option.some.injEq] at hp
    exact fin (t0 := t') rfl (List.getElem?_eq_some_iff.mp hx).1 (length_cells _ _ _) hp.symm (fun k l _ => rfl)
  | slo _ xs i' cs0 =>
    simp only [getRowT] at h
    obtain ⟨x, hx, h⟩ := Option.bind_eq_some_iff.mp h
    split at h
    · rename_i hb
      simp only [Option.some.injEq] at h
      subst h
      simp only [Bool.and_eq_true] at hb
      have hii := Nat.eq_of_beq_eq_true hb.1
      subst hii
      simp only [putRowT, Option.some.injEq] at hp
      refine fin (t0 := t') rfl (List.getElem?_eq_some_iff.mp hx).1 (Nat.eq_of_beq_eq_true hb.2) hp.symm (fun k l hk => ?_)
      unfold cellX
      by_cases hkl : k < xs.length ∧ l < e.size
      · rw [if_pos hkl, if_neg hk]
      · rw [if_neg hkl]
        cases h6 : cellOf (rows .own e xs) k l with
        | none => rfl
        | some v => exact absurd (rows_lt h6) hkl
    · cases h

/-- Behind a row's turning: its cells are the new ones, the other rows are as they were. -/
theorem putRow_child {t t' : T} {i : Nat} {cs cs' : List T} (h : getRowT t i = some cs) (hl : cs'.length = cs.length) (hp : putRowT t i cs' = some t') (k l : Nat) :
    childT t' k l = if k = i then cs'[l]? else childT t k l := by
  have slx : ∀ {e : Ty} {n : Nat} {f : Nat → Nat → Option T}, SlX t e n f → childT t' k l = if k = i then cs'[l]? else childT t k l := by
    intro e n f hX
    obtain ⟨f', h1, h2⟩ := putRow_X hX h hl hp
    rw [h1.child, hX.child, h2]
  have bx : ∀ {c1 c2 : List T}, t.box? = some c1 → t'.box? = some cs' → i = 0 → childT t' k l = if k = i then cs'[l]? else childT t k l := by
    intro c1 c2 h1 h2 h3
    subst h3
    rw [box_child h1, box_child h2]
    by_cases hk : k = 0
    · rw [if_pos hk, if_pos hk]
    · rw [if_neg hk, if_neg hk, if_neg hk]
  cases t with
  | sl f e xs =>
    cases f <;> try (simp only [getRowT, reduceCtorEq] at h; done)
    exact slx (.sl e xs)
  | slo e xs i' cs0 => exact slx (.slo e xs i' cs0)
  | pt f e d =>
    cases f <;> simp only [getRowT, reduceCtorEq] at h
    cases i <;> simp only [reduceCtorEq, Option.some.injEq] at h
    simp only [putRowT, Option.some.injEq] at hp
    exact bx (c2 := cs) rfl (by rw [← hp, closeB_box]) rfl
  | po e cs0 =>
    simp only [getRowT] at h
    cases i <;> simp only [reduceCtorEq, Option.some.injEq] at h
    simp only [putRowT, Option.some.injEq] at hp
    exact bx (c2 := cs) rfl (by rw [← hp, closeB_box]) rfl
  | pp f cs0 =>
    cases f <;> simp only [getRowT, reduceCtorEq] at h
    cases i <;> simp only [reduceCtorEq, Option.some.injEq] at h
    simp only [putRowT, Option.some.injEq] at hp
    subst hp
    cases k <;> simp [childT, nth_eq]
  | vr cs0 =>
    simp only [getRowT] at h
    cases i <;> simp only [reduceCtorEq, Option.some.injEq] at h
    simp only [putRowT, Option.some.injEq] at hp
    subst hp
    cases k <;> simp [childT, nth_eq]
  | _ => simp [getRowT] at h

/-- In the node's own block the row's cells have got these values, and nothing else has turned there. -/
def RowTurn (w w' : World) (t : T) (v : Option Value) (i : Nat) (ys : Nat → Option Value) : Prop :=
  match t with
  | .vr _ => True
  | t => ∃ b, v.bind blkOf = some b ∧ ∀ arr el, w.heap[b]? = some (.cells arr el (0, 0)) → ∃ arr', w'.heap[b]? = some (.cells arr' el (0, 0)) ∧ arr'.size = arr.size ∧
      (∀ j y, ys j = some y → arr'[t.idx v i j]? = some y) ∧ (∀ m, (∀ j y, ys j = some y → m ≠ t.idx v i j) → arr'[m]? = arr[m]?)

/-- A node whose row has turned. -/
theorem putRow_own {w w' : World} {S : Fl → Nat → Prop} {t t' : T} {x : Value} {φ φ' : Lay} {i : Nat} {cs cs' : List T} {ys : Nat → Option Value} (h : RepO w S t x φ) (hg : getRowT t i = some cs) (hl : cs'.length = cs.length)
    (hp : putRowT t i cs' = some t') (hS : ∀ f b, S f b → w'.heap[b]? = w.heap[b]?) (hrow : RowTurn w w' t (φ []) i ys)
    (hnew : ∀ (j : Nat) u, cs'[j]? = some u → (∃ y, ys j = some y ∧ RepO w' S u y (φ'.at i j)) ∨ (ys j = none ∧ cs[j]? = some u ∧ φ'.at i j = φ.at i j ∧ KeptBy (φ.at i j) w w'))
    (hk : ∀ k l, k ≠ i → KeptBy (φ.at k l) w w') (hys : ∀ j, cs[j]? = none → ys j = none)
    (h0' : φ' [] = φ []) (hn' : ∀ k l, k ≠ i → φ'.at k l = φ.at k l) (hb' : ∀ l, cs[l]? = none → φ'.at i l = noLay) : RepO w' S t' x φ' := by
  have hch := putRow_child hg hl hp
  have hgc := getRow_child hg
  have hlen' : ∀ l, cs'[l]? = none → cs[l]? = none := fun l e => by
    rw [List.getElem?_eq_none_iff] at e ⊢; omega
  have slx : ∀ {e : Ty} {n : Nat} {f : Nat → Nat → Option T} (hX : SlX t e n f) {b off cap : Nat} {arr : Array Value} {el : TypeId} {vs : Nat → Nat → Value} (hb : w.heap[b]? = some (.cells arr el (0, 0))) (hcap : n ≤ cap + 1)
      (hsz : off + (cap + 1) * e.size ≤ arr.size) (hc : ∀ k l t, f k l = some t → arr[off + (k * e.size + l)]? = some (vs k l)) (hr : ∀ k l t, f k l = some t → RepO w S t (vs k l) (φ.at k l))
      (h0 : φ [] = some (.slice (some ⟨b, off, none⟩) n (cap + 1))) (hn : ∀ k l, f k l = none → φ.at k l = noLay), RepO w' S t' (.slice (some ⟨b, off, none⟩) n (cap + 1)) φ' := by
    intro e n f hX b off cap arr el vs hb hcap hsz hc hr h0 hn
    obtain ⟨f', hX', hf'⟩ := putRow_X hX hg hl hp
    have hfc : ∀ j, f i j = cs[j]? := fun j => by rw [← hX.child, hgc]
    have hrow' : ∃ arr', w'.heap[b]? = some (.cells arr' el (0, 0)) ∧ arr'.size = arr.size ∧
      (∀ j y, ys j = some y → arr'[off + (i * e.size + j)]? = some y) ∧ (∀ m, (∀ j y, ys j = some y → m ≠ off + (i * e.size + j)) → arr'[m]? = arr[m]?) := by
      unfold RowTurn at hrow
      split at hrow
      · exact absurd rfl (hX.noVr _)
      · obtain ⟨b', hb1, hb2⟩ := hrow
        simp only [h0, Option.bind_some, blkOf, Option.some.injEq] at hb1
        subst hb1
        have := hb2 arr el hb
        simp only [hX.idx, h0, offOf] at this
        exact this
    obtain ⟨arr', g1, g2, g3, g4⟩ := hrow'
    refine RepO.ofX (vs := fun k l => if k = i then (ys l).getD (vs k l) else vs k l) hX' g1 hcap (by rw [g2]; exact hsz) (fun k l u hu => ?_) (fun k l u hu => ?_) (by rw [h0', h0]) (fun k l hkl => ?_)
    · rw [hf'] at hu
      by_cases hki : k = i
      · subst hki
        rw [if_pos rfl] at hu ⊢
        rcases hnew l u hu with ⟨y, e1, _⟩ | ⟨e1, e2, _, _⟩
        · rw [e1]; exact g3 l y e1
        · rw [e1]
          simp only [Option.getD_none]
          have hu2 : f k l = some u := by rw [hfc]; exact e2
          rw [g4 _ (fun j y hj e' => ?_)]
          · exact hc k l u hu2
          · have hjlt : cs[j]? ≠ none := fun e3 => by rw [hys j e3] at hj; cases hj
            obtain ⟨u3, hu3⟩ := Option.ne_none_iff_exists'.mp hjlt
            have hu4 : f k j = some u3 := by rw [hfc]; exact hu3
            have := (flat_inj (hX.lt hu2).2 (hX.lt hu4).2 (Nat.add_left_cancel e')).2
            subst this
            rw [e1] at hj; cases hj
      · rw [if_neg hki] at hu ⊢
        rw [g4 _ (fun j y hj e' => ?_)]
        · exact hc k l u hu
        · have hjlt : cs[j]? ≠ none := fun e3 => by rw [hys j e3] at hj; cases hj
          obtain ⟨u3, hu3⟩ := Option.ne_none_iff_exists'.mp hjlt
          have hu4 : f i j = some u3 := by rw [hfc]; exact hu3
          exact hki (flat_inj (hX.lt hu).2 (hX.lt hu4).2 (Nat.add_left_cancel e')).1
    · rw [hf'] at hu
      by_cases hki : k = i
      · subst hki
        rw [if_pos rfl] at hu ⊢
        rcases hnew l u hu with ⟨y, e1, e2⟩ | ⟨e1, e2, e3, e4⟩
        · rw [e1]; exact e2
        · rw [e1, e3]
          have hu2 : f k l = some u := by rw [hfc]; exact e2
          exact (hr k l u hu2).mono hS (fun _ _ h => h) e4
      · rw [if_neg hki] at hu ⊢
        rw [hn' k l hki]
        exact (hr k l u hu).mono hS (fun _ _ h => h) (hk k l hki)
    · rw [hf'] at hkl
      by_cases hki : k = i
      · subst hki
        rw [if_pos rfl] at hkl
        exact hb' l (hlen' l hkl)
      · rw [if_neg hki] at hkl
        rw [hn' k l hki]
        exact hn k l hkl
  cases h with
  | sh _ _ h ht =>
    cases t with
    | sl f => cases f <;> simp_all [T.isSh, getRowT]
    | pt f => cases f <;> simp_all [T.isSh, getRowT]
    | pp f => cases f <;> simp_all [T.isSh, getRowT]
    | vr => simp [T.isSh] at ht
    | slo => simp [T.isSh] at ht
    | po => simp [T.isSh] at ht
    | _ => simp [getRowT] at hg
  | nil e a φ h0 hn => simp [getRowT] at hg
  | sl e xs b off cap arr el vs φ hb hcap hsz hc hr h0 hn => exact slx (.sl e xs) hb hcap hsz hc hr h0 hn
  | slo e xs i' cs0 b off cap arr el vs φ hb hcap hsz hc hr h0 hn => exact slx (.slo e xs i' cs0) hb hcap hsz hc hr h0 hn
  | box _ cs0 ht b arr el vs φ hb hsz hc hr h0 hn =>
    have hi0 : i = 0 ∧ cs0 = cs ∧ t'.box? = some cs' ∧ ∀ cs, t ≠ .vr cs := by
      cases t with
      | pp f c0 =>
        cases f <;> simp [T.box?] at ht
        cases i <;> simp only [getRowT, reduceCtorEq, Option.some.injEq] at hg
        simp only [putRowT, Option.some.injEq] at hp
        subst hp
        exact ⟨rfl, by rw [← ht, hg], rfl, nofun⟩
      | pt f e d =>
        cases f <;> simp [T.box?] at ht
        cases i <;> simp only [getRowT, reduceCtorEq, Option.some.injEq] at hg
        simp only [putRowT, Option.some.injEq] at hp
        subst hp
        exact ⟨rfl, by rw [← ht, hg], closeB_box _ _, nofun⟩
      | po e c0 =>
        simp only [T.box?, Option.some.injEq] at ht
        cases i <;> simp only [getRowT, reduceCtorEq, Option.some.injEq] at hg
        simp only [putRowT, Option.some.injEq] at hp
        subst hp
        exact ⟨rfl, by rw [← ht, hg], closeB_box _ _, nofun⟩
      | _ => simp [T.box?] at ht
    obtain ⟨rfl, rfl, hbox, hvr⟩ := hi0
    have hrow' : ∃ b, (φ []).bind blkOf = some b ∧ ∀ arr el, w.heap[b]? = some (.cells arr el (0, 0)) → ∃ arr', w'.heap[b]? = some (.cells arr' el (0, 0)) ∧ arr'.size = arr.size ∧
      (∀ j y, ys j = some y → arr'[j]? = some y) ∧ (∀ m, (∀ j y, ys j = some y → m ≠ j) → arr'[m]? = arr[m]?) := by
      unfold RowTurn at hrow
      split at hrow
      · exact absurd rfl (hvr _)
      · simpa only [idx_box ht] using hrow
    obtain ⟨b1, hb1, hrow'⟩ := hrow'
    simp only [h0, Option.bind_some, blkOf, Option.some.injEq] at hb1
    subst hb1
    obtain ⟨arr', g1, g2, g3, g4⟩ := hrow' arr el hb
    refine .box t' cs' hbox b arr' el (fun l => (ys l).getD (vs l)) φ' g1 (by rw [g2]; omega) (fun l u hu => ?_) (fun l u hu => ?_) (by rw [h0', h0]) (fun k l hkl => ?_)
    · rcases hnew l u hu with ⟨y, e1, _⟩ | ⟨e1, e2, _, _⟩
      · rw [e1]; exact g3 l y e1
      · rw [e1]
        simp only [Option.getD_none]
        rw [g4 l (fun j y hj e => by subst e; rw [e1] at hj; cases hj)]
        exact hc l u e2
    · rcases hnew l u hu with ⟨y, e1, e2⟩ | ⟨e1, e2, e3, e4⟩
      · rw [e1]; exact e2
      · rw [e1, e3]
        exact (hr l u e2).mono hS (fun _ _ h => h) e4
    · by_cases hk0 : k = 0
      · subst hk0
        rcases hkl with hkl | hkl
        · exact absurd rfl hkl
        · exact hb' l (hlen' l hkl)
      · rw [hn' k l hk0]
        exact hn k l (.inl hk0)
  | vr cs0 _ vs φ hr h0 hn =>
    simp only [getRowT] at hg
    cases i <;> simp only [reduceCtorEq, Option.some.injEq] at hg
    subst hg
    simp only [putRowT, Option.some.injEq] at hp
    subst hp
    refine .vr cs' x (fun l => (ys l).getD (vs l)) φ' (fun l u hu => ?_) (by rw [h0', h0]) (fun k l hkl => ?_)
    · rcases hnew l u hu with ⟨y, e1, e2⟩ | ⟨e1, e2, e3, e4⟩
      · rw [e1]; exact e2
      · rw [e1, e3]
        exact (hr l u e2).mono hS (fun _ _ h => h) e4
    · by_cases hk0 : k = 0
      · subst hk0
        rcases hkl with hkl | hkl
        · exact absurd rfl hkl
        · exact hb' l (hlen' l hkl)
      · rw [hn' k l hk0]
        exact hn k l (.inl hk0)

/-- The layout with other ones under some cells of a row. -/
def Lay.rowGraft (φ : Lay) (p : Path) (i : Nat) (ch : Nat → Bool) (ψ : Lay) : Lay := fun q => match strip p q with
  | some ((k, j) :: q') => if k = i ∧ ch j = true then ψ ((0, j) :: q') else φ q
  | _ => φ q

theorem rowGraft_nil (φ : Lay) (i : Nat) (ch : Nat → Bool) (ψ : Lay) (p : Path) : φ.rowGraft p i ch ψ [] = φ [] := by
  unfold Lay.rowGraft
  cases p <;> rfl

theorem rowGraft_at (φ : Lay) (i : Nat) (ch : Nat → Bool) (ψ : Lay) (k l : Nat) : (φ.rowGraft [] i ch ψ).at k l = if k = i ∧ ch l = true then ψ.at 0 l else φ.at k l := by
  funext q
  simp only [Lay.rowGraft, Lay.at, strip]
  split <;> rfl

theorem rowGraft_cons (φ : Lay) (k l : Nat) (p : Path) (i : Nat) (ch : Nat → Bool) (ψ : Lay) : φ.rowGraft ((k, l) :: p) i ch ψ = φ.graft [(k, l)] ((φ.at k l).rowGraft p i ch ψ) := by
  funext q
  cases q with
  | nil => rfl
  | cons d q =>
    obtain ⟨a, b⟩ := d
    simp only [Lay.rowGraft, Lay.graft, strip]
    by_cases h : a = k ∧ b = l
    · obtain ⟨rfl, rfl⟩ := h
      simp only [and_self, if_true]
      cases strip p q with
      | none => rfl
      | some q' => cases q' <;> rfl
    · rw [if_neg h]
      have h' : ¬ ((k, l) = (a, b)) := fun e => h (by simp only [Prod.mk.injEq] at e; exact ⟨e.1.symm, e.2.symm⟩)
      rw [if_neg h']

/-- Some cells of a row of a node at a place. -/
theorem setRowT_own {w w' : World} {S : Fl → Nat → Prop} {i : Nat} {cs cs' : List T} {ys : Nat → Option Value} {ch : Nat → Bool} {ψ : Lay} (hl : cs'.length = cs.length) (hS : ∀ f b, S f b → w'.heap[b]? = w.heap[b]?)
    (hch : ∀ j, ch j = (ys j).isSome) (hys : ∀ j, cs[j]? = none → ys j = none)
    (hnew : ∀ (j : Nat) u, cs'[j]? = some u → (∃ y, ys j = some y ∧ RepO w' S u y (ψ.at 0 j)) ∨ (ys j = none ∧ cs[j]? = some u)) :
    ∀ (q : Path) {t t' : T} {x : Value} {φ : Lay}, RepO w S t x φ → Inj φ → (∃ t0, getT q t = some t0 ∧ getRowT t0 i = some cs) → setRowT q t i cs' = some t' →
    (∀ b, (φ q).bind blkOf ≠ some b → w'.heap[b]? = w.heap[b]?) →
    (∀ row, getT q t = some row → RowTurn w w' row (φ q) i ys) → RepO w' S t' x (φ.rowGraft q i ch ψ) := by
  intro q
  induction q with
  | nil =>
    intro t t' x φ h hinj hg hs hw hrow
    obtain ⟨t0, ht0, hg⟩ := hg
    simp only [getT, Option.some.injEq] at ht0
    subst ht0
    have hkept : ∀ k l, KeptBy (φ.at k l) w w' := fun k l p z b hz hb => hw b (fun e => by
      cases h0 : φ [] with
      | none => rw [h0] at e; simp at e
      | some z0 =>
        rw [h0, Option.bind_some] at e
        have := hinj _ _ _ _ _ hz hb h0 e
        simp at this)
    refine putRow_own h hg hl hs hS (hrow t rfl) (fun j u hu => ?_) (fun k l _ => hkept k l) hys (rowGraft_nil _ _ _ _ _) (fun k l hki => ?_) (fun l hcl => ?_)
    · rw [rowGraft_at]
      rcases hnew j u hu with ⟨y, e1, e2⟩ | ⟨e1, e2⟩
      · left
        rw [if_pos ⟨rfl, by rw [hch, e1]; rfl⟩]
        exact ⟨y, e1, e2⟩
      · right
        rw [if_neg (fun e => by have := e.2; rw [hch, e1] at this; cases this)]
        exact ⟨e1, e2, rfl, hkept i j⟩
    · rw [rowGraft_at, if_neg (fun e => hki e.1)]
    · rw [rowGraft_at, if_neg (fun e => by have := e.2; rw [hch, hys l hcl] at this; cases this)]
      have hc0 : childT t i l = none := by rw [getRow_child hg]; exact hcl
      cases h with
      | sh => rfl
      | nil e a φ h0 hn => funext q; exact hn _ _
      | sl e xs b off cap arr el vs φ hb hcap hsz hc hr h0 hn => exact hn i l (by rw [cellOf_rows]; exact hc0)
      | slo e xs i' cs0 b off cap arr el vs φ hb hcap hsz hc hr h0 hn => exact hn i l (by rw [← (SlX.slo e xs i' cs0).child]; exact hc0)
      | box _ cs0 ht b arr el vs φ hb hsz hc hr h0 hn =>
        refine hn i l ?_
        by_cases hi : i = 0
        · subst hi
          right
          rw [box_child ht, if_pos rfl] at hc0
          exact hc0
        · exact .inl hi
      | vr cs0 _ vs φ hr h0 hn =>
        refine hn i l ?_
        by_cases hi : i = 0
        · subst hi; right; simpa [childT, nth_eq] using hc0
        · exact .inl hi
  | cons c0 q ih =>
    obtain ⟨i0, j0⟩ := c0
    intro t t' x φ h hinj hg hs hw hrow
    obtain ⟨c, hc, hs⟩ := Option.bind_eq_some_iff.mp hs
    obtain ⟨c', hs1, hs2⟩ := Option.bind_eq_some_iff.mp hs
    obtain ⟨y0, hy0, hblk, _⟩ := child_own h hc
    have hcc : getT ((i0, j0) :: q) t = getT q c := by simp only [getT, hc, Option.bind_some]
    rw [hcc] at hg
    have h1 := ih hy0 (hinj.at i0 j0) hg hs1 hw (fun row hr => hrow row (by rw [hcc]; exact hr))
    rw [rowGraft_cons]
    refine put_own h h1 hS (hblk w' (fun b hb => hw b (fun e => ?_))) (fun k l hkl p z b hz hb => hw b (fun e => ?_)) hc hs2
    · cases h0 : φ [] with
      | none => rw [h0] at hb; simp at hb
      | some z0 =>
        cases h1 : φ ((i0, j0) :: q) with
        | none => rw [h1] at e; simp at e
        | some z1 =>
          rw [h0, Option.bind_some] at hb
          rw [h1, Option.bind_some] at e
          have := hinj _ _ _ _ _ h0 hb h1 e
          simp at this
    · cases h1 : φ ((i0, j0) :: q) with
      | none => rw [h1] at e; simp at e
      | some z1 =>
        rw [h1, Option.bind_some] at e
        have := hinj _ _ _ _ _ hz hb h1 e
        simp only [List.cons.injEq, Prod.mk.injEq] at this
        exact hkl this.1

theorem setRowT_ne : ∀ {p q : Path} {t t' : T} {i : Nat} {cs cs' : List T}, setRowT p t i cs' = some t' → (∃ t0, getT p t = some t0 ∧ getRowT t0 i = some cs) → cs'.length = cs.length →
    (∀ j, (pc (jp p ++ [j]) (jp q) = true) → cs'[j]? = cs[j]?) → pre (jp q) (jp p) = false → getT q t' = getT q t
  | [], [], t, t', i, cs, cs', _, _, _, _, h => by simp [jp, pre] at h
  | [], (k, l) :: q, t, t', i, cs, cs', hs, hg, hl, hj, _ => by
    obtain ⟨t0, ht0, hg⟩ := hg
    simp only [getT, Option.some.injEq] at ht0
    subst ht0
    simp only [getT]
    have := putRow_child hg hl hs k l
    rw [this]
    by_cases hk : k = i
    · subst hk
      rw [if_pos rfl, getRow_child hg, hj l (by simp [jp, pc, pre])]
    · rw [if_neg hk]
  | (i0, j0) :: p, [], t, t', i, cs, cs', _, _, _, _, h => by simp [jp, pre] at h
  | (i0, j0) :: p, (k, l) :: q, t, t', i, cs, cs', hs, hg, hl, hj, h => by
    obtain ⟨c, hc, hs⟩ := Option.bind_eq_some_iff.mp hs
    obtain ⟨c', hs1, hs2⟩ := Option.bind_eq_some_iff.mp hs
    have hcc : getT ((i0, j0) :: p) t = getT p c := by simp only [getT, hc, Option.bind_some]
    rw [hcc] at hg
    simp only [getT]
    rw [putChild_child hc hs2]
    by_cases e : k = i0 ∧ l = j0
    · obtain ⟨rfl, rfl⟩ := e
      rw [if_pos ⟨rfl, rfl⟩, hc, Option.bind_some, Option.bind_some]
      refine setRowT_ne hs1 hg hl (fun j hpc => hj j ?_) ?_
      · simpa [jp, pc, pre] using hpc
      · simpa [jp, pre] using h
    · rw [if_neg e]

end Go.V
