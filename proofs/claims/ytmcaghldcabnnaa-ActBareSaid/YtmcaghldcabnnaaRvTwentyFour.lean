/- What a caller hands on. -/
import Derived.Test.YtmcaghldcabnnaaRvTwentyThree
namespace Go.V
open Go.RowKit

variable {α : Type}

theorem weakSl0 {w : World} {S : Fl → Nat → Prop} (hrb : ∀ b, S .ro b → S .bo b) {e : Ty} (ih : ∀ (d : den e) (j : Nat) (t : T) (v : Value), (cells .ro e d)[j]? = some t → RepR w S t v →
    ∃ t', (cells .bo e d)[j]? = some t' ∧ RepR w S t' v) {xs : List (den e)} {v : Value} (hr : RepR w S (.sl .ro e xs) v) : RepR w S (.sl .bo e xs) v := by
  cases hr with
  | nil _ _ ad cap => exact .nil .bo e ad cap
  | box _ _ _ hb => simp [T.shBox?] at hb
  | sl _ _ _ b off cap vs hR hcap hc hr =>
    have hcell : ∀ i j t, cellOf (rows .bo e xs) i j = some t → ∃ u, cellOf (rows .ro e xs) i j = some u := by
      intro i j t e'
      have hij := rows_lt e'
      rw [cellOf_rows, List.getElem?_eq_getElem hij.1, Option.bind_some, nth_eq]
      exact ⟨_, List.getElem?_eq_getElem (by rw [length_cells]; exact hij.2)⟩
    refine .sl .bo e xs b off cap vs (hrb b hR) hcap (fun i j t e' => ?_) (fun i j t e' => ?_)
    · obtain ⟨u, hu⟩ := hcell i j t e'
      exact hc i j u hu
    · obtain ⟨u, hu⟩ := hcell i j t e'
      have h1 := hr i j u hu
      rw [cellOf_rows] at hu e'
      obtain ⟨d, g1, g2⟩ := Option.bind_eq_some_iff.mp hu
      rw [g1, Option.bind_some] at e'
      rw [nth_eq] at g2 e'
      obtain ⟨t', k1, k2⟩ := ih d j u _ g2 h1
      rw [k1, Option.some.injEq] at e'
      subst e'
      exact k2

theorem weakPt0 {w : World} {S : Fl → Nat → Prop} (hrb : ∀ b, S .ro b → S .bo b) {e : Ty} (ih : ∀ (d : den e) (j : Nat) (t : T) (v : Value), (cells .ro e d)[j]? = some t → RepR w S t v →
    ∃ t', (cells .bo e d)[j]? = some t' ∧ RepR w S t' v) {d : den e} {v : Value} (hr : RepR w S (.pt .ro e d) v) : RepR w S (.pt .bo e d) v := by
  cases hr with
  | box _ f cs hb b off vs hR hc hr =>
    simp only [T.shBox?, Option.some.injEq, Prod.mk.injEq] at hb
    obtain ⟨rfl, rfl⟩ := hb
    have hcell : ∀ (j : Nat) t, (cells .bo e d)[j]? = some t → ∃ u, (cells .ro e d)[j]? = some u := by
      intro j t e'
      have := (List.getElem?_eq_some_iff.mp e').1
      rw [length_cells] at this
      exact ⟨_, List.getElem?_eq_getElem (by rw [length_cells]; exact this)⟩
    refine .box _ .bo _ rfl b off vs (hrb b hR) (fun j t e' => ?_) (fun j t e' => ?_)
    · obtain ⟨u, hu⟩ := hcell j t e'
      exact hc j u hu
    · obtain ⟨u, hu⟩ := hcell j t e'
      obtain ⟨t', k1, k2⟩ := ih d j u _ hu (hr j u hu)
      rw [k1, Option.some.injEq] at e'
      subst e'
      exact k2

/-- What is shared for good may be lent. -/
theorem weakCells {w : World} {S : Fl → Nat → Prop} (hrb : ∀ b, S .ro b → S .bo b) : ∀ (e : Ty) (d : den e) (j : Nat) (t : T) (v : Value), (cells .ro e d)[j]? = some t → RepR w S t v →
    ∃ t', (cells .bo e d)[j]? = some t' ∧ RepR w S t' v := by
  intro e
  induction e with
  | pair a b iha ihb =>
    intro d j t v h hr
    simp only [cells, app_eq] at h ⊢
    have hl : (cells .ro a d.1).length = (cells .bo a d.1).length := by rw [length_cells, length_cells]
    by_cases hj : j < (cells .ro a d.1).length
    · rw [List.getElem?_append_left hj] at h
      obtain ⟨t', h1, h2⟩ := iha d.1 j t v h hr
      exact ⟨t', by rw [List.getElem?_append_left (by omega)]; exact h1, h2⟩
    · rw [List.getElem?_append_right (by omega)] at h
      obtain ⟨t', h1, h2⟩ := ihb d.2 _ t v h hr
      exact ⟨t', by rw [List.getElem?_append_right (by omega), ← hl]; exact h1, h2⟩
  | sl e ih =>
    intro xs j t v h hr
    cases j with
    | succ j => simp [cells] at h
    | zero =>
      simp only [cells, List.getElem?_cons_zero, Option.some.injEq] at h
      subst h
      refine ⟨.sl .bo e xs, rfl, ?_⟩
      exact weakSl0 hrb ih hr
  | ptr e ih =>
    intro d j t v h hr
    cases j with
    | succ j => simp [cells] at h
    | zero =>
      simp only [cells, List.getElem?_cons_zero, Option.some.injEq] at h
      subst h
      exact ⟨.pt .bo e d, rfl, weakPt0 hrb ih hr⟩
  | _ => intro d j t v h hr; exact ⟨t, h, hr⟩

theorem weakSl {w : World} {S : Fl → Nat → Prop} (hrb : ∀ b, S .ro b → S .bo b) {e : Ty} {xs : List (den e)} {v : Value} (h : RepR w S (.sl .ro e xs) v) : RepR w S (.sl .bo e xs) v := by
  obtain ⟨t', h1, h2⟩ := weakCells hrb (.sl e) xs 0 (.sl .ro e xs) v rfl h
  simp only [cells, List.getElem?_cons_zero, Option.some.injEq] at h1
  subst h1
  exact h2

theorem weakPt {w : World} {S : Fl → Nat → Prop} (hrb : ∀ b, S .ro b → S .bo b) {e : Ty} {d : den e} {v : Value} (h : RepR w S (.pt .ro e d) v) : RepR w S (.pt .bo e d) v := by
  obtain ⟨t', h1, h2⟩ := weakCells hrb (.ptr e) d 0 (.pt .ro e d) v rfl h
  simp only [cells, List.getElem?_cons_zero, Option.some.injEq] at h1
  subst h1
  exact h2

/-! ### lending -/
def isBo : Fl → Bool
  | .bo => true
  | _ => false

/-- A cell, as the one who is called sees it. -/
def lendCK (x : X) (f : Fl) (hint : Option Ty) (y : C) (K : T → Option α) : Option α := match y with
  | .k t => match t with
    | .sl f' e xs => match flEq f' f with
      | true => match flEq f .own with
        | true => none
        | false => K (.sl f' e xs)
      | false => match and (flEq f' .ro) (isBo f) with
        | true => K (.sl .bo e xs)
        | false => none
    | .pt f' e d => match flEq f' f with
      | true => match flEq f .own with
        | true => none
        | false => K (.pt f' e d)
      | false => match and (flEq f' .ro) (isBo f) with
        | true => K (.pt .bo e d)
        | false => none
    | .v v => K (.v v)
    | _ => none
  | .nil => match flEq f .own with
    | true => none
    | false => hint.bind fun e => K (.sl f e [])
  | .own r p _ => match isBo f with
    | true => atK x r p fun t => match t with
      | .sl .own e xs => K (.sl .bo e xs)
      | _ => none
    | false => none
  | .sub r p lo n e0 => match isBo f with
    | true => atK x r p fun t => match t with
      | .sl .own e xs => match Nat.beq e.size e0.size with
        | true => K (.sl .bo e (midL xs lo n))
        | false => none
      | _ => none
    | false => none
  | .pt r p i j _ => match and (isBo f) (and (Nat.beq i 0) (Nat.beq j 0)) with
    | true => atK x r p fun t => match t with
      | .pt .own e d => K (.pt .bo e d)
      | _ => none
    | false => none
  | _ => none

def lendCsK (x : X) (f : Fl) : List (Option Ty) → List C → (List T → Option α) → Option α
  | _, [], K => K []
  | h :: hs, y :: ys, K => lendCK x f h y fun t => lendCsK x f hs ys fun ts => K (t :: ts)
  | [], y :: ys, K => lendCK x f none y fun t => lendCsK x f [] ys fun ts => K (t :: ts)

/-- What may be read while somebody is called: what was to be read before, and all that is owned. -/
def lent (s : Sit) : Fl → Nat → Prop := fun f b => s.S f b ∨ (f = .bo ∧ ∃ r p y, s.Φ r p = some y ∧ blkOf y = some b)

section
variable {c : Ctx} {B : Base} {s : Sit} {x : X} {a : Act} {w : World}

theorem lent_rb (h : RelW B s x a w) : ∀ b, lent s .ro b → lent s .bo b := by
  intro b hb
  rcases hb with hb | ⟨e, _⟩
  · exact .inl (h.srb b hb)
  · cases e

theorem lend_own (h : RelW B s x a w) {r : Nat} {p : Path} {t : T} (hp : x.at r p = some t) : ∃ y, RepO w s.S t y ((s.Φ r).under p) ∧ RepR w (lent s) t.lend y := by
  obtain ⟨row, k1, k2⟩ := Option.bind_eq_some_iff.mp hp
  obtain ⟨y0, hy0⟩ := h.roots r row k1
  obtain ⟨y, hy⟩ := getT_own p hy0 k2
  exact ⟨y, hy, hy.toR (fun f b hS => .inl hS) (fun q z b e1 e2 => .inr ⟨rfl, r, p ++ q, z, e1, e2⟩)⟩

theorem lendC_sound (h : RelW B s x a w) {f : Fl} {hint : Option Ty} {y : C} {v : Value} (hy : RepC w s y v) {K : T → Option α} {q : α} (he : lendCK x f hint y K = some q) :
    ∃ t, K t = some q ∧ RepR w (lent s) t v := by
  have mon : ∀ {t : T}, RepR w s.S t v → RepR w (lent s) t v := fun h => h.mono (fun _ _ _ => rfl) (fun f b hS => .inl hS)
  unfold lendCK at he
  split at he
  · cases hy with
    | k t _ hr =>
      split at he
      · rename_i f' e xs
        split at he
        · split at he
          · cases he
          · exact ⟨_, he, mon hr⟩
        · split at he
          · rename_i hb
            simp only [Bool.and_eq_true] at hb
            have hf := flEq_eq hb.1
            subst hf
            exact ⟨_, he, weakSl (lent_rb h) (mon hr)⟩
          · cases he
      · rename_i f' e d
        split at he
        · split at he
          · cases he
          · exact ⟨_, he, mon hr⟩
        · split at he
          · rename_i hb
            simp only [Bool.and_eq_true] at hb
            have hf := flEq_eq hb.1
            subst hf
            exact ⟨_, he, weakPt (lent_rb h) (mon hr)⟩
          · cases he
      · exact ⟨_, he, mon hr⟩
      · cases he
  · split at he
    · cases he
    · obtain ⟨e, h1, he⟩ := Option.bind_eq_some_iff.mp he
      cases hy with
      | nil ad => exact ⟨_, he, .nil f e ad 0⟩
  · rename_i r p e0
    split at he
    · obtain ⟨t, h1, he⟩ := atK_some he
      split at he
      · rename_i e xs
        cases hy with
        | own _ _ _ _ hΦ =>
          obtain ⟨y, g1, g2⟩ := lend_own h h1
          have : y = v := by
            have h3 := sl_lay g1
            rw [Lay.under_apply_nil, hΦ, Option.some.injEq] at h3
            exact h3.symm
          subst this
          exact ⟨_, he, g2⟩
      · cases he
    · cases he
  · rename_i r p lo n e0
    split at he
    · obtain ⟨t, h1, he⟩ := atK_some he
      split at he
      · rename_i e xs
        split at he
        · rename_i hsz
          have hsz := Nat.eq_of_beq_eq_true hsz
          cases hy with
          | sub _ _ _ _ _ a1 a' n0 cap cap' hΦ hle hcap hcn hcc h0 hn =>
            obtain ⟨y, g1, g2⟩ := lend_own h h1
            have hyv : y = .slice a1 n0 cap := by
              have h3 := sl_lay g1
              rw [Lay.under_apply_nil, hΦ, Option.some.injEq] at h3
              exact h3.symm
            subst hyv
            obtain ⟨ψ, m1, m2⟩ := mid_rep (a' := a') g1 hle hcn hcc (fun hc0 => by
              obtain ⟨b, off, f1, f2⟩ := hn hc0
              exact ⟨b, off, f1, by rw [f2, hsz]⟩)
            refine ⟨_, he, ?_⟩
            exact m1.toR (t := .sl .own e (midL xs lo n)) (fun f b hS => .inl hS) (fun q z b e1 e2 => by
              obtain ⟨q', y', k1, k2, _⟩ := m2 q z b e1 e2
              exact .inr ⟨rfl, r, p ++ q', y', k1, k2⟩)
        · cases he
      · cases he
    · cases he
  · rename_i r p i j sz
    split at he
    · rename_i hb
      simp only [Bool.and_eq_true] at hb
      have hi := Nat.eq_of_beq_eq_true hb.2.1
      have hj := Nat.eq_of_beq_eq_true hb.2.2
      subst hi hj
      obtain ⟨t, h1, he⟩ := atK_some he
      split at he
      · rename_i e d
        obtain ⟨y, g1, g2⟩ := lend_own h h1
        cases hy with
        | pt _ _ _ _ _ z b hΦ hb2 =>
          refine ⟨_, he, ?_⟩
          have : y = .pointer (some ⟨b, offOf z + (0 * sz + 0), none⟩) := by
            have h4 : ((s.Φ r).under p) [] = some z := by rw [Lay.under_apply_nil]; exact hΦ
            generalize (s.Φ r).under p = φ at g1 h4
            cases g1 with
            | sh _ _ _ ht => simp [T.isSh] at ht
            | box _ cs ht b' arr el vs φ hb' hsz hc hr h0 hn =>
              rw [h0, Option.some.injEq] at h4
              subst h4
              simp only [blkOf, Option.some.injEq] at hb2
              subst hb2
              simp [offOf]
          rw [← this]
          exact g2
      · cases he
    · cases he
  · cases he

theorem lendCs_sound (h : RelW B s x a w) {f : Fl} : ∀ {ys : List C} {hs : List (Option Ty)} {vals : List Value} {K : List T → Option α} {q : α},
    (∀ (j : Nat) y, ys[j]? = some y → ∃ u, vals[j]? = some u ∧ RepC w s y u) → lendCsK x f hs ys K = some q →
    ∃ ts, K ts = some q ∧ ts.length = ys.length ∧ ∀ (j : Nat) t, ts[j]? = some t → ∃ u, vals[j]? = some u ∧ RepR w (lent s) t u := by
  intro ys
  induction ys with
  | nil =>
    intro hs vals K q _ he
    have he : K [] = some q := by cases hs <;> exact he
    exact ⟨[], he, rfl, fun j t e => by simp at e⟩
  | cons y ys ih =>
    intro hs vals K q hv he
    obtain ⟨u0, g1, g2⟩ := hv 0 y rfl
    have step : ∀ {hint : Option Ty} {hs' : List (Option Ty)}, (lendCK x f hint y fun t => lendCsK x f hs' ys fun ts => K (t :: ts)) = some q →
        ∃ ts, K ts = some q ∧ ts.length = (y :: ys).length ∧ ∀ (j : Nat) t, ts[j]? = some t → ∃ u, vals[j]? = some u ∧ RepR w (lent s) t u := by
      intro hint hs' he
      obtain ⟨t, k1, k2⟩ := lendC_sound h g2 he
      obtain ⟨ts, m1, m2, m3⟩ := ih (vals := vals.tail) (fun j y' e => by
        obtain ⟨u, f1, f2⟩ := hv (j + 1) y' (by simpa using e)
        exact ⟨u, by simpa using f1, f2⟩) k1
      refine ⟨t :: ts, m1, by simp [m2], fun j t' e => ?_⟩
      cases j with
      | zero => simp only [List.getElem?_cons_zero, Option.some.injEq] at e; subst e; exact ⟨u0, g1, k2⟩
      | succ j =>
        obtain ⟨u, f1, f2⟩ := m3 j t' (by simpa using e)
        exact ⟨u, by simpa using f1, f2⟩
    cases hs with
    | nil => exact step he
    | cons h0 hs => exact step he

end
end Go.V
