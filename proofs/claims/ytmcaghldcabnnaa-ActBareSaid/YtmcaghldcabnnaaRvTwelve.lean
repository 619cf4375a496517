/- Cells are taken for good. -/
import Derived.Test.YtmcaghldcabnnaaRvEleven
namespace Go.V
open Go.RowKit

variable {α : Type}

/-- A child, and how the node is built again with another one. -/
def stepK (t : T) (i j : Nat) (K : T → (T → Option T) → Option α) : Option α := match t with
  | .sl .own e xs => (idxN xs i).bind fun x => (nth (cells .own e x) j).bind fun c => K c fun c' => some (closeS e xs i (setN (cells .own e x) j c'))
  | .pt .own e d => match i with
    | 0 => (nth (cells .own e d) j).bind fun c => K c fun c' => some (closeB e (setN (cells .own e d) j c'))
    | _ + 1 => none
  | .pp .own cs => match i with
    | 0 => (nth cs j).bind fun c => K c fun c' => some (.pp .own (setN cs j c'))
    | _ + 1 => none
  | .vr cs => match i with
    | 0 => (nth cs j).bind fun c => K c fun c' => some (.vr (setN cs j c'))
    | _ + 1 => none
  | .slo e xs i' cs => (idxN xs i).bind fun _ => match Nat.blt j e.size with
    | true => cond (Nat.beq i i') ((nth cs j).bind fun c => K c fun c' => some (closeS e xs i' (setN cs j c'))) none
    | false => none
  | .po e cs => match i with
    | 0 => (nth cs j).bind fun c => K c fun c' => some (closeB e (setN cs j c'))
    | _ + 1 => none
  | _ => none

theorem stepK_some {t : T} {i j : Nat} {K : T → (T → Option T) → Option α} {q : α} (h : stepK t i j K = some q) : ∃ c, childT t i j = some c ∧ K c (fun c' => putChild t i j c') = some q := by
  cases t with
  | sl f e xs =>
    cases f <;> try (cases h; done)
    obtain ⟨x, h1, h2⟩ := Option.bind_eq_some_iff.mp h
    obtain ⟨c, h3, h4⟩ := Option.bind_eq_some_iff.mp h2
    simp only [idxN] at h1
    refine ⟨c, by simp only [childT, h1, Option.bind_some]; exact h3, ?_⟩
    simp only [putChild, h1, Option.map_some]
    exact h4
  | pt f e d =>
    cases f <;> try (cases h; done)
    cases i with
    | zero => obtain ⟨u, h3, h4⟩ := Option.bind_eq_some_iff.mp h; exact ⟨u, h3, h4⟩
    | succ i => cases h
  | pp f cs =>
    cases f <;> try (cases h; done)
    cases i with
    | zero => obtain ⟨u, h3, h4⟩ := Option.bind_eq_some_iff.mp h; exact ⟨u, h3, h4⟩
    | succ i => cases h
  | vr cs =>
    cases i with
    | zero => obtain ⟨u, h3, h4⟩ := Option.bind_eq_some_iff.mp h; exact ⟨u, h3, h4⟩
    | succ i => cases h
  | slo e xs i' cs =>
    obtain ⟨x, h1, h2⟩ := Option.bind_eq_some_iff.mp h
    simp only [idxN] at h1
    simp only [childT, putChild, h1, Option.bind_some]
    split at h2
    · rename_i hb
      rw [hb]
      rcases cond_some h2 with ⟨hb2, h3⟩ | ⟨_, h3⟩
      · obtain ⟨u, h4, h5⟩ := Option.bind_eq_some_iff.mp h3
        simp only [hb2]
        exact ⟨u, h4, h5⟩
      · cases h3
    · cases h2
  | po e cs =>
    cases i with
    | zero => obtain ⟨u, h3, h4⟩ := Option.bind_eq_some_iff.mp h; exact ⟨u, h3, h4⟩
    | succ i => cases h
  | _ => cases h

/-- What is done with the answer hangs on it alone. -/
theorem stepK_law (t : T) (i j : Nat) (K : T → (T → Option T) → Option α) : stepK t i j K = (stepK t i j fun c reb => some (c, reb)).bind fun cr => K cr.1 cr.2 := by
  cases t with
  | sl f e xs =>
    cases f <;> try rfl
    simp only [stepK]
    cases idxN xs i with
    | none => rfl
    | some x => simp only [Option.bind_some]; cases nth (cells .own e x) j <;> rfl
  | pt f e d => cases f <;> cases i <;> first | rfl | (simp only [stepK]; cases nth (cells .own e d) j <;> rfl)
  | pp f cs => cases f <;> cases i <;> first | rfl | (simp only [stepK]; cases nth cs j <;> rfl)
  | vr cs => cases i <;> first | rfl | (simp only [stepK]; cases nth cs j <;> rfl)
  | slo e xs i' cs =>
    simp only [stepK]
    cases idxN xs i with
    | none => rfl
    | some x =>
      simp only [Option.bind_some]
      cases Nat.blt j e.size with
      | false => rfl
      | true => cases Nat.beq i i' <;> first | rfl | (cases nth cs j <;> rfl)
  | po e cs => cases i <;> first | rfl | (simp only [stepK]; cases nth cs j <;> rfl)
  | _ => rfl

def updK : Path → T → T → (T → T → Option α) → Option α
  | [], t, n, K => K t n
  | e :: p, t, n, K => stepK t e.1 e.2 fun c reb => updK p c n fun old c' => (reb c').bind fun t' => K old t'

theorem updK_some : ∀ {p : Path} {t n : T} {K : T → T → Option α} {q : α}, updK p t n K = some q → ∃ old t', getT p t = some old ∧ setT p t n = some t' ∧ K old t' = some q
  | [], t, n, K, q, h => ⟨t, n, rfl, rfl, h⟩
  | (i, j) :: p, t, n, K, q, h => by
    obtain ⟨c, h1, h2⟩ := stepK_some h
    obtain ⟨old, c', h3, h4, h5⟩ := updK_some h2
    obtain ⟨t', h6, h7⟩ := Option.bind_eq_some_iff.mp h5
    exact ⟨old, t', by simp only [getT, h1, Option.bind_some]; exact h3, by simp only [setT, h1, h4, Option.bind_some]; exact h6, h7⟩

theorem updK_law : ∀ (p : Path) (t n : T) {β : Type} (K : T → T → Option β), updK p t n K = (updK p t n fun old t' => some (old, t')).bind fun ot => K ot.1 ot.2
  | [], t, n, _, K => rfl
  | (i, j) :: p, t, n, _, K => by
    simp only [updK]
    rw [stepK_law, stepK_law t i j (fun c reb => updK p c n fun old c' => (reb c').bind fun t' => some (old, t')), Option.bind_assoc]
    congr 1
    funext cr
    rw [updK_law p cr.1 n, updK_law p cr.1 n (fun old c' => (cr.2 c').bind fun t' => some (old, t')), Option.bind_assoc]
    congr 1
    funext oc
    cases cr.2 oc.2 <;> rfl

def setAtK (x : X) (r : Nat) (p : Path) (n : T) (K : T → X → Option α) : Option α := match lockOk x r (jp p) with
  | false => none
  | true => (look x.roots r).bind fun row => updK p (.vr row) n fun old t' => match t' with
    | .vr row' => K old (x.turned r p row' (and old.isSh n.isSh))
    | _ => none

theorem setAtK_some {x : X} {r : Nat} {p : Path} {n : T} {K : T → X → Option α} {q : α} (h : setAtK x r p n K = some q) : ∃ old x', x.at r p = some old ∧ x.setAt r p old n = some x' ∧ K old x' = some q := by
  unfold setAtK at h
  split at h
  · cases h
  · rename_i hl
    obtain ⟨row, h1, h⟩ := Option.bind_eq_some_iff.mp h
    obtain ⟨old, t', h2, h3, h⟩ := updK_some h
    split at h
    · rename_i row'
      refine ⟨old, _, by simp only [X.at, h1, Option.bind_some]; exact h2, ?_, h⟩
      simp only [X.setAt, hl, h1, Option.bind_some, rootSet, h3, Option.map_some]
    · cases h

def midL {β : Type} (xs : List β) (lo n : Nat) : List β := (xs.drop lo).take n

/-- A cell's content is taken for good; a nil slice is taken for one of the elements that are meant there. -/
def takeCK (x : X) (hint : Option Ty) (y : C) (K : T → X → Option α) : Option α := match y with
  | .k t => match t.isSh with
    | true => K t x
    | false => none
  | .nil => match hint with
    | some e => K (.sl .own e []) x
    | none => none
  | .own r p _ => match p with
    | [] => none
    | _ :: _ => setAtK x r p .dead fun t x' => match t with
      | .sl .own e xs => K (.sl .own e xs) x'
      | _ => none
  | .sub r p lo n e0 => match p with
    | [] => none
    | _ :: _ => setAtK x r p .dead fun t x' => match t with
      | .sl .own e xs => match Nat.beq e.size e0.size with
        | true => K (.sl .own e (midL xs lo n)) x'
        | false => none
      | _ => none
  | .pt r p i j _ => match p with
    | [] => none
    | _ :: _ => match i with
      | 0 => match j with
        | 0 => setAtK x r p .dead fun t x' => match t with
          | .pp .own cs => K (.pp .own cs) x'
          | .pt .own e d => K (.pt .own e d) x'
          | _ => none
        | _ + 1 => none
      | _ + 1 => none
  | _ => none

/-- What a taking does to other cells. -/
def killBy (y z : C) : C := match y with
  | .own r p _ => z.kill r (jp p)
  | .sub r p _ _ _ => z.kill r (jp p)
  | .pt r p _ _ _ => z.kill r (jp p)
  | _ => z

theorem last_split {p : Path} (h : p ≠ []) : ∃ q i j, p = q ++ [(i, j)] := by
  refine ⟨p.dropLast, (p.getLast h).1, (p.getLast h).2, ?_⟩
  exact (List.dropLast_concat_getLast h).symm

theorem blk_cap0 (a : Option Addr) : blkOf (.slice a 0 0) = none := by cases a <;> rfl

section
variable {B : Base} {s : Sit} {x x' : X} {a : Act} {w w' : World}

/-- A part of an owned slice. -/
theorem mid_rep {e : Ty} {xs : List (den e)} {a0 a' : Option Addr} {n0 cap lo n cap' : Nat} {φ : Lay} {S : Fl → Nat → Prop} (h : RepO w S (.sl .own e xs) (.slice a0 n0 cap) φ) (hn : lo + n ≤ n0)
    (hcn : n ≤ cap') (hcc : lo + cap' ≤ cap) (ha : cap' ≠ 0 → ∃ b off, a0 = some ⟨b, off, none⟩ ∧ a' = some ⟨b, off + lo * e.size, none⟩) :
    ∃ ψ, RepO w S (.sl .own e (midL xs lo n)) (.slice a' n cap') ψ ∧ (∀ q y b, ψ q = some y → blkOf y = some b → ∃ q' y', φ q' = some y' ∧ blkOf y' = some b ∧ (q = [] ∧ q' = [] ∨ ∃ i j q0, q = (i, j) :: q0 ∧ q' = (lo + i, j) :: q0)) := by
  cases cap' with
  | zero =>
    have : n = 0 := by omega
    subst this
    refine ⟨fun p => match p with | [] => some (.slice a' 0 0) | _ => none, ?_, fun q y b h1 h2 => ?_⟩
    · have : midL xs lo 0 = [] := by simp [midL]
      rw [this]; exact .nil e a' _ rfl (fun _ _ => rfl)
    · cases q with
      | nil => simp only [Option.some.injEq] at h1; subst h1; rw [blk_cap0] at h2; cases h2
      | cons => simp at h1
  | succ k =>
    obtain ⟨b1, off1, ha0, ha'⟩ := ha (by omega)
    subst ha0 ha'
    generalize hv : Value.slice (some ⟨b1, off1, none⟩) n0 cap = v at h
    cases h with
    | sh _ _ h ht => simp [T.isSh] at ht
    | box _ cs hb => simp [T.box?] at hb
    | nil e a φ h0 hn' =>
      simp only [Value.slice.injEq] at hv
      omega
    | sl e xs b off cap1 arr el vs φ hb hcap hsz hc hr h0 hn' =>
      simp only [Value.slice.injEq, Option.some.injEq, Addr.mk.injEq, and_true] at hv
      obtain ⟨⟨rfl, rfl⟩, rfl, rfl⟩ := hv
      have hlen : (midL xs lo n).length = n := by simp [midL]; omega
      have hsz' : off1 + lo * e.size + (k + 1) * e.size ≤ arr.size := by
        have : (lo + (k + 1)) * e.size ≤ (cap1 + 1) * e.size := Nat.mul_le_mul_right _ hcc
        rw [Nat.add_mul] at this
        omega
      have hcell : ∀ i j, cellOf (rows .own e (midL xs lo n)) i j = if i < n then cellOf (rows .own e xs) (lo + i) j else none := by
        intro i j
        rw [cellOf_rows, cellOf_rows]
        simp only [midL, List.getElem?_take, List.getElem?_drop]
        by_cases hi : i < n
        · rw [if_pos hi, if_pos hi]
        · rw [if_neg hi, if_neg hi]; rfl
      refine ⟨fun p => match p with | [] => some (.slice (some ⟨b1, off1 + lo * e.size, none⟩) n (k + 1)) | (i, j) :: q => if i < n then φ ((lo + i, j) :: q) else none, ?_, ?_⟩
      · have := RepO.sl (w := w) (S := S) e (midL xs lo n) b1 (off1 + lo * e.size) k arr el (fun i j => vs (lo + i) j)
          (fun p => match p with | [] => some (.slice (some ⟨b1, off1 + lo * e.size, none⟩) n (k + 1)) | (i, j) :: q => if i < n then φ ((lo + i, j) :: q) else none)
          hb (by omega) hsz'
          (fun i j t e' => by
            rw [hcell] at e'
            split at e'
            · have := hc _ _ _ e'
              rw [← this, Nat.add_mul]; congr 1; omega
            · cases e')
          (fun i j t e' => by
            rw [hcell] at e'
            split at e'
            · rename_i hi
              have : (Lay.at (fun p => match p with | [] => some (.slice (some ⟨b1, off1 + lo * e.size, none⟩) n (k + 1)) | (i, j) :: q => if i < n then φ ((lo + i, j) :: q) else none) i j) = φ.at (lo + i) j := by
                funext q; simp [Lay.at, hi]
              rw [this]; exact hr _ _ _ e'
            · cases e')
          (by simp only [hlen])
          (fun i j e' => by
            rw [hcell] at e'
            funext q
            simp only [Lay.at, noLay]
            by_cases hi : i < n
            · rw [if_pos hi] at e' ⊢
              exact congrFun (hn' _ _ e') q
            · rw [if_neg hi])
        rw [hlen] at this
        exact this
      · intro q y b' h1 h2
        cases q with
        | nil =>
          simp only [Option.some.injEq] at h1
          subst h1
          simp only [blkOf, Option.some.injEq] at h2
          subst h2
          exact ⟨[], _, h0, rfl, .inl ⟨rfl, rfl⟩⟩
        | cons c q =>
          obtain ⟨i, j⟩ := c
          simp only at h1
          split at h1
          · exact ⟨_, y, h1, h2, .inr ⟨i, j, q, rfl, rfl⟩⟩
          · cases h1

theorem kill_graft {s : Sit} {r : Nat} {p : Path} {z : C} {u : Value} (h : RepC w s z u) : RepC w (setΦ s r ((s.Φ r).graft p noLay)) (z.kill r (jp p)) u := by
  refine h.kill (fun _ _ _ => rfl) (fun _ _ h => h) rfl (fun r' p' hh => ?_)
  by_cases e : r' = r
  · subst e
    rw [setΦ_same, graft_eq]
    cases es : strip p p' with
    | none => rfl
    | some q => exact absurd ⟨rfl, pre_of_strip es⟩ hh
  · rw [setΦ_ne _ _ e]

theorem graft_sub {s : Sit} {r : Nat} {p : Path} {r' : Nat} {q : Path} {z : Value} (h : (setΦ s r ((s.Φ r).graft p noLay)).Φ r' q = some z) : s.Φ r' q = some z := by
  by_cases e : r' = r
  · subst e
    rw [setΦ_same, graft_eq] at h
    split at h
    · simp [noLay] at h
    · exact h
  · rwa [setΦ_ne _ _ e] at h

/-- What is left when a cell was taken. -/
structure TakenC (B : Base) (s : Sit) (x1 : X) (a : Act) (w : World) (y : C) (t : T) (v : Value) (s1 : Sit) (ψ : Lay) : Prop where
  rel : RelW B s1 x1 a w
  rep : RepO w s.S t v ψ
  out : OwnOut B s1 w ψ
  S : s1.S = s.S
  F : s1.F = s.F
  sub : ∀ r p z, s1.Φ r p = some z → s.Φ r p = some z
  orig : ∀ q y b, ψ q = some y → blkOf y = some b → ∃ r p z, s.Φ r p = some z ∧ blkOf z = some b
  live : ∀ z u, RepC w s z u → RepC w s1 (killBy y z) u

theorem takeC_sound (h : RelW B s x a w) {hint : Option Ty} {y : C} {v : Value} (hy : RepC w s y v) {K : T → X → Option α} {q : α} (ht : takeCK x hint y K = some q) :
    ∃ t x1 s1 ψ, K t x1 = some q ∧ TakenC B s x1 a w y t v s1 ψ := by
  unfold takeCK at ht
  split at ht
  · rename_i t
    split at ht
    · rename_i hsh
      cases hy with
      | k _ _ hr => exact ⟨t, x, s, noLay, ht, h, .sh _ _ hr hsh, .none B s w, rfl, rfl, fun _ _ _ h => h, fun _ _ _ h => by simp [noLay] at h, fun _ _ h => h⟩
    · cases ht
  · split at ht
    · rename_i e
      cases hy with
      | nil a0 =>
        have hno : ∀ (p1 : Path) z1 b, (match p1 with | [] => some (Value.slice a0 0 0) | _ => none) = some z1 → blkOf z1 = some b → False := by
          intro p1 z1 b h1 hb1
          cases p1 with
          | nil => simp only [Option.some.injEq] at h1; subst h1; rw [blk_cap0] at hb1; cases hb1
          | cons => simp at h1
        exact ⟨_, x, s, fun p => match p with | [] => some (.slice a0 0 0) | _ => none, ht, h, .nil e a0 _ rfl (fun _ _ => rfl),
          ⟨fun p1 z1 p2 z2 b h1 hb1 _ _ => (hno _ _ _ h1 hb1).elim, fun p1 z1 b h1 hb1 => (hno _ _ _ h1 hb1).elim, fun p1 z1 b h1 hb1 => (hno _ _ _ h1 hb1).elim⟩, rfl, rfl, fun _ _ _ h => h,
          fun p1 z1 b h1 hb1 => (hno _ _ _ h1 hb1).elim, fun _ _ h => h⟩
    · cases ht
  · rename_i r p e0
    split at ht
    · cases ht
    · rename_i c p
      obtain ⟨old, x', h1, h2, ht⟩ := setAtK_some ht
      obtain ⟨p0, i, j, hp⟩ := last_split (p := c :: p) (by simp)
      split at ht
      · rename_i e xs
        rw [hp] at h1 h2
        obtain ⟨y1, g1, g2, g3⟩ := h.take h1 h2
        cases hy with
        | own _ _ _ _ hΦ =>
          rw [hp] at hΦ
          have hval : y1 = v := by
            have e1 : ((s.Φ r).under (p0 ++ [(i, j)])) [] = some v := by rw [Lay.under_apply_nil]; exact hΦ
            generalize (s.Φ r).under (p0 ++ [(i, j)]) = φ at g1 e1
            cases g1 with
            | sh _ _ _ ht' => simp [T.isSh] at ht'
            | nil e a φ h0' _ => rw [h0'] at e1; simpa using e1
            | sl e xs b off cap' arr el vs φ hb hcap hsz hc' hr h0' hn' => rw [h0'] at e1; simpa using e1
            | box _ cs hb => simp [T.box?] at hb
          subst hval
          exact ⟨_, x', _, _, ht, g2, g1, g3, rfl, rfl, fun _ _ _ h => graft_sub h, fun q y b e1 e2 => ⟨_, _, _, e1, e2⟩, fun z u hz => by
            show RepC w _ (z.kill r (jp (c :: p))) u
            rw [hp]; exact kill_graft hz⟩
      · cases ht
  · rename_i r p lo n e0
    split at ht
    · cases ht
    · rename_i c p
      obtain ⟨old, x', h1, h2, ht⟩ := setAtK_some ht
      obtain ⟨p0, i, j, hp⟩ := last_split (p := c :: p) (by simp)
      split at ht
      · rename_i e xs
        split at ht
        · rename_i hsz
          have hsz := Nat.eq_of_beq_eq_true hsz
          rw [hp] at h1 h2
          obtain ⟨y1, g1, g2, g3⟩ := h.take h1 h2
          cases hy with
          | sub _ _ _ _ _ a1 a' n0 cap cap' hΦ hle hcap hcn hcc h0 hn =>
            rw [hp] at hΦ
            have hval : y1 = .slice a1 n0 cap := by
              have e1 : ((s.Φ r).under (p0 ++ [(i, j)])) [] = some (.slice a1 n0 cap) := by rw [Lay.under_apply_nil]; exact hΦ
              generalize (s.Φ r).under (p0 ++ [(i, j)]) = φ at g1 e1
              cases g1 with
              | sh _ _ _ ht' => simp [T.isSh] at ht'
              | nil e a φ h0' _ => rw [h0'] at e1; simpa using e1
              | sl e xs b off cap' arr el vs φ hb hcap hsz hc' hr h0' hn' => rw [h0'] at e1; simpa using e1
              | box _ cs hb => simp [T.box?] at hb
            subst hval
            obtain ⟨ψ, hψ, hsub⟩ := mid_rep (a' := a') g1 hle hcn hcc (fun hne => by
              obtain ⟨b, off, e1, e2⟩ := hn hne
              exact ⟨b, off, e1, by rw [hsz]; exact e2⟩)
            refine ⟨_, x', _, ψ, ht, g2, hψ, ⟨?_, ?_, ?_⟩, rfl, rfl, fun _ _ _ h => graft_sub h, ?_, fun z u hz => by
              show RepC w _ (z.kill r (jp (c :: p))) u
              rw [hp]; exact kill_graft hz⟩
            · intro p1 z1 p2 z2 b e1 b1 e2 b2
              obtain ⟨q1, z1', f1, k1, o1⟩ := hsub _ _ _ e1 b1
              obtain ⟨q2, z2', f2, k2, o2⟩ := hsub _ _ _ e2 b2
              have := g3.inj _ _ _ _ _ f1 k1 f2 k2
              rcases o1 with ⟨rfl, rfl⟩ | ⟨i1, j1, q01, rfl, rfl⟩ <;> rcases o2 with ⟨rfl, rfl⟩ | ⟨i2, j2, q02, rfl, rfl⟩
              · rfl
              · simp at this
              · simp at this
              · simp only [List.cons.injEq, Prod.mk.injEq] at this
                obtain ⟨⟨h1, h2⟩, h3⟩ := this
                have : i1 = i2 := by omega
                rw [this, h2, h3]
            · intro p1 z1 b e1 b1
              obtain ⟨q1, z1', f1, k1, _⟩ := hsub _ _ _ e1 b1
              exact g3.own _ _ _ f1 k1
            · intro p1 z1 b e1 b1
              obtain ⟨q1, z1', f1, k1, _⟩ := hsub _ _ _ e1 b1
              exact g3.out _ _ _ f1 k1
            · intro p1 z1 b e1 b1
              obtain ⟨q1, z1', f1, k1, _⟩ := hsub _ _ _ e1 b1
              exact ⟨_, _, _, f1, k1⟩
        · cases ht
      · cases ht
  · rename_i r p i0 j0 sz
    split at ht
    · cases ht
    · rename_i c p
      split at ht
      · split at ht
        · obtain ⟨old, x', h1, h2, ht⟩ := setAtK_some ht
          obtain ⟨p0, i, j, hp⟩ := last_split (p := c :: p) (by simp)
          have key : ∀ cs, old.box? = some cs → K old x' = some q → ∃ t x1 s1 ψ, K t x1 = some q ∧ TakenC B s x1 a w (.pt r (c :: p) 0 0 sz) t v s1 ψ := by
            intro cs hbox ht
            rw [hp] at h1 h2
            obtain ⟨y1, g1, g2, g3⟩ := h.take h1 h2
            cases hy with
            | pt _ _ _ _ _ x0 b hΦ hb =>
              rw [hp] at hΦ
              have hval : y1 = .pointer (some ⟨b, 0, none⟩) ∧ offOf x0 = 0 := by
                have e1 : ((s.Φ r).under (p0 ++ [(i, j)])) [] = some x0 := by rw [Lay.under_apply_nil]; exact hΦ
                generalize (s.Φ r).under (p0 ++ [(i, j)]) = φ at g1 e1
                cases g1 with
                | sh _ _ _ ht' => cases old with
                  | pp f cs' => cases f <;> simp [T.isSh] at ht' <;> simp [T.box?] at hbox
                  | pt f e d => cases f <;> simp [T.isSh] at ht' <;> simp [T.box?] at hbox
                  | po => simp [T.isSh] at ht'
                  | _ => simp [T.box?] at hbox
                | nil => simp [T.box?] at hbox
                | sl => simp [T.box?] at hbox
                | slo => simp [T.box?] at hbox
                | vr => simp [T.box?] at hbox
                | box _ cs ht b' arr el vs φ hb' hsz hc' hr h0' hn' =>
                  rw [h0', Option.some.injEq] at e1
                  subst e1
                  simp only [blkOf, Option.some.injEq] at hb
                  subst hb
                  exact ⟨rfl, rfl⟩
              obtain ⟨rfl, hoff⟩ := hval
              rw [hoff]
              simp only [Nat.zero_mul, Nat.add_zero]
              exact ⟨_, x', _, _, ht, g2, g1, g3, rfl, rfl, fun _ _ _ h => graft_sub h, fun q y b e1 e2 => ⟨_, _, _, e1, e2⟩, fun z u hz => by
                show RepC w _ (z.kill r (jp (c :: p))) u
                rw [hp]; exact kill_graft hz⟩
          split at ht
          · exact key _ rfl ht
          · exact key _ rfl ht
          · cases ht
        · cases ht
      · cases ht
  · cases ht

/-- Taken for good, cell after cell. -/
structure Taken (B : Base) (s : Sit) (w : World) (ts : List T) (us : Nat → Value) (φ : Lay) : Prop where
  get : ∀ (j : Nat) t, ts[j]? = some t → RepO w s.S t (us j) (φ.at 0 j)
  nil : φ [] = none
  out : ∀ i j, (i ≠ 0 ∨ ts[j]? = none) → φ.at i j = noLay
  own : OwnOut B s w φ

def snocLay (φ ψ : Lay) (n : Nat) : Lay := fun p => match p with
  | [] => none
  | (i, j) :: q => if i = 0 ∧ j = n then ψ q else φ ((i, j) :: q)

theorem Taken.empty (us : Nat → Value) : Taken B s w [] us noLay where
  get := fun j t e => by simp at e
  nil := rfl
  out := fun _ _ _ => rfl
  own := .none B s w

theorem Taken.snoc {ts : List T} {us : Nat → Value} {φ : Lay} (h : Taken B s w ts us φ) {s1 : Sit} {t : T} {u : Value} {ψ : Lay} (hS : s1.S = s.S)
    (hsub : ∀ r p z, s1.Φ r p = some z → s.Φ r p = some z) (hr : RepO w s.S t u ψ) (ho : OwnOut B s1 w ψ)
    (horig : ∀ q y b, ψ q = some y → blkOf y = some b → ∃ r p z, s.Φ r p = some z ∧ blkOf z = some b) :
    Taken B s1 w (ts ++ [t]) (fun j => if j = ts.length then u else us j) (snocLay φ ψ ts.length) := by
  have hat : ∀ j, (snocLay φ ψ ts.length).at 0 j = if j = ts.length then ψ else φ.at 0 j := by
    intro j
    funext q
    by_cases e : j = ts.length <;> simp [Lay.at, snocLay, e]
  have hcase : ∀ q y, snocLay φ ψ ts.length q = some y → (∃ q', q = (0, ts.length) :: q' ∧ ψ q' = some y) ∨ (φ q = some y) := by
    intro q y e
    cases q with
    | nil => simp [snocLay] at e
    | cons d q =>
      obtain ⟨i, j⟩ := d
      simp only [snocLay] at e
      split at e
      · rename_i hij; obtain ⟨rfl, rfl⟩ := hij; exact .inl ⟨q, rfl, e⟩
      · exact .inr e
  refine ⟨fun j t' e => ?_, rfl, fun i j hij => ?_, ⟨?_, ?_, ?_⟩⟩
  · rw [hat, hS]
    by_cases hj : j = ts.length
    · subst hj
      simp only [List.getElem?_concat_length, Option.some.injEq] at e
      subst e
      simpa using hr
    · rw [if_neg hj]
      have hlt : j < ts.length := by
        have := (List.getElem?_eq_some_iff.mp e).1
        simp only [List.length_append, List.length_cons, List.length_nil] at this
        omega
      rw [List.getElem?_append_left hlt] at e
      simpa [hj] using h.get j t' e
  · funext q
    simp only [Lay.at, snocLay, noLay]
    split
    · rename_i e
      obtain ⟨rfl, rfl⟩ := e
      rcases hij with hij | hij
      · exact absurd rfl hij
      · simp at hij
    · rename_i e
      have := h.out i j (by
        rcases hij with hij | hij
        · exact .inl hij
        · refine .inr ?_
          rw [List.getElem?_eq_none_iff] at hij ⊢
          simp only [List.length_append, List.length_cons, List.length_nil] at hij
          omega)
      exact congrFun this q
  · intro p y p' y' b e1 e2 e3 e4
    rcases hcase p y e1 with ⟨q, rfl, g1⟩ | g1 <;> rcases hcase p' y' e3 with ⟨q', rfl, g2⟩ | g2
    · rw [ho.inj _ _ _ _ _ g1 e2 g2 e4]
    · obtain ⟨r, p0, z, f1, f2⟩ := horig _ _ _ g1 e2
      exact absurd f2 (h.own.out _ _ _ g2 e4 _ _ _ f1)
    · obtain ⟨r, p0, z, f1, f2⟩ := horig _ _ _ g2 e4
      exact absurd f2 (h.own.out _ _ _ g1 e2 _ _ _ f1)
    · exact h.own.inj _ _ _ _ _ g1 e2 g2 e4
  · intro q y b e1 e2
    rcases hcase q y e1 with ⟨q', rfl, g1⟩ | g1
    · exact ho.own _ _ _ g1 e2
    · have := h.own.own _ _ _ g1 e2; rw [hS]; exact this
  · intro q y b e1 e2 r p z e3
    rcases hcase q y e1 with ⟨q', rfl, g1⟩ | g1
    · exact ho.out _ _ _ g1 e2 _ _ _ e3
    · exact h.own.out _ _ _ g1 e2 _ _ _ (hsub _ _ _ e3)

def takeCsK (hs : List (Option Ty)) (ys : List C) (n : Nat) (x : X) (K : List T → X → Option α) : Option α := match n with
  | 0 => K [] x
  | n + 1 => match ys with
    | [] => K [] x
    | y :: ys => match okCell y with
      | true => takeCK x (match hs with | h :: _ => h | [] => none) y fun t x1 => takeCsK (match hs with | _ :: hs => hs | [] => []) (mapL (killBy y) ys) n x1 fun ts x2 => K (t :: ts) x2
      | false => none

theorem takeCs_sound : ∀ (n : Nat) (hs : List (Option Ty)) (ys : List C) {x : X} {s : Sit} {ts0 : List T} {us : Nat → Value} {φ : Lay} {vals : List Value} {K : List T → X → Option α} {q : α}, RelW B s x a w → Taken B s w ts0 us φ →
    (∀ (j : Nat) y, ys[j]? = some y → ∃ u, vals[j]? = some u ∧ RepC w s y u) → n = ys.length → takeCsK hs ys n x K = some q →
    ∃ ts x1 s1 us1 φ1, K ts x1 = some q ∧ RelW B s1 x1 a w ∧ Taken B s1 w (ts0 ++ ts) us1 φ1 ∧ s1.S = s.S ∧ s1.F = s.F ∧ (∀ r p z, s1.Φ r p = some z → s.Φ r p = some z) ∧
      (∀ j, j < ts0.length → us1 j = us j) ∧ ts.length = ys.length ∧ (∀ j, j < ys.length → vals[j]? = some (us1 (ts0.length + j))) := by
  intro n
  induction n with
  | zero =>
    intro hs ys x s ts0 us φ vals K q h ht hv hn he
    have : ys = [] := List.length_eq_zero_iff.mp hn.symm
    subst this
    simp only [takeCsK] at he
    exact ⟨[], x, s, us, φ, he, h, by simpa using ht, rfl, rfl, fun _ _ _ h => h, fun _ _ => rfl, rfl, fun j hj => by simp at hj⟩
  | succ n ih =>
    intro hs ys x s ts0 us φ vals K q h ht hv hn he
    cases ys with
    | nil => simp at hn
    | cons y ys =>
      simp only [takeCsK] at he
      split at he
      · obtain ⟨u, hu, hy⟩ := hv 0 y rfl
        obtain ⟨t, x1, s1, ψ, hK, tc⟩ := takeC_sound h hy he
        have ht1 := ht.snoc tc.S tc.sub tc.rep tc.out tc.orig
        obtain ⟨ts, x2, s2, us2, φ2, k0, k1, k2, k3, k4, k5, k6, k7, k8⟩ := ih _ _ (vals := vals.tail) tc.rel ht1 (fun j z e => by
          rw [mapL_eq, List.getElem?_map] at e
          obtain ⟨z0, ez, rfl⟩ := Option.map_eq_some_iff.mp e
          obtain ⟨u', f1, f2⟩ := hv (j + 1) z0 (by simpa using ez)
          exact ⟨u', by simpa using f1, tc.live _ _ f2⟩) (by rw [mapL_eq]; simpa using hn) hK
        refine ⟨_, x2, s2, us2, φ2, k0, k1, by simpa using k2, k3.trans tc.S, k4.trans tc.F, fun r p z e => tc.sub _ _ _ (k5 _ _ _ e), fun j hj => ?_, by rw [mapL_eq] at k7; simpa using k7, fun j hj => ?_⟩
        · rw [k6 j (by simp; omega)]
          have : ¬ j = ts0.length := by omega
          simp [this]
        · cases j with
          | zero =>
            have := k6 ts0.length (by simp)
            simp only [if_true] at this
            rw [Nat.add_zero, this, hu]
          | succ j =>
            have := k8 j (by rw [mapL_eq]; simp at hj ⊢; omega)
            rw [List.getElem?_tail] at this
            rw [this]
            simp only [List.length_append, List.length_cons, List.length_nil]
            congr 2
            omega
      · cases he

end
end Go.V
