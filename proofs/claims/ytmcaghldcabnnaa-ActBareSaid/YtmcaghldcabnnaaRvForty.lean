/- Drawn regions in which some readings may come up between the last operations: whatever order, the same is computed. -/
import Derived.Test.YtmcaghldcabnnaaRvThirtyTwo
namespace Go.V
open Go.RowKit

variable {α : Type}

open Classical in
/-- Both, if they are one. -/
noncomputable def sameR (a b : Option α) : Option α := if a = b then a else none

theorem sameR_self (a : Option α) : sameR a a = a := by unfold sameR; rw [if_pos rfl]

theorem sameR_some {a b : Option α} {q : α} (h : sameR a b = some q) : a = some q ∧ b = some q := by
  unfold sameR at h
  split at h
  · rename_i e; exact ⟨h, by rw [← e]; exact h⟩
  · cases h

/-- For each of the list, if all are one. -/
noncomputable def sameL {β : Type} (f : β → Option α) : List β → Option α
  | [] => none
  | b :: l => match l with
    | [] => f b
    | _ :: _ => sameR (f b) (sameL f l)

theorem sameL_some {β : Type} {f : β → Option α} {q : α} : ∀ {l : List β}, sameL f l = some q → ∀ b ∈ l, f b = some q
  | [], h, b, hb => by simp at hb
  | [b0], h, b, hb => by simp only [List.mem_singleton] at hb; subst hb; exact h
  | b0 :: b1 :: l, h, b, hb => by
    unfold sameL at h
    obtain ⟨h1, h2⟩ := sameR_some h
    rcases List.mem_cons.1 hb with e | hb
    · subst e; exact h1
    · exact sameL_some h2 b hb

def delN (i : Nat) : List Nat → List Nat
  | [] => []
  | j :: l => match Nat.beq j i with
    | true => delN i l
    | false => j :: delN i l

theorem mem_delN {i j : Nat} {l : List Nat} : j ∈ delN i l ↔ j ∈ l ∧ j ≠ i := by
  induction l with
  | nil => simp [delN]
  | cons a l ih =>
    unfold delN
    cases h : Nat.beq a i with
    | true =>
      have := Nat.eq_of_beq_eq_true h
      subst this
      simp only [ih, List.mem_cons]
      constructor
      · rintro ⟨h1, h2⟩; exact ⟨.inr h1, h2⟩
      · rintro ⟨h1 | h1, h2⟩
        · exact absurd h1 h2
        · exact ⟨h1, h2⟩
    | false =>
      have := Nat.ne_of_beq_eq_false h
      simp only [ih, List.mem_cons]
      constructor
      · rintro (h1 | ⟨h1, h2⟩)
        · exact ⟨.inl h1, by rw [h1]; exact this⟩
        · exact ⟨.inr h1, h2⟩
      · rintro ⟨h1 | h1, h2⟩
        · exact .inl h1
        · exact .inr ⟨h1, h2⟩

def filtB {β : Type} (f : β → Bool) : List β → List β
  | [] => []
  | j :: l => match f j with
    | true => j :: filtB f l
    | false => filtB f l

theorem mem_filtB {β : Type} {f : β → Bool} {j : β} {l : List β} : j ∈ filtB f l ↔ j ∈ l ∧ f j = true := by
  induction l with
  | nil => simp [filtB]
  | cons a l ih =>
    unfold filtB
    cases h : f a with
    | true =>
      simp only [List.mem_cons, ih]
      constructor
      · rintro (h1 | ⟨h1, h2⟩)
        · exact ⟨.inl h1, by rw [h1]; exact h⟩
        · exact ⟨.inr h1, h2⟩
      · rintro ⟨h1 | h1, h2⟩
        · exact .inl h1
        · exact .inr ⟨h1, h2⟩
    | false =>
      simp only [ih, List.mem_cons]
      constructor
      · rintro ⟨h1, h2⟩; exact ⟨.inr h1, h2⟩
      · rintro ⟨h1 | h1, h2⟩
        · rw [h1, h] at h2; cases h2
        · exact ⟨h1, h2⟩

def readyL (ops : Array Oper) (pend : List Nat) : List Nat := filtB (fun i => allB (fun k => !(mem pend k)) (deps ops i)) pend

/-- The operations left, in each order that may be. -/
noncomputable def anyK (cx : Ctx) (nt : Fr) (Δ : List (Nat × Fn)) (ops : Array Oper) : Nat → List Nat → X → (X → Option α) → Option α
  | 0, pend, x, K => match pend with
    | [] => K x
    | _ :: _ => none
  | n + 1, pend, x, K => match pend with
    | [] => K x
    | _ :: _ => sameL (fun i => match nth ops.toList i with
      | some o => opsK cx nt Δ ops.toList [o] x fun x' => anyK cx nt Δ ops n (delN i pend) x' K
      | none => none) (readyL ops pend)

def subs : List Nat → List (List Nat)
  | [] => [[]]
  | i :: l => app (subs l) (mapS' (fun s => i :: s) (subs l))
where
  mapS' (f : List Nat → List Nat) : List (List Nat) → List (List Nat)
  | [] => []
  | s :: l => f s :: mapS' f l

/-- What may be left: with each, all that waits for it. -/
def upOk (ops : Array Oper) (A : List Nat) (S : List Nat) : Bool := allB (fun j => match mem S j with | true => true | false => allB (fun k => !(mem S k)) (deps ops j)) A

def drawTOk (ops : Array Oper) (A fl : List Nat) : Bool :=
  and (allB (fun k => Nat.blt k ops.size) A) (and (allB (fun k => mem A k) fl) (and (allB (fun j => allB (fun k => Nat.blt k j) (deps ops j)) (rangeFrom 0 ops.size))
    (allB (fun j => match mem A j with | true => true | false => allB (fun k => match mem fl k with | true => true | false => before ops ops.size j k) A) (rangeFrom 0 ops.size))))

/-- The first ones, one by one. -/
def readsA (cx : Ctx) (nt : Fr) (Δ : List (Nat × Fn)) (ops : Array Oper) (x0 : X) : List Nat → Res → (Res → Option α) → Option α
  | [], R, K => K R
  | i :: is, R, K => match nth ops.toList i with
    | some o => readsK cx nt Δ ops x0 i [o] R fun R' => readsA cx nt Δ ops x0 is R' K
    | none => none

def dstsA (nt : Fr) (ops : Array Oper) : List Nat → List Nat
  | [] => []
  | i :: is => match nth ops.toList i with
    | some o => app (dstsO nt [o]) (dstsA nt ops is)
    | none => dstsA nt ops is

def restA (A : List Nat) : List Nat → List Nat
  | [] => []
  | j :: l => match mem A j with
    | true => restA A l
    | false => j :: restA A l

noncomputable def drawTK (cx : Ctx) (nt : Fr) (Δ : List (Nat × Fn)) (ops : Array Oper) (A fl : List Nat) (x : X) (K : X → Option α) : Option α := match drawTOk ops A fl with
  | true => (dropAll (dstsA nt ops A) x).bind fun x0 => readsA cx nt Δ ops x0 A [] fun R =>
      match allB (fun k => mem (dstsA nt ops A) k) (dstsR R) with
      | true => sameL (fun S => anyK cx nt Δ ops ops.size (app S (restA A (rangeFrom 0 ops.size))) (withR x0 (fun i => !(mem S i)) R) K) (filtB (upOk ops A) (subs fl))
      | false => none
  | false => none

theorem filt_subs (f : Nat → Bool) : ∀ fl : List Nat, filtB f fl ∈ subs fl
  | [] => by simp [filtB, subs]
  | i :: l => by
    have ih := filt_subs f l
    have hmap : ∀ (L : List (List Nat)) s, s ∈ L → (i :: s) ∈ subs.mapS' (fun s => i :: s) L := by
      intro L s hs
      induction L with
      | nil => simp at hs
      | cons a L ihL =>
        unfold subs.mapS'
        rcases List.mem_cons.1 hs with e | e
        · subst e; exact List.mem_cons_self
        · exact List.mem_cons_of_mem _ (ihL e)
    unfold filtB subs
    rw [app_eq]
    cases f i with
    | true => exact List.mem_append.2 (.inr (hmap _ _ ih))
    | false => exact List.mem_append.2 (.inl ih)

theorem rangeFrom_iff {a n j : Nat} : j ∈ rangeFrom a n ↔ a ≤ j ∧ j < a + n := by
  induction n generalizing a with
  | zero => simp [rangeFrom]
  | succ n ih => simp only [rangeFrom, List.mem_cons, ih]; omega

theorem selE_same {A A' : Nat → Bool} : ∀ {R : Res}, (∀ e ∈ R, A e.1 = A' e.1) → selE A R = selE A' R
  | [], _ => rfl
  | e :: R, h => by
    have ih := selE_same (R := R) (fun e he => h e (List.mem_cons_of_mem _ he))
    unfold selE
    rw [h e List.mem_cons_self, ih]

theorem selR_same {A A' : Nat → Bool} : ∀ {R : Res}, (∀ e ∈ R, A e.1 = A' e.1) → selR A R = selR A' R
  | [], _ => rfl
  | e :: R, h => by
    have ih := selR_same (R := R) (fun e he => h e (List.mem_cons_of_mem _ he))
    unfold selR
    rw [h e List.mem_cons_self, ih]

theorem withR_same {x : X} {A A' : Nat → Bool} {R : Res} (h : ∀ e ∈ R, A e.1 = A' e.1) : withR x A R = withR x A' R := by
  unfold withR
  rw [selE_same h, selR_same h]

section
variable {c : Ctx} {nt : Fr} {Δ : List (Nat × Fn)}

theorem anyK_sound (hΔ : Known c.P c.G Δ) {B : Base} (hG : Fit B c) (hnt : B.nt = nt) {ops : Array Oper} (hdep : ∀ j k, k ∈ deps ops j → k < j) {Q : Exit → Act → World → Prop} {K : X → Option α} {q : α}
    (hK : ∀ x s a w, RelW B s x a w → K x = some q → Q .normal a w) : ∀ (n : Nat) (pend : List Nat) (x : X) (s : Sit) (a : Act) (w : World) (listed : Array Bool) (n' : Nat), RelW B s x a w → listed.size = ops.size →
      (∀ j, j < ops.size → (j ∈ pend ↔ listed.getD j false = false)) → (∀ j ∈ pend, j < ops.size) → unl ops.size listed ≤ n' → anyK c nt Δ ops n pend x K = some q → wpAny c.P .any ops Q n' listed a w := by
  have fin : ∀ (x : X) (s : Sit) (a : Act) (w : World) (listed : Array Bool) (n' : Nat), RelW B s x a w → listed.size = ops.size → (∀ j, j < ops.size → listed.getD j false = true) → K x = some q → wpAny c.P .any ops Q n' listed a w := by
    intro x s a w listed n' h hs hall he
    have hr : Region.ready .any ops listed = [] := by
      cases hr : Region.ready .any ops listed with
      | nil => rfl
      | cons i l =>
        obtain ⟨g1, g2⟩ := ready_un hs (by rw [hr]; exact List.mem_cons_self : i ∈ Region.ready .any ops listed)
        rw [hall i g1] at g2; cases g2
    cases n' with
    | zero => exact ⟨hr, hK _ _ _ _ h he⟩
    | succ n' => exact ⟨fun _ => hK _ _ _ _ h he, fun i hi => by rw [hr] at hi; simp at hi⟩
  intro n
  induction n with
  | zero =>
    intro pend x s a w listed n' h hs hp hlt hn he
    unfold anyK at he
    cases pend with
    | nil => exact fin x s a w listed n' h hs (fun j hj => by
        cases e : listed.getD j false with
        | true => rfl
        | false => exact absurd ((hp j hj).2 e) (by simp)) he
    | cons => cases he
  | succ n ih =>
    intro pend x s a w listed n' h hs hp hlt hn he
    unfold anyK at he
    cases pend with
    | nil => exact fin x s a w listed n' h hs (fun j hj => by
        cases e : listed.getD j false with
        | true => rfl
        | false => exact absurd ((hp j hj).2 e) (by simp)) he
    | cons j0 pl =>
      generalize hpe : j0 :: pl = pend at *
      have hj0 : j0 ∈ pend := by rw [← hpe]; exact List.mem_cons_self
      have he : sameL (fun i => match nth ops.toList i with
        | some o => opsK c nt Δ ops.toList [o] x fun x' => anyK c nt Δ ops n (delN i pend) x' K
        | none => none) (readyL ops pend) = some q := by rw [← hpe] at he ⊢; exact he
      have hready : ∀ i, i ∈ Region.ready .any ops listed → i ∈ readyL ops pend := by
        intro i hi
        obtain ⟨g1, g2⟩ := ready_un hs hi
        refine mem_filtB.2 ⟨(hp i g1).2 g2, (allB_iff _ _).2 fun k hk => ?_⟩
        have hkl := ready_deps hi k hk
        cases hm : mem pend k with
        | false => rfl
        | true =>
          have hkm := (mem_iff _ _).1 hm
          rw [(hp k (hlt k hkm)).1 hkm] at hkl; cases hkl
      have hne : ∃ i l, readyL ops pend = i :: l := by
        cases e : readyL ops pend with
        | nil => rw [e] at he; cases he
        | cons i l => exact ⟨i, l, rfl⟩
      obtain ⟨i0, l0, hi0⟩ := hne
      have hi0m : i0 ∈ readyL ops pend := by rw [hi0]; exact List.mem_cons_self
      obtain ⟨hi0p, hi0d⟩ := mem_filtB.1 hi0m
      have hreal : i0 ∈ Region.ready .any ops listed := by
        refine ready_of hs (hlt _ hi0p) ((hp _ (hlt _ hi0p)).1 hi0p) (fun k hk => ?_)
        have h1 := (allB_iff _ _).1 hi0d k hk
        cases e : listed.getD k false with
        | true => rfl
        | false =>
          have h2 := (mem_iff _ _).2 ((hp k (Nat.lt_trans (hdep _ _ hk) (hlt _ hi0p))).2 e)
          rw [h2] at h1; cases h1
      have hstep : ∀ n1, unl ops.size listed ≤ n1 + 1 → ∀ i ∈ Region.ready .any ops listed, wpOp c.P ops Q i (wpAny c.P .any ops Q n1 (listed.setIfInBounds i true)) a w := by
        intro n1 hn1 i hi
        obtain ⟨g1, g2⟩ := ready_un hs hi
        have hb := sameL_some he i (hready i hi)
        rw [nth_eq, Array.getElem?_toList, Array.getElem?_eq_getElem g1] at hb
        simp only at hb
        unfold wpOp
        rw [Array.getElem?_eq_getElem g1]
        have hst := ops_step hΔ hG hnt (Q := Q) h hb (K' := wpAny c.P .any ops Q n1 (listed.setIfInBounds i true)) (fun x' s' a' w' k1 k2 => by
          simp only [opsK] at k1
          refine ih (delN i pend) x' s' a' w' (listed.setIfInBounds i true) n1 k2 (by simpa using hs) (fun j hj => ?_) (fun j hj => hlt j (mem_delN.1 hj).1) ?_ k1
          · rw [mem_delN]
            by_cases e : j = i
            · subst e
              constructor
              · rintro ⟨-, h2⟩; exact absurd rfl h2
              · intro h2
                have : (listed.setIfInBounds j true).getD j false = true := by simp [show j < listed.size by omega]
                rw [this] at h2; cases h2
            · rw [getD_set_ne false (fun e' => e e'.symm), ← hp j hj]
              exact ⟨fun h2 => h2.1, fun h2 => ⟨h2, e⟩⟩
          · have := unl_set (l := listed) (i := i) (by omega) g2 ops.size
            rw [if_pos g1] at this
            omega)
        split at hst
        · rename_i hwt; simp only [hwt, if_true]; exact .inl hst
        · rename_i hwt; simp only [hwt]; exact hst
      cases n' with
      | zero =>
        have hall := unl_zero (l := listed) (k := ops.size) (by omega)
        obtain ⟨g1, g2⟩ := ready_un hs hreal
        rw [hall _ g1] at g2; cases g2
      | succ n1 =>
        exact ⟨fun hr => by rw [hr] at hreal; simp at hreal, hstep n1 hn⟩

theorem mem_restA {A : List Nat} {l : List Nat} {j : Nat} : j ∈ restA A l ↔ j ∈ l ∧ j ∉ A := by
  induction l with
  | nil => simp [restA]
  | cons a l ih =>
    unfold restA
    split
    · rename_i hm
      have hm := (mem_iff _ _).1 hm
      rw [ih, List.mem_cons]
      constructor
      · rintro ⟨h1, h2⟩; exact ⟨.inr h1, h2⟩
      · rintro ⟨h1 | h1, h2⟩
        · rw [h1] at h2; exact absurd hm h2
        · exact ⟨h1, h2⟩
    · rename_i hm
      have hm : a ∉ A := fun e => by rw [(mem_iff _ _).2 e] at hm; cases hm
      rw [List.mem_cons, ih, List.mem_cons]
      constructor
      · rintro (h1 | ⟨h1, h2⟩)
        · rw [h1]; exact ⟨.inl rfl, hm⟩
        · exact ⟨.inr h1, h2⟩
      · rintro ⟨h1 | h1, h2⟩
        · exact .inl h1
        · exact .inr ⟨h1, h2⟩

theorem readsA_traced {ops : Array Oper} {x0 : X} {K : Res → Option α} {q : α} : ∀ (A : List Nat) (R : Res), Uniq R → (∀ k ∈ dstsR R, look x0.env k = none) → (∀ k ∈ dstsA nt ops A, look x0.env k = none) → Traced c nt Δ ops x0 R →
    readsA c nt Δ ops x0 A R K = some q → ∃ R', K R' = some q ∧ Uniq R' ∧ Traced c nt Δ ops x0 R' ∧ (∀ e ∈ R', e ∈ R ∨ e.1 ∈ A) ∧ (∀ e ∈ R, e ∈ R') ∧ (∀ i ∈ A, ∃ e ∈ R', e.1 = i)
  | [], R, hu, h0, h0', ht, he => ⟨R, he, hu, ht, fun e he => .inl he, fun e he => he, fun i hi => by simp at hi⟩
  | i :: is, R, hu, h0, h0', ht, he => by
    unfold readsA at he
    split at he
    rotate_left
    · cases he
    rename_i o ho
    have hdst : dstsA nt ops (i :: is) = app (dstsO nt [o]) (dstsA nt ops is) := by simp only [dstsA, ho]
    rw [hdst, app_eq] at h0'
    obtain ⟨R1, g1, g2, g3, g4, g5, g6⟩ := reads_traced [o] i R (fun n o' e => by
      cases n with
      | zero =>
        simp only [List.getElem?_cons_zero, Option.some.injEq] at e
        subst e
        rw [Nat.add_zero, ← Array.getElem?_toList, ← nth_eq]; exact ho
      | succ n => simp at e) hu h0 (fun k hk => h0' k (List.mem_append.2 (.inl hk))) ht he
    obtain ⟨R', m1, m2, m3, m4, m5, m6⟩ := readsA_traced is R1 g2 (fun k hk => by
      obtain ⟨e, e1, rfl⟩ := mem_dstsR.1 hk
      rcases g4 e e1 with g | g
      · exact h0 _ (mem_dstsR.2 ⟨e, g, rfl⟩)
      · exact h0' _ (List.mem_append.2 (.inl g.2.2))) (fun k hk => h0' k (List.mem_append.2 (.inr hk))) g3 g1
    refine ⟨R', m1, m2, m3, fun e he => ?_, fun e he => m5 e (g5 e he), fun i' hi' => ?_⟩
    · rcases m4 e he with g | g
      · rcases g4 e g with g | g
        · exact .inl g
        · exact .inr (by
            have h1 := g.1; have h2 := g.2.1
            simp only [List.length_cons, List.length_nil] at h2
            rw [show e.1 = i by omega]; exact List.mem_cons_self)
      · exact .inr (List.mem_cons_of_mem _ g)
    · rcases List.mem_cons.1 hi' with e | e
      · subst e
        obtain ⟨e, e1, e2⟩ := g6 i' (Nat.le_refl _) (by simp)
        exact ⟨e, m5 e e1, e2⟩
      · exact m6 i' e

/-- First what is drawn, then the rest, in which what floats may come up. -/
theorem any_float {P : Program} {ops : Array Oper} {Q : Exit → Act → World → Prop} {A fl : List Nat} {I : Array Bool → Act → World → Prop} (hmo : ∀ k ∈ A, k < ops.size) (hdep : ∀ j k, k ∈ deps ops j → k < j)
    (hseq : ∀ j, j ∉ A → j < ops.size → ∀ k ∈ A, k ∉ fl → ∃ n, before ops n j k = true)
    (hI : ∀ listed a w i, I listed a w → Closed ops listed → i ∈ Region.ready .any ops listed → i ∈ A → wpOp P ops Q i (fun a' w' => I (listed.setIfInBounds i true) a' w') a w)
    (hJ : ∀ n listed a w, I listed a w → Closed ops listed → listed.size = ops.size → (∀ j ∈ A, j ∉ fl → listed.getD j false = true) → (∀ j, j ∉ A → listed.getD j false = false) → unl ops.size listed ≤ n → wpAny P .any ops Q n listed a w) :
    ∀ (n : Nat) (listed : Array Bool) (a : Act) (w : World), Closed ops listed → (∀ j, j ∉ A → listed.getD j false = false) → listed.size = ops.size → unl ops.size listed ≤ n → I listed a w → wpAny P .any ops Q n listed a w := by
  intro n
  induction n with
  | zero =>
    intro listed a w hc h2 hs hn hi
    have hall := unl_zero (l := listed) (k := ops.size) (by omega)
    exact hJ 0 listed a w hi hc hs (fun j hj _ => hall j (hmo j hj)) h2 hn
  | succ n ih =>
    intro listed a w hc h2 hs hn hi
    by_cases hall : ∀ j ∈ A, j ∉ fl → listed.getD j false = true
    · exact hJ (n + 1) listed a w hi hc hs hall h2 hn
    · have hex : ∃ j, j ∈ A ∧ j ∉ fl ∧ listed.getD j false = false := by
        refine Classical.byContradiction fun hno => hall fun j hj hf => ?_
        cases e : listed.getD j false with
        | true => rfl
        | false => exact absurd ⟨j, hj, hf, e⟩ hno
      obtain ⟨j1, hj1, hf1, hu1⟩ := hex
      have hmin : ∃ j, j ≤ j1 ∧ listed.getD j false = false ∧ ∀ k, k < j → listed.getD k false = true := by
        have key : ∀ b, b ≤ j1 → (∀ k, k < b → listed.getD k false = true) ∨ ∃ j, j < b ∧ listed.getD j false = false ∧ ∀ k, k < j → listed.getD k false = true := by
          intro b
          induction b with
          | zero => exact fun _ => .inl (fun k hk => by omega)
          | succ b ihb =>
            intro hb
            rcases ihb (by omega) with h | ⟨j, hj, h⟩
            · cases hbb : listed.getD b false with
              | true => exact .inl (fun k hk => by
                  by_cases e : k = b
                  · subst e; exact hbb
                  · exact h k (by omega))
              | false => exact .inr ⟨b, by omega, hbb, h⟩
            · exact .inr ⟨j, by omega, h⟩
        rcases key j1 (Nat.le_refl _) with h | ⟨j, hj, h⟩
        · exact ⟨j1, Nat.le_refl _, hu1, h⟩
        · exact ⟨j, by omega, h⟩
      obtain ⟨j0, hj0, hu0, hlt0⟩ := hmin
      have hj1s := hmo j1 hj1
      have hr0 := ready_of (j := j0) hs (by omega) hu0 (fun k hk => hlt0 k (hdep j0 k hk))
      refine ⟨fun hr => (by rw [hr] at hr0; cases hr0), fun i hii => ?_⟩
      obtain ⟨g1, g2⟩ := ready_un hs hii
      have him : i ∈ A := by
        refine Classical.byContradiction fun hge => ?_
        obtain ⟨k, hk⟩ := hseq i hge g1 j1 hj1 hf1
        have := before_listed k hc (ready_deps hii) hk
        rw [hu1] at this; cases this
      refine wpOp_mono (fun a' w' hi' => ih _ a' w' (hc.set hii) (fun j hj => ?_) (by simpa using hs) ?_ hi') (hI listed a w i hi hc hii him)
      · rw [getD_set_ne false (fun e => hj (by rw [← e]; exact him))]; exact h2 j hj
      · have := unl_set (l := listed) (i := i) (by omega) g2 ops.size
        rw [if_pos g1] at this
        omega

theorem drawT_sound (hΔ : Known c.P c.G Δ) {B : Base} (hG : Fit B c) (hnt : B.nt = nt) {id : Nat} {ops : Array Oper} {A fl : List Nat} {Q : Exit → Act → World → Prop} {K : X → Option α} {q : α}
    (hK : ∀ x s a w, RelW B s x a w → K x = some q → Q .normal a w) {x : X} {s : Sit} {a : Act} {w : World} (h : RelW B s x a w) (he : drawTK c nt Δ ops A fl x K = some q) : (Code.region id ops true).wp c.P Q a w := by
  unfold drawTK at he
  split at he
  rotate_left
  · cases he
  rename_i hok
  simp only [drawTOk, Bool.and_eq_true] at hok
  obtain ⟨o1, of, o2, o3⟩ := hok
  have o1 : ∀ k ∈ A, k < ops.size := fun k hk => by simpa [Nat.blt_eq] using (allB_iff _ _).1 o1 k hk
  obtain ⟨x0, e0, he2⟩ := Option.bind_eq_some_iff.mp he
  obtain ⟨s0, d1, d2, -, -, -, -, d7⟩ := dropAll_sound _ h e0
  obtain ⟨R, r1, hu, r2, r3, -, r4⟩ := readsA_traced A [] (fun e he => by simp at he) (fun k hk => by simp [dstsR] at hk) (fun k hk => (d7 k hk).1) (fun i k d row hm => by simp at hm) he2
  have r3 : ∀ e ∈ R, e.1 ∈ A := fun e he => by
    rcases r3 e he with g | g
    · simp at g
    · exact g
  split at r1
  rotate_left
  · cases r1
  rename_i b2
  have h0 : ∀ k ∈ dstsR R, look x0.env k = none ∧ look x0.roots k = none ∧ lockOk x0 k [] = true ∧ (k, []) ∈ x0.dirt := fun k hk => d7 k ((mem_iff _ _).1 ((allB_iff _ _).1 b2 k hk))
  have hf : RelW B s0 x0 a { w with drawn := w.drawn + 1 } := d1.world (w' := { w with drawn := w.drawn + 1 }) (fun _ _ => rfl) (Nat.le_refl _) rfl rfl rfl
  have hdep : ∀ j k, k ∈ deps ops j → k < j := by
    intro j k hk
    by_cases hjs : j < ops.size
    · have := (allB_iff _ _).1 ((allB_iff _ _).1 o2 j (rangeFrom_mem (Nat.zero_le _) (by omega))) k hk
      simpa [Nat.blt_eq] using this
    · obtain ⟨o, ho, _⟩ := deps_mem.1 hk
      exact absurd (Array.getElem?_eq_some_iff.mp ho).1 hjs
  have hflm : ∀ k ∈ fl, k ∈ A := fun k hk => (mem_iff _ _).1 ((allB_iff _ _).1 of k hk)
  refine wp_region_any c.mix ?_
  refine any_float (A := A) (fl := fl) (I := fun listed a1 w1 => listed.size = ops.size ∧ ∃ s1, RelW B s1 (withR x0 (fun j => listed.getD j false) R) a1 w1) o1 hdep (fun j hj hjs k hk hkf => ?_) (fun listed a1 w1 i hi hc hr him => ?_)
    (fun n listed a1 w1 hi hc hs hnf hun hn => ?_) ops.size _ a _ ?_ ?_ (by simp) ?_ ⟨by simp, s0, ?_⟩
  · have := (allB_iff _ _).1 o3 j (rangeFrom_mem (Nat.zero_le _) (by omega))
    split at this
    · rename_i hm; exact absurd ((mem_iff _ _).1 hm) hj
    · have := (allB_iff _ _).1 this k hk
      split at this
      · rename_i hm; exact absurd ((mem_iff _ _).1 hm) hkf
      · exact ⟨_, this⟩
  · obtain ⟨⟨i', k, d, row⟩, m1, m2⟩ := r4 i him
    simp only at m2
    subst m2
    have hin : i' < listed.size := by rw [hi.1]; exact o1 _ him
    exact draw_step hΔ hG hnt hu h0 r2 hc m1 hr hin hi.2 (fun a' w' hr' => ⟨by simpa using hi.1, hr'⟩)
  · obtain ⟨-, s1, hi2⟩ := hi
    let S := filtB (fun k => !(listed.getD k false)) fl
    have hSm : ∀ j, j ∈ S ↔ j ∈ fl ∧ listed.getD j false = false := by
      intro j
      have : j ∈ S ↔ j ∈ fl ∧ (!(listed.getD j false)) = true := mem_filtB
      rw [this]
      simp
    have hS : ∀ j ∈ A, (j ∈ S ↔ listed.getD j false = false) := by
      intro j hj
      rw [hSm]
      refine ⟨fun h => h.2, fun h => ⟨?_, h⟩⟩
      refine Classical.byContradiction fun hno => ?_
      rw [hnf j hj hno] at h; cases h
    have hup : upOk ops A S = true := by
      refine (allB_iff _ _).2 fun j hj => ?_
      cases e : mem S j with
      | true => rfl
      | false =>
        refine (allB_iff _ _).2 fun k hk => ?_
        cases e2 : mem S k with
        | false => rfl
        | true =>
          have hlj : listed.getD j false = true := by
            cases e3 : listed.getD j false with
            | true => rfl
            | false => rw [(mem_iff _ _).2 ((hS j hj).2 e3)] at e; cases e
          have := hc j hlj k hk
          rw [((hSm k).1 ((mem_iff _ _).1 e2)).2] at this; cases this
    have hin : S ∈ filtB (upOk ops A) (subs fl) := mem_filtB.2 ⟨filt_subs _ _, hup⟩
    have hk1 := sameL_some r1 S hin
    have hsame : withR x0 (fun i => !(mem S i)) R = withR x0 (fun j => listed.getD j false) R := by
      refine withR_same fun e he => ?_
      have hem := r3 e he
      cases e4 : listed.getD e.1 false with
      | false => rw [(mem_iff _ _).2 ((hS _ hem).2 e4)]; rfl
      | true =>
        cases e5 : mem S e.1 with
        | false => rfl
        | true => rw [((hSm _).1 ((mem_iff _ _).1 e5)).2] at e4; cases e4
    rw [hsame] at hk1
    refine anyK_sound hΔ hG hnt hdep hK ops.size _ _ s1 a1 w1 listed n hi2 hs (fun j hj => ?_) (fun j hj => ?_) hn hk1
    · rw [app_eq, List.mem_append, mem_restA, rangeFrom_iff]
      by_cases hjm : j ∈ A
      · rw [hS j hjm]
        constructor
        · rintro (h | h)
          · exact h
          · exact absurd hjm h.2
        · exact .inl
      · constructor
        · intro _; exact hun j hjm
        · intro _; exact .inr ⟨by omega, hjm⟩
    · rw [app_eq, List.mem_append, mem_restA, rangeFrom_iff] at hj
      rcases hj with hj | hj
      · exact o1 _ (hflm j ((hSm j).1 hj).1)
      · omega
  · intro j hj
    simp only [Array.getD_eq_getD_getElem?, Array.getElem?_replicate] at hj
    split at hj <;> simp at hj
  · intro j hj
    simp only [Array.getD_eq_getD_getElem?, Array.getElem?_replicate]
    split <;> simp
  · have := unl_split (m := 0) (l := Array.replicate ops.size false) (fun j hj => by omega) (fun j _ => by
      simp only [Array.getD_eq_getD_getElem?, Array.getElem?_replicate]
      split <;> simp) ops.size
    omega
  · have hfalse : ∀ i, (Array.replicate ops.size false).getD i false = false := by
      intro i
      simp only [Array.getD_eq_getD_getElem?, Array.getElem?_replicate]
      split <;> simp
    refine hf.same (E := (withR x0 (fun j => (Array.replicate ops.size false).getD j false) R).env) (Rt := (withR x0 (fun j => (Array.replicate ops.size false).getD j false) R).roots) (fun k d hd => ?_) (fun r => ?_)
    · simp only [withR, look_app] at hd
      rw [look_none (l := selE _ R) (fun d1 hd1 => by
        obtain ⟨i, row, m1, m2⟩ := (selE_iff hu).1 hd1
        simp only [hfalse] at m2; cases m2)] at hd
      exact hd
    · simp only [withR, look_app]
      rw [look_none (l := selR _ R) (fun d1 hd1 => by
        obtain ⟨i, d, m1, m2⟩ := (selR_iff hu).1 hd1
        simp only [hfalse] at m2; cases m2)]

end
end Go.V
