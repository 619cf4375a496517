/- A library of typed data in memory: Drawn regions in which some readings may come up between the last operations: whatever order, the same is computed. Drawn regions whose first operations only compute. What slices.Delete and slices.Insert come to. A function that deletes, as one that takes a slice in and hands one back. What slices.Insert comes to: the steps in memory. A function that inserts, as one that takes a slice in and hands one back. A function that inserts is sound. For walks through functions that delete and insert. No conditions. -/
import Derived.Test.YtlfcemfcgmidlaaDoorLibH
import Derived.Test.YtlfcemfcgmidlaaDoorLibE
import Derived.Test.YtlfcemfcgmidlaaDoorLibG
import Derived.Laws.Externs
/-! Drawn regions in which some readings may come up between the last operations: whatever order, the same is computed. -/
namespace Go.V
open Go.RowKit
variable {α : Type}
open Classical in
/-- Both, if they are one. -/
noncomputable def sameR (a b : Option α) : Option α := if a = b then a else none
theorem sameR_self (a : Option α) : sameR a a = a := by unfold sameR; rw [if_pos rfl]
/-- So many orders that come to the same. -/
noncomputable def sameN {α : Type} : Nat → Option α → Option α
  | 0, x => x
  | n + 1, x => sameR x (sameN n x)
theorem sameN_self {α : Type} (x : Option α) : ∀ n, sameN n x = x
  | 0 => rfl
  | n + 1 => by rw [sameN, sameN_self x n, sameR_self]
theorem sameR_some {a b : Option α} {q : α} (h : sameR a b = some q) : a = some q ∧ b = some q := by
  unfold sameR at h
  split at h
  · rename_i e; exact ⟨h, by rw [← e]; exact h⟩
  · cases h
/-- For each of the list, if all are one. -/
noncomputable def sameL {β : Type} (f : β → Option α) : List β → Option α
  | [] => none
  | b :: l => match l with
    | [] => f b
    | _ :: _ => sameR (f b) (sameL f l)
theorem sameL_some {β : Type} {f : β → Option α} {q : α} : ∀ {l : List β}, sameL f l = some q → ∀ b ∈ l, f b = some q
  | [], h, b, hb => by simp at hb
  | [b0], h, b, hb => by simp only [List.mem_singleton] at hb; subst hb; exact h
  | b0 :: b1 :: l, h, b, hb => by
    unfold sameL at h
    obtain ⟨h1, h2⟩ := sameR_some h
    rcases List.mem_cons.1 hb with e | hb
    · subst e; exact h1
    · exact sameL_some h2 b hb
def delN (i : Nat) : List Nat → List Nat
  | [] => []
  | j :: l => match Nat.beq j i with
    | true => delN i l
    | false => j :: delN i l
theorem mem_delN {i j : Nat} {l : List Nat} : j ∈ delN i l ↔ j ∈ l ∧ j ≠ i := by
  induction l with
  | nil => simp [delN]
  | cons a l ih =>
    unfold delN
    cases h : Nat.beq a i with
    | true =>
      have := Nat.eq_of_beq_eq_true h
      subst this
      simp only [ih, List.mem_cons]
      constructor
      · rintro ⟨h1, h2⟩; exact ⟨.inr h1, h2⟩
      · rintro ⟨h1 | h1, h2⟩
        · exact absurd h1 h2
        · exact ⟨h1, h2⟩
    | false =>
      have := Nat.ne_of_beq_eq_false h
      simp only [ih, List.mem_cons]
      constructor
      · rintro (h1 | ⟨h1, h2⟩)
        · exact ⟨.inl h1, by rw [h1]; exact this⟩
        · exact ⟨.inr h1, h2⟩
      · rintro ⟨h1 | h1, h2⟩
        · exact .inl h1
        · exact .inr ⟨h1, h2⟩
def filtB {β : Type} (f : β → Bool) : List β → List β
  | [] => []
  | j :: l => match f j with
    | true => j :: filtB f l
    | false => filtB f l
theorem mem_filtB {β : Type} {f : β → Bool} {j : β} {l : List β} : j ∈ filtB f l ↔ j ∈ l ∧ f j = true := by
  induction l with
  | nil => simp [filtB]
  | cons a l ih =>
    unfold filtB
    cases h : f a with
    | true =>
      simp only [List.mem_cons, ih]
      constructor
      · rintro (h1 | ⟨h1, h2⟩)
        · exact ⟨.inl h1, by rw [h1]; exact h⟩
        · exact ⟨.inr h1, h2⟩
      · rintro ⟨h1 | h1, h2⟩
        · exact .inl h1
        · exact .inr ⟨h1, h2⟩
    | false =>
      simp only [ih, List.mem_cons]
      constructor
      · rintro ⟨h1, h2⟩; exact ⟨.inr h1, h2⟩
      · rintro ⟨h1 | h1, h2⟩
        · rw [h1, h] at h2; cases h2
        · exact ⟨h1, h2⟩
def readyL (ops : Array Oper) (pend : List Nat) : List Nat := filtB (fun i => allB (fun k => !(mem pend k)) (deps ops i)) pend
/-- The operations left, in each order that may be. -/
noncomputable def anyK (cx : Ctx) (nt : Fr) (Δ : List (Nat × Fn)) (ops : Array Oper) : Nat → List Nat → X → (X → Option α) → Option α
  | 0, pend, x, K => match pend with
    | [] => K x
    | _ :: _ => none
  | n + 1, pend, x, K => match pend with
    | [] => K x
    | _ :: _ => sameL (fun i => match nth ops.toList i with
      | some o => opsK cx nt Δ ops.toList [o] x fun x' => anyK cx nt Δ ops n (delN i pend) x' K
      | none => none) (readyL ops pend)
def subs : List Nat → List (List Nat)
  | [] => [[]]
  | i :: l => app (subs l) (mapS' (fun s => i :: s) (subs l))
where
  mapS' (f : List Nat → List Nat) : List (List Nat) → List (List Nat)
  | [] => []
  | s :: l => f s :: mapS' f l
/-- What may be left: with each, all that waits for it. -/
def upOk (ops : Array Oper) (A : List Nat) (S : List Nat) : Bool := allB (fun j => match mem S j with | true => true | false => allB (fun k => !(mem S k)) (deps ops j)) A
def drawTOk (ops : Array Oper) (A fl : List Nat) : Bool :=
  and (allB (fun k => Nat.blt k ops.size) A) (and (allB (fun k => mem A k) fl) (and (allB (fun j => allB (fun k => Nat.blt k j) (deps ops j)) (rangeFrom 0 ops.size))
    (allB (fun j => match mem A j with | true => true | false => allB (fun k => match mem fl k with | true => true | false => before ops ops.size j k) A) (rangeFrom 0 ops.size))))
/-- The first ones, one by one. -/
def readsA (cx : Ctx) (nt : Fr) (Δ : List (Nat × Fn)) (ops : Array Oper) (x0 : X) : List Nat → Res → (Res → Option α) → Option α
  | [], R, K => K R
  | i :: is, R, K => match nth ops.toList i with
    | some o => readsK cx nt Δ ops x0 i [o] R fun R' => readsA cx nt Δ ops x0 is R' K
    | none => none
def dstsA (nt : Fr) (ops : Array Oper) : List Nat → List Nat
  | [] => []
  | i :: is => match nth ops.toList i with
    | some o => app (dstsO nt [o]) (dstsA nt ops is)
    | none => dstsA nt ops is
def restA (A : List Nat) : List Nat → List Nat
  | [] => []
  | j :: l => match mem A j with
    | true => restA A l
    | false => j :: restA A l
noncomputable def drawTK (cx : Ctx) (nt : Fr) (Δ : List (Nat × Fn)) (ops : Array Oper) (A fl : List Nat) (x : X) (K : X → Option α) : Option α := match drawTOk ops A fl with
  | true => (dropAll (dstsA nt ops A) x).bind fun x0 => readsA cx nt Δ ops x0 A [] fun R =>
      match allB (fun k => mem (dstsA nt ops A) k) (dstsR R) with
      | true => sameL (fun S => anyK cx nt Δ ops ops.size (app S (restA A (rangeFrom 0 ops.size))) (withR x0 (fun i => !(mem S i)) R) K) (filtB (upOk ops A) (subs fl))
      | false => none
  | false => none
theorem filt_subs (f : Nat → Bool) : ∀ fl : List Nat, filtB f fl ∈ subs fl
  | [] => by simp [filtB, subs]
  | i :: l => by
    have ih := filt_subs f l
    have hmap : ∀ (L : List (List Nat)) s, s ∈ L → (i :: s) ∈ subs.mapS' (fun s => i :: s) L := by
      intro L s hs
      induction L with
      | nil => simp at hs
      | cons a L ihL =>
        unfold subs.mapS'
        rcases List.mem_cons.1 hs with e | e
        · subst e; exact List.mem_cons_self
        · exact List.mem_cons_of_mem _ (ihL e)
    unfold filtB subs
    rw [app_eq]
    cases f i with
    | true => exact List.mem_append.2 (.inr (hmap _ _ ih))
    | false => exact List.mem_append.2 (.inl ih)
theorem rangeFrom_iff {a n j : Nat} : j ∈ rangeFrom a n ↔ a ≤ j ∧ j < a + n := by
  induction n generalizing a with
  | zero => simp [rangeFrom]
  | succ n ih => simp only [rangeFrom, List.mem_cons, ih]; omega
theorem selE_same {A A' : Nat → Bool} : ∀ {R : Res}, (∀ e ∈ R, A e.1 = A' e.1) → selE A R = selE A' R
  | [], _ => rfl
  | e :: R, h => by
    have ih := selE_same (R := R) (fun e he => h e (List.mem_cons_of_mem _ he))
    unfold selE
    rw [h e List.mem_cons_self, ih]
theorem selR_same {A A' : Nat → Bool} : ∀ {R : Res}, (∀ e ∈ R, A e.1 = A' e.1) → selR A R = selR A' R
  | [], _ => rfl
  | e :: R, h => by
    have ih := selR_same (R := R) (fun e he => h e (List.mem_cons_of_mem _ he))
    unfold selR
    rw [h e List.mem_cons_self, ih]
theorem withR_same {x : X} {A A' : Nat → Bool} {R : Res} (h : ∀ e ∈ R, A e.1 = A' e.1) : withR x A R = withR x A' R := by
  unfold withR
  rw [selE_same h, selR_same h]
section
variable {c : Ctx} {nt : Fr} {Δ : List (Nat × Fn)}
theorem anyK_sound (hΔ : Known c.P c.G Δ) {B : Base} (hG : Fit B c) (hnt : B.nt = nt) {ops : Array Oper} (hdep : ∀ j k, k ∈ deps ops j → k < j) {Q : Exit → Act → World → Prop} {K : X → Option α} {q : α}
    (hK : ∀ x s a w, RelW B s x a w → K x = some q → Q .normal a w) : ∀ (n : Nat) (pend : List Nat) (x : X) (s : Sit) (a : Act) (w : World) (listed : Array Bool) (n' : Nat), RelW B s x a w → listed.size = ops.size →
      (∀ j, j < ops.size → (j ∈ pend ↔ listed.getD j false = false)) → (∀ j ∈ pend, j < ops.size) → unl ops.size listed ≤ n' → anyK c nt Δ ops n pend x K = some q → wpAny c.P .any ops Q n' listed a w := by
  have fin : ∀ (x : X) (s : Sit) (a : Act) (w : World) (listed : Array Bool) (n' : Nat), RelW B s x a w → listed.size = ops.size → (∀ j, j < ops.size → listed.getD j false = true) → K x = some q → wpAny c.P .any ops Q n' listed a w := by
    intro x s a w listed n' h hs hall he
    have hr : Region.ready .any ops listed = [] := by
      cases hr : Region.ready .any ops listed with
      | nil => rfl
      | cons i l =>
        obtain ⟨g1, g2⟩ := ready_un hs (by rw [hr]; exact List.mem_cons_self : i ∈ Region.ready .any ops listed)
        rw [hall i g1] at g2; cases g2
    cases n' with
    | zero => exact ⟨hr, hK _ _ _ _ h he⟩
    | succ n' => exact ⟨fun _ => hK _ _ _ _ h he, fun i hi => by rw [hr] at hi; simp at hi⟩
  intro n
  induction n with
  | zero =>
    intro pend x s a w listed n' h hs hp hlt hn he
    unfold anyK at he
    cases pend with
    | nil => exact fin x s a w listed n' h hs (fun j hj => by
        cases e : listed.getD j false with
        | true => rfl
        | false => exact absurd ((hp j hj).2 e) (by simp)) he
    | cons => cases he
  | succ n ih =>
    intro pend x s a w listed n' h hs hp hlt hn he
    unfold anyK at he
    cases pend with
    | nil => exact fin x s a w listed n' h hs (fun j hj => by
        cases e : listed.getD j false with
        | true => rfl
        | false => exact absurd ((hp j hj).2 e) (by simp)) he
    | cons j0 pl =>
      generalize hpe : j0 :: pl = pend at *
      have hj0 : j0 ∈ pend := by rw [← hpe]; exact List.mem_cons_self
      have he : sameL (fun i => match nth ops.toList i with
        | some o => opsK c nt Δ ops.toList [o] x fun x' => anyK c nt Δ ops n (delN i pend) x' K
        | none => none) (readyL ops pend) = some q := by rw [← hpe] at he ⊢; exact he
      have hready : ∀ i, i ∈ Region.ready .any ops listed → i ∈ readyL ops pend := by
        intro i hi
        obtain ⟨g1, g2⟩ := ready_un hs hi
        refine mem_filtB.2 ⟨(hp i g1).2 g2, (allB_iff _ _).2 fun k hk => ?_⟩
        have hkl := ready_deps hi k hk
        cases hm : mem pend k with
        | false => rfl
        | true =>
          have hkm := (mem_iff _ _).1 hm
          rw [(hp k (hlt k hkm)).1 hkm] at hkl; cases hkl
      have hne : ∃ i l, readyL ops pend = i :: l := by
        cases e : readyL ops pend with
        | nil => rw [e] at he; cases he
        | cons i l => exact ⟨i, l, rfl⟩
      obtain ⟨i0, l0, hi0⟩ := hne
      have hi0m : i0 ∈ readyL ops pend := by rw [hi0]; exact List.mem_cons_self
      obtain ⟨hi0p, hi0d⟩ := mem_filtB.1 hi0m
      have hreal : i0 ∈ Region.ready .any ops listed := by
        refine ready_of hs (hlt _ hi0p) ((hp _ (hlt _ hi0p)).1 hi0p) (fun k hk => ?_)
        have h1 := (allB_iff _ _).1 hi0d k hk
        cases e : listed.getD k false with
        | true => rfl
        | false =>
          have h2 := (mem_iff _ _).2 ((hp k (Nat.lt_trans (hdep _ _ hk) (hlt _ hi0p))).2 e)
          rw [h2] at h1; cases h1
      have hstep : ∀ n1, unl ops.size listed ≤ n1 + 1 → ∀ i ∈ Region.ready .any ops listed, wpOp c.P ops Q i (wpAny c.P .any ops Q n1 (listed.setIfInBounds i true)) a w := by
        intro n1 hn1 i hi
        obtain ⟨g1, g2⟩ := ready_un hs hi
        have hb := sameL_some he i (hready i hi)
        rw [nth_eq, Array.getElem?_toList, Array.getElem?_eq_getElem g1] at hb
        simp only at hb
        unfold wpOp
        rw [Array.getElem?_eq_getElem g1]
        have hst := ops_step hΔ hG hnt (Q := Q) h hb (K' := wpAny c.P .any ops Q n1 (listed.setIfInBounds i true)) (fun x' s' a' w' k1 k2 => by
          simp only [opsK] at k1
          refine ih (delN i pend) x' s' a' w' (listed.setIfInBounds i true) n1 k2 (by simpa using hs) (fun j hj => ?_) (fun j hj => hlt j (mem_delN.1 hj).1) ?_ k1
          · rw [mem_delN]
            by_cases e : j = i
            · subst e
              constructor
              · rintro ⟨-, h2⟩; exact absurd rfl h2
              · intro h2
                have : (listed.setIfInBounds j true).getD j false = true := by simp [show j < listed.size by omega]
                rw [this] at h2; cases h2
            · rw [getD_set_ne false (fun e' => e e'.symm), ← hp j hj]
              exact ⟨fun h2 => h2.1, fun h2 => ⟨h2, e⟩⟩
          · have := unl_set (l := listed) (i := i) (by omega) g2 ops.size
            rw [if_pos g1] at this
            omega)
        split at hst
        · rename_i hwt; simp only [hwt, if_true]; exact .inl hst
        · rename_i hwt; simp only [hwt]; exact hst
      cases n' with
      | zero =>
        have hall := unl_zero (l := listed) (k := ops.size) (by omega)
        obtain ⟨g1, g2⟩ := ready_un hs hreal
        rw [hall _ g1] at g2; cases g2
      | succ n1 =>
        exact ⟨fun hr => by rw [hr] at hreal; simp at hreal, hstep n1 hn⟩
theorem mem_restA {A : List Nat} {l : List Nat} {j : Nat} : j ∈ restA A l ↔ j ∈ l ∧ j ∉ A := by
  induction l with
  | nil => simp [restA]
  | cons a l ih =>
    unfold restA
    split
    · rename_i hm
      have hm := (mem_iff _ _).1 hm
      rw [ih, List.mem_cons]
      constructor
      · rintro ⟨h1, h2⟩; exact ⟨.inr h1, h2⟩
      · rintro ⟨h1 | h1, h2⟩
        · rw [h1] at h2; exact absurd hm h2
        · exact ⟨h1, h2⟩
    · rename_i hm
      have hm : a ∉ A := fun e => by rw [(mem_iff _ _).2 e] at hm; cases hm
      rw [List.mem_cons, ih, List.mem_cons]
      constructor
      · rintro (h1 | ⟨h1, h2⟩)
        · rw [h1]; exact ⟨.inl rfl, hm⟩
        · exact ⟨.inr h1, h2⟩
      · rintro ⟨h1 | h1, h2⟩
        · exact .inl h1
        · exact .inr ⟨h1, h2⟩
theorem readsA_traced {ops : Array Oper} {x0 : X} {K : Res → Option α} {q : α} : ∀ (A : List Nat) (R : Res), Uniq R → (∀ k ∈ dstsR R, look x0.env k = none) → (∀ k ∈ dstsA nt ops A, look x0.env k = none) → Traced c nt Δ ops x0 R →
    readsA c nt Δ ops x0 A R K = some q → ∃ R', K R' = some q ∧ Uniq R' ∧ Traced c nt Δ ops x0 R' ∧ (∀ e ∈ R', e ∈ R ∨ e.1 ∈ A) ∧ (∀ e ∈ R, e ∈ R') ∧ (∀ i ∈ A, ∃ e ∈ R', e.1 = i)
  | [], R, hu, h0, h0', ht, he => ⟨R, he, hu, ht, fun e he => .inl he, fun e he => he, fun i hi => by simp at hi⟩
  | i :: is, R, hu, h0, h0', ht, he => by
    unfold readsA at he
    split at he
    rotate_left
    · cases he
    rename_i o ho
    have hdst : dstsA nt ops (i :: is) = app (dstsO nt [o]) (dstsA nt ops is) := by simp only [dstsA, ho]
    rw [hdst, app_eq] at h0'
    obtain ⟨R1, g1, g2, g3, g4, g5, g6⟩ := reads_traced [o] i R (fun n o' e => by
      cases n with
      | zero =>
        simp only [List.getElem?_cons_zero, Option.some.injEq] at e
        subst e
        rw [Nat.add_zero, ← Array.getElem?_toList, ← nth_eq]; exact ho
      | succ n => simp at e) hu h0 (fun k hk => h0' k (List.mem_append.2 (.inl hk))) ht he
    obtain ⟨R', m1, m2, m3, m4, m5, m6⟩ := readsA_traced is R1 g2 (fun k hk => by
      obtain ⟨e, e1, rfl⟩ := mem_dstsR.1 hk
      rcases g4 e e1 with g | g
      · exact h0 _ (mem_dstsR.2 ⟨e, g, rfl⟩)
      · exact h0' _ (List.mem_append.2 (.inl g.2.2))) (fun k hk => h0' k (List.mem_append.2 (.inr hk))) g3 g1
    refine ⟨R', m1, m2, m3, fun e he => ?_, fun e he => m5 e (g5 e he), fun i' hi' => ?_⟩
    · rcases m4 e he with g | g
      · rcases g4 e g with g | g
        · exact .inl g
        · exact .inr (by
            have h1 := g.1; have h2 := g.2.1
            simp only [List.length_cons, List.length_nil] at h2
            rw [show e.1 = i by omega]; exact List.mem_cons_self)
      · exact .inr (List.mem_cons_of_mem _ g)
    · rcases List.mem_cons.1 hi' with e | e
      · subst e
        obtain ⟨e, e1, e2⟩ := g6 i' (Nat.le_refl _) (by simp)
        exact ⟨e, m5 e e1, e2⟩
      · exact m6 i' e
/-- First what is drawn, then the rest, in which what floats may come up. -/
theorem any_float {P : Program} {ops : Array Oper} {Q : Exit → Act → World → Prop} {A fl : List Nat} {I : Array Bool → Act → World → Prop} (hmo : ∀ k ∈ A, k < ops.size) (hdep : ∀ j k, k ∈ deps ops j → k < j)
    (hseq : ∀ j, j ∉ A → j < ops.size → ∀ k ∈ A, k ∉ fl → ∃ n, before ops n j k = true)
    (hI : ∀ listed a w i, I listed a w → Closed ops listed → i ∈ Region.ready .any ops listed → i ∈ A → wpOp P ops Q i (fun a' w' => I (listed.setIfInBounds i true) a' w') a w)
    (hJ : ∀ n listed a w, I listed a w → Closed ops listed → listed.size = ops.size → (∀ j ∈ A, j ∉ fl → listed.getD j false = true) → (∀ j, j ∉ A → listed.getD j false = false) → unl ops.size listed ≤ n → wpAny P .any ops Q n listed a w) :
    ∀ (n : Nat) (listed : Array Bool) (a : Act) (w : World), Closed ops listed → (∀ j, j ∉ A → listed.getD j false = false) → listed.size = ops.size → unl ops.size listed ≤ n → I listed a w → wpAny P .any ops Q n listed a w := by
  intro n
  induction n with
  | zero =>
    intro listed a w hc h2 hs hn hi
    have hall := unl_zero (l := listed) (k := ops.size) (by omega)
    exact hJ 0 listed a w hi hc hs (fun j hj _ => hall j (hmo j hj)) h2 hn
  | succ n ih =>
    intro listed a w hc h2 hs hn hi
    by_cases hall : ∀ j ∈ A, j ∉ fl → listed.getD j false = true
    · exact hJ (n + 1) listed a w hi hc hs hall h2 hn
    · have hex : ∃ j, j ∈ A ∧ j ∉ fl ∧ listed.getD j false = false := by
        refine Classical.byContradiction fun hno => hall fun j hj hf => ?_
        cases e : listed.getD j false with
        | true => rfl
        | false => exact absurd ⟨j, hj, hf, e⟩ hno
      obtain ⟨j1, hj1, hf1, hu1⟩ := hex
      have hmin : ∃ j, j ≤ j1 ∧ listed.getD j false = false ∧ ∀ k, k < j → listed.getD k false = true := by
        have key : ∀ b, b ≤ j1 → (∀ k, k < b → listed.getD k false = true) ∨ ∃ j, j < b ∧ listed.getD j false = false ∧ ∀ k, k < j → listed.getD k false = true := by
          intro b
          induction b with
          | zero => exact fun _ => .inl (fun k hk => by omega)
          | succ b ihb =>
            intro hb
            rcases ihb (by omega) with h | ⟨j, hj, h⟩
            · cases hbb : listed.getD b false with
              | true => exact .inl (fun k hk => by
                  by_cases e : k = b
                  · subst e; exact hbb
                  · exact h k (by omega))
              | false => exact .inr ⟨b, by omega, hbb, h⟩
            · exact .inr ⟨j, by omega, h⟩
        rcases key j1 (Nat.le_refl _) with h | ⟨j, hj, h⟩
        · exact ⟨j1, Nat.le_refl _, hu1, h⟩
        · exact ⟨j, by omega, h⟩
      obtain ⟨j0, hj0, hu0, hlt0⟩ := hmin
      have hj1s := hmo j1 hj1
      have hr0 := ready_of (j := j0) hs (by omega) hu0 (fun k hk => hlt0 k (hdep j0 k hk))
      refine ⟨fun hr => (by rw [hr] at hr0; cases hr0), fun i hii => ?_⟩
      obtain ⟨g1, g2⟩ := ready_un hs hii
      have him : i ∈ A := by
        refine Classical.byContradiction fun hge => ?_
        obtain ⟨k, hk⟩ := hseq i hge g1 j1 hj1 hf1
        have := before_listed k hc (ready_deps hii) hk
        rw [hu1] at this; cases this
      refine wpOp_mono (fun a' w' hi' => ih _ a' w' (hc.set hii) (fun j hj => ?_) (by simpa using hs) ?_ hi') (hI listed a w i hi hc hii him)
      · rw [getD_set_ne false (fun e => hj (by rw [← e]; exact him))]; exact h2 j hj
      · have := unl_set (l := listed) (i := i) (by omega) g2 ops.size
        rw [if_pos g1] at this
        omega
theorem drawT_sound (hΔ : Known c.P c.G Δ) {B : Base} (hG : Fit B c) (hnt : B.nt = nt) {id : Nat} {ops : Array Oper} {A fl : List Nat} {Q : Exit → Act → World → Prop} {K : X → Option α} {q : α}
    (hK : ∀ x s a w, RelW B s x a w → K x = some q → Q .normal a w) {x : X} {s : Sit} {a : Act} {w : World} (h : RelW B s x a w) (he : drawTK c nt Δ ops A fl x K = some q) : (Code.region id ops true).wp c.P Q a w := by
  unfold drawTK at he
  split at he
  rotate_left
  · cases he
  rename_i hok
  simp only [drawTOk, Bool.and_eq_true] at hok
  obtain ⟨o1, of, o2, o3⟩ := hok
  have o1 : ∀ k ∈ A, k < ops.size := fun k hk => by simpa [Nat.blt_eq] using (allB_iff _ _).1 o1 k hk
  obtain ⟨x0, e0, he2⟩ := Option.bind_eq_some_iff.mp he
  obtain ⟨s0, d1, d2, -, -, -, -, d7⟩ := dropAll_sound _ h e0
  obtain ⟨R, r1, hu, r2, r3, -, r4⟩ := readsA_traced A [] (fun e he => by simp at he) (fun k hk => by simp [dstsR] at hk) (fun k hk => (d7 k hk).1) (fun i k d row hm => by simp at hm) he2
  have r3 : ∀ e ∈ R, e.1 ∈ A := fun e he => by
    rcases r3 e he with g | g
    · simp at g
    · exact g
  split at r1
  rotate_left
  · cases r1
  rename_i b2
  have h0 : ∀ k ∈ dstsR R, look x0.env k = none ∧ look x0.roots k = none ∧ lockOk x0 k [] = true ∧ (k, []) ∈ x0.dirt := fun k hk => d7 k ((mem_iff _ _).1 ((allB_iff _ _).1 b2 k hk))
  have hf : RelW B s0 x0 a { w with drawn := w.drawn + 1 } := d1.world (w' := { w with drawn := w.drawn + 1 }) (fun _ _ => rfl) (Nat.le_refl _) rfl rfl rfl
  have hdep : ∀ j k, k ∈ deps ops j → k < j := by
    intro j k hk
    by_cases hjs : j < ops.size
    · have := (allB_iff _ _).1 ((allB_iff _ _).1 o2 j (rangeFrom_mem (Nat.zero_le _) (by omega))) k hk
      simpa [Nat.blt_eq] using this
    · obtain ⟨o, ho, _⟩ := deps_mem.1 hk
      exact absurd (Array.getElem?_eq_some_iff.mp ho).1 hjs
  have hflm : ∀ k ∈ fl, k ∈ A := fun k hk => (mem_iff _ _).1 ((allB_iff _ _).1 of k hk)
  refine wp_region_any c.mix ?_
  refine any_float (A := A) (fl := fl) (I := fun listed a1 w1 => listed.size = ops.size ∧ ∃ s1, RelW B s1 (withR x0 (fun j => listed.getD j false) R) a1 w1) o1 hdep (fun j hj hjs k hk hkf => ?_) (fun listed a1 w1 i hi hc hr him => ?_)
    (fun n listed a1 w1 hi hc hs hnf hun hn => ?_) ops.size _ a _ ?_ ?_ (by simp) ?_ ⟨by simp, s0, ?_⟩
  · have := (allB_iff _ _).1 o3 j (rangeFrom_mem (Nat.zero_le _) (by omega))
    split at this
    · rename_i hm; exact absurd ((mem_iff _ _).1 hm) hj
    · have := (allB_iff _ _).1 this k hk
      split at this
      · rename_i hm; exact absurd ((mem_iff _ _).1 hm) hkf
      · exact ⟨_, this⟩
  · obtain ⟨⟨i', k, d, row⟩, m1, m2⟩ := r4 i him
    simp only at m2
    subst m2
    have hin : i' < listed.size := by rw [hi.1]; exact o1 _ him
    exact draw_step hΔ hG hnt hu h0 r2 hc m1 hr hin hi.2 (fun a' w' hr' => ⟨by simpa using hi.1, hr'⟩)
  · obtain ⟨-, s1, hi2⟩ := hi
    let S := filtB (fun k => !(listed.getD k false)) fl
    have hSm : ∀ j, j ∈ S ↔ j ∈ fl ∧ listed.getD j false = false := by
      intro j
      have : j ∈ S ↔ j ∈ fl ∧ (!(listed.getD j false)) = true := mem_filtB
      rw [this]
      simp
    have hS : ∀ j ∈ A, (j ∈ S ↔ listed.getD j false = false) := by
      intro j hj
      rw [hSm]
      refine ⟨fun h => h.2, fun h => ⟨?_, h⟩⟩
      refine Classical.byContradiction fun hno => ?_
      rw [hnf j hj hno] at h; cases h
    have hup : upOk ops A S = true := by
      refine (allB_iff _ _).2 fun j hj => ?_
      cases e : mem S j with
      | true => rfl
      | false =>
        refine (allB_iff _ _).2 fun k hk => ?_
        cases e2 : mem S k with
        | false => rfl
        | true =>
          have hlj : listed.getD j false = true := by
            cases e3 : listed.getD j false with
            | true => rfl
            | false => rw [(mem_iff _ _).2 ((hS j hj).2 e3)] at e; cases e
          have := hc j hlj k hk
          rw [((hSm k).1 ((mem_iff _ _).1 e2)).2] at this; cases this
    have hin : S ∈ filtB (upOk ops A) (subs fl) := mem_filtB.2 ⟨filt_subs _ _, hup⟩
    have hk1 := sameL_some r1 S hin
    have hsame : withR x0 (fun i => !(mem S i)) R = withR x0 (fun j => listed.getD j false) R := by
      refine withR_same fun e he => ?_
      have hem := r3 e he
      cases e4 : listed.getD e.1 false with
      | false => rw [(mem_iff _ _).2 ((hS _ hem).2 e4)]; rfl
      | true =>
        cases e5 : mem S e.1 with
        | false => rfl
        | true => rw [((hSm _).1 ((mem_iff _ _).1 e5)).2] at e4; cases e4
    rw [hsame] at hk1
    refine anyK_sound hΔ hG hnt hdep hK ops.size _ _ s1 a1 w1 listed n hi2 hs (fun j hj => ?_) (fun j hj => ?_) hn hk1
    · rw [app_eq, List.mem_append, mem_restA, rangeFrom_iff]
      by_cases hjm : j ∈ A
      · rw [hS j hjm]
        constructor
        · rintro (h | h)
          · exact h
          · exact absurd hjm h.2
        · exact .inl
      · constructor
        · intro _; exact hun j hjm
        · intro _; exact .inr ⟨by omega, hjm⟩
    · rw [app_eq, List.mem_append, mem_restA, rangeFrom_iff] at hj
      rcases hj with hj | hj
      · exact o1 _ (hflm j ((hSm j).1 hj).1)
      · omega
  · intro j hj
    simp only [Array.getD_eq_getD_getElem?, Array.getElem?_replicate] at hj
    split at hj <;> simp at hj
  · intro j hj
    simp only [Array.getD_eq_getD_getElem?, Array.getElem?_replicate]
    split <;> simp
  · have := unl_split (m := 0) (l := Array.replicate ops.size false) (fun j hj => by omega) (fun j _ => by
      simp only [Array.getD_eq_getD_getElem?, Array.getElem?_replicate]
      split <;> simp) ops.size
    omega
  · have hfalse : ∀ i, (Array.replicate ops.size false).getD i false = false := by
      intro i
      simp only [Array.getD_eq_getD_getElem?, Array.getElem?_replicate]
      split <;> simp
    refine hf.same (E := (withR x0 (fun j => (Array.replicate ops.size false).getD j false) R).env) (Rt := (withR x0 (fun j => (Array.replicate ops.size false).getD j false) R).roots) (fun k d hd => ?_) (fun r => ?_)
    · simp only [withR, look_app] at hd
      rw [look_none (l := selE _ R) (fun d1 hd1 => by
        obtain ⟨i, row, m1, m2⟩ := (selE_iff hu).1 hd1
        simp only [hfalse] at m2; cases m2)] at hd
      exact hd
    · simp only [withR, look_app]
      rw [look_none (l := selR _ R) (fun d1 hd1 => by
        obtain ⟨i, d, m1, m2⟩ := (selR_iff hu).1 hd1
        simp only [hfalse] at m2; cases m2)]
end
end Go.V
/-! Drawn regions whose first operations only compute. -/
namespace Go.V
open Go.RowKit
section
variable {P : Program}
/-- All of these temporaries, given these values. -/
def Act.putAll (a : Act) : List Nat → List Value → Act
  | k :: ks, v :: vs => Act.putAll (a.put (some k) v) ks vs
  | _, _ => a
theorem putAll_defers : ∀ (ks : List Nat) (vs : List Value) (a : Act), (Act.putAll a ks vs).defers = a.defers
  | [], vs, a => by cases vs <;> rfl
  | k :: ks, [], a => rfl
  | k :: ks, v :: vs, a => by simp only [Act.putAll]; rw [putAll_defers ks vs]; rfl
theorem putAll_out : ∀ (ks : List Nat) (vs : List Value) (a : Act) (j : Nat), j ∉ ks → (Act.putAll a ks vs).tmps[j]? = a.tmps[j]?
  | [], vs, a, j, _ => by cases vs <;> rfl
  | k :: ks, [], a, j, _ => rfl
  | k :: ks, v :: vs, a, j, h => by
    simp only [Act.putAll]
    rw [putAll_out ks vs _ j (fun e => h (List.mem_cons_of_mem _ e))]
    simp only [Act.put]
    rw [Array.getElem?_setIfInBounds_ne (fun e => h (by rw [e]; exact List.mem_cons_self))]
theorem putAll_in : ∀ (ks : List Nat) (vs : List Value) (a : Act) (i k : Nat) (v : Value), ks.Nodup → ks[i]? = some k → vs[i]? = some v → k < a.tmps.size → (Act.putAll a ks vs).tmps[k]? = some v
  | [], vs, a, i, k, v, _, h, _, _ => by simp at h
  | k0 :: ks, [], a, i, k, v, _, _, h, _ => by simp at h
  | k0 :: ks, v0 :: vs, a, i, k, v, hn, h1, h2, hk => by
    rw [List.nodup_cons] at hn
    simp only [Act.putAll]
    cases i with
    | zero =>
      simp only [List.getElem?_cons_zero, Option.some.injEq] at h1 h2
      subst h1 h2
      rw [putAll_out ks vs _ _ hn.1]
      simp only [Act.put]
      rw [Array.getElem?_setIfInBounds_self_of_lt hk]
    | succ i => exact putAll_in ks vs _ i k v hn.2 (by simpa using h1) (by simpa using h2) (by simpa [Act.put] using hk)
theorem nodup_idx : ∀ {l : List Nat} {i j k : Nat}, l.Nodup → l[i]? = some k → l[j]? = some k → i = j
  | [], i, j, k, _, h, _ => by simp at h
  | a :: l, i, j, k, hn, h1, h2 => by
    rw [List.nodup_cons] at hn
    cases i with
    | zero =>
      cases j with
      | zero => rfl
      | succ j =>
        simp only [List.getElem?_cons_zero, Option.some.injEq, List.getElem?_cons_succ] at h1 h2
        subst h1
        exact absurd (List.mem_of_getElem? h2) hn.1
    | succ i =>
      cases j with
      | zero =>
        simp only [List.getElem?_cons_zero, Option.some.injEq, List.getElem?_cons_succ] at h1 h2
        subst h2
        exact absurd (List.mem_of_getElem? h1) hn.1
      | succ j =>
        simp only [List.getElem?_cons_succ] at h1 h2
        rw [nodup_idx hn.2 h1 h2]
/-- What is known while some of them have come up. -/
structure Pend (a0 : Act) (ks : List Nat) (vs : List Value) (listed : Array Bool) (a : Act) : Prop where
  size : a.tmps.size = a0.tmps.size
  defers : a.defers = a0.defers
  out : ∀ j, j ∉ ks → a.tmps[j]? = a0.tmps[j]?
  inn : ∀ i k v, ks[i]? = some k → vs[i]? = some v → listed.getD i false = true → a.tmps[k]? = some v
theorem wp_drawn_pure (hmix : P.follows .mixedOrders = true) {id : Nat} {ops : Array Oper} {m : Nat} {Q : Exit → Act → World → Prop} {a : Act} {w : World} (hok : drawOk ops m = true)
    {ks : List Nat} {vs : List Value} (hkl : ks.length = m) (hvl : vs.length = m) (hnd : ks.Nodup) (hlt : ∀ k ∈ ks, k < a.tmps.size)
    (hrun : ∀ (i : Nat) k v, ks[i]? = some k → vs[i]? = some v → ∃ o, ops[i]? = some o ∧ o.guard = none ∧ o.dst = some k ∧
      ∀ a' : Act, (∀ j, j ∉ ks → a'.tmps[j]? = a.tmps[j]?) → (∀ j k' v', j ∈ deps ops i → ks[j]? = some k' → vs[j]? = some v' → a'.tmps[k']? = some v') → ∀ w', (execOp a'.eval o).run P w' = .ok (.value v) w')
    (hrest : wpList P ops Q (ops.toList.drop m) (Act.putAll a ks vs) { w with drawn := w.drawn + 1 }) : (Code.region id ops true).wp P Q a w := by
  simp only [drawOk, Bool.and_eq_true] at hok
  obtain ⟨o1, o2, o3⟩ := hok
  have o1 := Nat.le_of_ble_eq_true o1
  refine wp_region_any hmix ?_
  refine any_two (m := m) (I := fun listed a1 w1 => listed.size = ops.size ∧ Pend a ks vs listed a1 ∧ w1 = { w with drawn := w.drawn + 1 })
    (J := fun t a1 w1 => wpList P ops Q (ops.toList.drop t) a1 w1) o1 (fun j k hk => ?_) (fun j hj hjs k hk => ?_) (fun listed a1 w1 i hi hc hr him => ?_) (fun listed a1 w1 hi hall => ?_)
    (fun t a1 w1 hmt hts hj => ?_) (fun a1 w1 hj => ?_) ops.size _ a _ ?_ ?_ (by simp) ?_ ⟨by simp, ⟨rfl, rfl, fun _ _ => rfl, fun i k v h1 h2 h3 => ?_⟩, rfl⟩
  · by_cases hjs : j < ops.size
    · have := (allB_iff _ _).1 ((allB_iff _ _).1 o2 j (rangeFrom_mem (Nat.zero_le _) (by omega))) k hk
      simpa [Nat.blt_eq] using this
    · obtain ⟨o, ho, _⟩ := deps_mem.1 hk
      exact absurd (Array.getElem?_eq_some_iff.mp ho).1 hjs
  · exact ⟨_, (allB_iff _ _).1 ((allB_iff _ _).1 o3 j (rangeFrom_mem hj (by omega))) k (rangeFrom_mem (Nat.zero_le _) (by omega))⟩
  · obtain ⟨hsz, hp, rfl⟩ := hi
    obtain ⟨k, hk⟩ : ∃ k, ks[i]? = some k := ⟨ks[i]'(by omega), List.getElem?_eq_getElem _⟩
    obtain ⟨v, hv⟩ : ∃ v, vs[i]? = some v := ⟨vs[i]'(by omega), List.getElem?_eq_getElem _⟩
    obtain ⟨o, ho, hg, hd, hex⟩ := hrun i k v hk hv
    unfold wpOp
    rw [ho]
    have hw : Region.wanted o (yielded ops a1.tmps) = true := by simp [Region.wanted, hg]
    simp only [hw, if_true]
    refine .inl ?_
    unfold Oper.wp
    rw [hex a1 hp.out (fun j k' v' hj h1 h2 => hp.inn j k' v' h1 h2 (ready_deps hr j hj)), Oper.upon_value, hd]
    have hkm : k ∈ ks := List.mem_of_getElem? hk
    refine ⟨by simpa using hsz, ⟨by simp [Act.put, hp.size], hp.defers, fun j hj => ?_, fun i' k' v' h1 h2 h3 => ?_⟩, rfl⟩
    · simp only [Act.put]
      rw [Array.getElem?_setIfInBounds_ne (fun e => hj (by rw [← e]; exact hkm))]
      exact hp.out j hj
    · by_cases hii : i' = i
      · subst hii
        rw [hk, Option.some.injEq] at h1
        rw [hv, Option.some.injEq] at h2
        subst h1 h2
        simp only [Act.put]
        rw [Array.getElem?_setIfInBounds_self_of_lt (by rw [hp.size]; exact hlt _ hkm)]
      · have hkk : k ≠ k' := fun e => hii (by
          subst e
          exact nodup_idx hnd h1 hk)
        simp only [Act.put]
        rw [Array.getElem?_setIfInBounds_ne hkk]
        exact hp.inn i' k' v' h1 h2 (by rwa [getD_set_ne false (fun e => hii e.symm)] at h3)
  · obtain ⟨hsz, hp, rfl⟩ := hi
    have : a1 = Act.putAll a ks vs := by
      have ht : a1.tmps = (Act.putAll a ks vs).tmps := by
        apply Array.ext_getElem?
        intro j
        by_cases hj : j ∈ ks
        · obtain ⟨i, hi⟩ := List.getElem?_of_mem hj
          have him : i < m := by have := (List.getElem?_eq_some_iff.mp hi).1; omega
          obtain ⟨v, hv⟩ : ∃ v, vs[i]? = some v := ⟨vs[i]'(by omega), List.getElem?_eq_getElem _⟩
          rw [hp.inn i j v hi hv (hall i him), putAll_in ks vs a i j v hnd hi hv (hlt j hj)]
        · rw [hp.out j hj, putAll_out ks vs a j hj]
      have hdd : a1.defers = (Act.putAll a ks vs).defers := by rw [hp.defers, putAll_defers]
      cases a1
      cases h2 : Act.putAll a ks vs
      rw [h2] at ht hdd
      simp only at ht hdd
      rw [ht, hdd]
    rw [this]
    exact hrest
  · unfold wpOp
    rw [Array.getElem?_eq_getElem hts]
    have hd : ops.toList.drop t = ops[t] :: ops.toList.drop (t + 1) := by
      rw [List.drop_eq_getElem_cons (by simpa using hts)]; simp
    rw [hd] at hj
    exact hj
  · have : ops.toList.drop ops.size = [] := by simp
    rw [this] at hj
    exact hj
  · intro j hj
    simp only [Array.getD_eq_getD_getElem?, Array.getElem?_replicate] at hj
    split at hj <;> simp at hj
  · intro j hj
    simp only [Array.getD_eq_getD_getElem?, Array.getElem?_replicate]
    split <;> simp
  · have := unl_split (m := 0) (l := Array.replicate ops.size false) (fun j hj => by omega) (fun j _ => by
      simp only [Array.getD_eq_getD_getElem?, Array.getElem?_replicate]
      split <;> simp) ops.size
    omega
  · simp only [Array.getD_eq_getD_getElem?, Array.getElem?_replicate] at h3
    split at h3 <;> simp at h3
end
end Go.V
/-! What slices.Delete and slices.Insert come to. -/
namespace Go.V
open Go.RowKit
/-- Only this block has turned. -/
structure Turned (w w' : World) (b : Nat) (el : TypeId) (L' : List Value) : Prop where
  heap : w'.heap[b]? = some (.cells L'.toArray el (0, 0))
  other : ∀ k, k ≠ b → w'.heap[k]? = w.heap[k]?
  size : w'.heap.size = w.heap.size
  os : w'.os = w.os
  tape : w'.tape = w.tape
  output : w'.output = w.output
theorem Turned.of {w : World} {b : Nat} {el : TypeId} {L : List Value} (h : Blk w b el L) (L' : List Value) : Turned w (w.setRow b L'.toArray) b el L' :=
  ⟨setRow_heap w b _ _ el (0, 0) h, fun k hk => setRow_other w b k _ hk, setRow_size _ _ _, rfl, rfl, rfl⟩
end Go.V
/-! A function that deletes, as one that takes a slice in and hands one back. -/
namespace Go.V
open Go.RowKit
def intS : PS := ⟨false, .bo, .int .i64⟩
theorem int_arg {w : World} {s : Sit} {n : Int} {v : Value} (h : RepD w s (paramD intS n) v) : v = .int .i64 n := by
  cases h with
  | v _ _ h => cases h with
    | c _ _ h => cases h with
      | k _ _ h =>
        cases h with
        | v _ _ => rfl
        | box _ _ _ hb => cases hb
section
variable {P : Program}
theorem LeftD.same {w : World} {S : Fl → Nat → Prop} {ψ : Lay} {e : Ty} {r : List (den e)} {v : Value} (h : RepO w S (.sl .own e r) v ψ) (h0 : ψ [] = some v) (hi : Inj ψ) (ho : ∀ q y b, ψ q = some y → blkOf y = some b → b < w.heap.size) : LeftD w S ψ w e r v ψ :=
  ⟨rfl, rfl, rfl, Nat.le_refl _, fun _ _ _ => rfl, h, h0, hi, fun q y b e1 e2 => ⟨ho q y b e1 e2, .inr ⟨q, y, e1, e2⟩⟩⟩
theorem seg_all (L : List Value) (o n k : Nat) (u : Value) (h : (seg L o n)[k]? = some u) : L[o + k]? = some u := by
  have hk : k < n := by
    have := (List.getElem?_eq_some_iff.mp h).1
    unfold seg at this
    rw [List.length_take] at this
    omega
  rwa [get_seg hk] at h
end
end Go.V
/-! What slices.Insert comes to: the steps in memory. -/
namespace Go.V
open Go.RowKit
section
variable {P : Program} {w : World} {t e : TypeId} {i ei : TyInfo}
/-- Where plain memory that is nobody else's is held against other memory, they don't overlap. -/
theorem run_apart {tS tR : TypeId} (hi : TyOk1 P tS i) (hd : i.d = .sl e) (hei : TyOk1 P e ei) {a b : Addr} {la ca lb cb : Nat} (hne : a.block ≠ b.block) {tA : TypeId} {kA : Nat} (hsa : w.shape? a.block = some (tA, kA)) (hkA : kA ≠ 0)
    {el : TypeId} {L : List Value} (hb : Blk w b.block el L) :
    (Extern.SlicesOverlaps.overlaps #[tS, tS] #[tR] #[.slice (some a) la ca, .slice (some b) lb cb]).run P w = .ok (.bool false) w := by
  have hnb : (a.block != b.block) = true := by simpa using hne
  have hnb' : (a.block == b.block) = false := by simpa using hne
  have hb' : w.heap[b.block]? = some (.cells L.toArray el (0, 0)) := hb
  have hsb : w.shape? b.block = some (el, L.length) := by simp [World.shape?, hb']
  have hfb : ∀ o, w.frozen? { block := b.block, off := o } = false := fun o => by simp [World.frozen?, hb']
  have hfb' : w.frozen? b = false := by simp [World.frozen?, hb']
  have hu := hi.slice hd
  obtain ⟨k, rfl⟩ : ∃ k, kA = k + 1 := ⟨kA - 1, by omega⟩
  change Sem.run P (α := Value) (do
    let some t := (#[tS, tS] : Array TypeId)[0]? | stuck "slices.overlaps: no parameter types"
    let .slice elem ← underlying t | stuck "slices.overlaps: slice type expected"
    let size ← sizeOf elem
    match (some a : Option Addr), (some b : Option Addr) with
    | some a, some b =>
      if la = 0 ∨ lb = 0 ∨ size = 0 then pure (Value.bool false)
      else if a.block != b.block && (← frozen a) && (← frozen b) then unsupported .addressObserved
      else do
        if a.block != b.block then do
          noView a; noView b
          if ← mayBeOne a b then return Value.bool ((← choose (.extern "sameAddr.stringBytes" 2)) == 1)
        pure (Value.bool (a.block == b.block && a.off < b.off + lb * size && b.off < a.off + la * size))
    | _, _ => pure (Value.bool false)) w = _
  by_cases h0 : la = 0 ∨ lb = 0 ∨ ei.size = 0
  · simp [run_underlying hu, hei.run_sizeOf, h0]
  · cases hfa : w.frozen? a <;> cases hfe : w.frozen? { block := a.block, off := k + 1 } <;> simp [run_underlying hu, hei.run_sizeOf, h0, hnb, hnb', frozen, noView, viewAt, mayBeOne, stringish, shape, Sem.run, hsa, hsb, hfb, hfb', hfa, hfe]
/-- Zeros appended, where there is no room. -/
theorem run_append_zeros {ats : Array TypeId} {xt ty : TypeId} {kk : IntKind} (h0 : ats[0]? = some t) (h1 : ats[1]? = some xt) (hi : TyOk1 P t i) (hd : i.d = .sl e) (hxu : P.underlying xt = some (.int kk)) (hei : TyOk1 P e ei)
    {base : Option Addr} {sLen sCap n : Nat} (hn : 0 < n) (hs : 0 < ei.size) (hb : 0 < ei.bytes) (hgt : ¬ sLen + n ≤ sCap) (hcap : Builtin.nextslicecap (sLen + n) sCap * ei.bytes ≤ 2 ^ 48) (hnb : (sLen + n) * ei.bytes ≤ 2 ^ 48)
    {old : Array Value} (hold : ∀ d, (Builtin.firstCells ei.size sLen (.slice base sLen sCap)).run P { w with drawn := d } = .ok old { w with drawn := d }) :
    ∃ newCap zs rest w', sLen + n ≤ newCap ∧ zs.size = n * ei.zero.length ∧ rest.size = (newCap - (sLen + n)) * ei.zero.length ∧ w'.heap = w.heap.push (.cells (old ++ zs ++ rest) e) ∧ w'.os = w.os ∧ w'.tape = w.tape ∧ w'.output = w.output ∧
        (Builtin.append_ ats ty #[.slice base sLen sCap, iv n]).run P w = .ok (.slice (some ⟨w.heap.size, 0, none⟩) (sLen + n) newCap) w' := by
  have hu := hi.slice hd
  obtain ⟨j, hj, hj1, hj2⟩ := hei.run_typeInfo w
  obtain ⟨z, hz1, hz2⟩ := hei.run_zeroValue { w with drawn := w.drawn + 1 }
  have hz3 : z.cells.size = ei.zero.length := by rw [← hz2]; simp
  have hm1 : sLen + n ≤ (sLen + n) * ei.bytes := Nat.le_mul_of_pos_right _ hb
  have hw : IntKind.i64.wrap (n : Int) = n := by
    unfold IntKind.wrap
    simp [IntKind.signed, IntKind.bits]
    omega
  have hno : ¬ (j.bytes = 0) := by rw [hj2]; omega
  have hno2 : ¬ (Builtin.nextslicecap (sLen + n) sCap * j.bytes > 2 ^ 48) := by rw [hj2]; omega
  have hm2 : n * ei.bytes ≤ (sLen + n) * ei.bytes := Nat.mul_le_mul_right _ (by omega)
  have hno3 : ¬ (281474976710656 < (n : Int) * (j.bytes : Int)) := by
    rw [hj2]
    have h4 : n * ei.bytes ≤ 281474976710656 := by omega
    have h5 := Int.ofNat_le.2 h4
    rw [Int.natCast_mul] at h5
    omega
  have hno4 : ¬ ((n : Int) < 0) := by omega
  have hno5 : ¬ (9223372036854775807 < (sLen : Int) + (n : Int)) := by omega
  have has : (asIntOf (Value.int .i64 (n : Int))).run P w = .ok (.i64, (n : Int)) w := rfl
  have hno6 : ¬ (n * ei.size = 0) := by
    have := Nat.mul_pos hn hs
    omega
  have hj' : ∀ d, (typeInfo e).run P { w with drawn := d } = .ok j { w with drawn := d } := by
    intro d
    obtain ⟨j', hj', _⟩ := hei.run_typeInfo { w with drawn := d }
    have : j' = j := by
      simp only [typeInfo, Sem.run_bind, run_program, Result.andThen_ok] at hj hj'
      cases e3 : P.info? e with
      | none => simp [e3] at hj
      | some q => simp [e3] at hj hj'; rw [← hj, ← hj']
    rw [hj', this]
  refine ⟨(Question.appendCap (sLen + n) sCap e).cut (w.tape w.drawn (.appendCap (sLen + n) sCap e)), Builtin.zeroCells z.cells n, Builtin.zeroCells z.cells ((Question.appendCap (sLen + n) sCap e).cut (w.tape w.drawn (.appendCap (sLen + n) sCap e)) - (sLen + n)),
    { w with drawn := w.drawn + 1, heap := w.heap.push (.cells (old ++ Builtin.zeroCells z.cells n ++ Builtin.zeroCells z.cells ((Question.appendCap (sLen + n) sCap e).cut (w.tape w.drawn (.appendCap (sLen + n) sCap e)) - (sLen + n))) e) },
    ?_, ?_, ?_, rfl, rfl, rfl, rfl, ?_⟩
  · simp only [Question.cut]; omega
  · simp [Builtin.zeroCells, hz3]
  · simp [Builtin.zeroCells, hz3]
  · have hq : Question.forced (.appendCap (sLen + n) sCap e) = false := rfl
    have g1 : (typeInfo e).run P w.drew = .ok j w.drew := hj' _
    have g2 : (Builtin.firstCells ei.size sLen (.slice base sLen sCap)).run P w.drew = .ok old w.drew := hold _
    have g4 : (zeroValue e).run P w.drew = .ok z w.drew := hz1
    have hxx : (match (TypeDesc.int kk : TypeDesc) with | .int _ => true | _ => false) = true := rfl
    simp [Builtin.append_, h0, h1, run_underlying hu, run_underlying hxu, hei.run_sizeOf, iv, asInt, has, hw, hgt, hj, hno2, hno3, hno4, hno5, hno6, hq, g1, g2, g4, newRow]
    rfl
/-- Copying out of whatever has these cells. -/
theorem raw_copyS {ats : Array TypeId} {ty : TypeId} (h0 : ats[0]? = some t) (hi : TyOk1 P t i) (hd : i.d = .sl e) (hei : TyOk1 P e ei) {b o n cap m k : Nat} {v : Value} {el : TypeId} {L us : List Value} (hk : k = min m n)
    (hb : Blk w b el L) (hl : (Builtin.lenOf v).run P w = .ok m w) (hf : (Builtin.firstCells ei.size k v).run P w = .ok us.toArray w) (hfit : o + us.length ≤ L.length) (hone : ∀ u ∈ us, u.oneCell' = true) :
    (Builtin.copy_ ats ty #[.slice (some ⟨b, o, none⟩) n cap, v]).run P w = .ok (goInt k) (w.setRow b (splice L o us).toArray) := by
  have hu := hi.slice hd
  have hst := hb.store (P := P) (o := o) (us := us) hfit hone
  have hkk : Nat.min m n = k := by rw [hk]
  simp [Builtin.copy_, h0, run_underlying hu, hei.run_sizeOf, hl, hkk, hf, hst]
theorem wrap_nat {n : Nat} (h : n ≤ 281474976710656) : IntKind.i64.wrap (n : Int) = n := by
  unfold IntKind.wrap
  simp [IntKind.signed, IntKind.bits]
  omega
/-- What a slice's cells come to, after others have turned. -/
structure Holds' (P : Program) (w : World) (b : Nat) (sz : Nat) (v : Value) (m : Nat) (us : List Value) : Prop where
  len : us.length = m * sz
  one : ∀ u ∈ us, u.oneCell' = true
  run : ∀ w1 : World, (∀ k, k < w.heap.size → k ≠ b → w1.heap[k]? = w.heap[k]?) → (Builtin.lenOf v).run P w1 = .ok m w1 ∧ (Builtin.firstCells sz m v).run P w1 = .ok us.toArray w1
/-- The cells as an insertion leaves them. -/
def insCells (L us : List Value) (o n i m : Nat) (k : Nat) : Option Value := if k < i then L[o + k]? else if k < i + m then us[k - i]? else if k < n + m then L[o + k - m]? else none
/-- In place. -/
theorem shift_steps (hi : TyOk1 P t i) (hd : i.d = .sl e) (hei : TyOk1 P e ei)
    {w : World} {b off n cap j m : Nat} {el : TypeId} {L us : List Value} {v : Value} (hjn : j < n) (hm : 0 < m) (hroom : n + m ≤ cap) (hb : Blk w b el L) (hfit : off + cap * ei.size ≤ L.length) (hL : ∀ u ∈ seg L off (n * ei.size), u.oneCell' = true)
    (hv : Holds' P w b ei.size v m us) :
    (∀ w, (Instr.sliceAt t (.slice (some ⟨b, off, none⟩) n cap) none (some (iv (n + m))) none).run P w = .ok (.slice (some ⟨b, off, none⟩) (n + m) cap) w) ∧
      (∀ w, (Instr.sliceAt t (.slice (some ⟨b, off, none⟩) (n + m) cap) (some (iv (j + m))) none none).run P w = .ok (.slice (some ⟨b, off + (j + m) * ei.size, none⟩) (n + m - (j + m)) (cap - (j + m))) w) ∧
      (∀ w, (Instr.sliceAt t (.slice (some ⟨b, off, none⟩) (n + m) cap) (some (iv j)) none none).run P w = .ok (.slice (some ⟨b, off + j * ei.size, none⟩) (n + m - j) (cap - j)) w) ∧
      ∃ w2 w3, (∀ ty, (Builtin.copy_ #[t, t] ty #[.slice (some ⟨b, off + (j + m) * ei.size, none⟩) (n + m - (j + m)) (cap - (j + m)), .slice (some ⟨b, off + j * ei.size, none⟩) (n + m - j) (cap - j)]).run P { w with drawn := w.drawn + 1 } = .ok (goInt ((n - j : Nat) : Int)) w2) ∧
        (∀ ty, (Builtin.copy_ #[t, t] ty #[.slice (some ⟨b, off + j * ei.size, none⟩) (n + m - j) (cap - j), v]).run P w2 = .ok (goInt m) w3) ∧
        ∃ L', L'.length = L.length ∧ Turned w w3 b el L' ∧ ∀ k, k < (n + m) * ei.size → L'[off + k]? = insCells L us off (n * ei.size) (j * ei.size) (m * ei.size) k := by
  have hnc : n ≤ cap := by omega
  have m1 : (n + m) * ei.size = n * ei.size + m * ei.size := Nat.add_mul _ _ _
  have m2 : (j + m) * ei.size = j * ei.size + m * ei.size := Nat.add_mul _ _ _
  have m3 : n * ei.size = j * ei.size + (n - j) * ei.size := by rw [← Nat.add_mul]; congr 1; omega
  have m4 : (n + m) * ei.size ≤ cap * ei.size := Nat.mul_le_mul_right _ hroom
  have s1 := fun w => raw_slice (P := P) hi hd hei (ad := some ⟨b, off, none⟩) (n := n) (cap := cap) (l := 0) (h := n + m) (lo := none) (hh := some (iv (n + m))) (.inl ⟨rfl, rfl⟩) (.inr rfl) (Nat.zero_le _) hroom w
  have s2 := fun w => raw_slice (P := P) hi hd hei (ad := some ⟨b, off, none⟩) (n := n + m) (cap := cap) (l := j + m) (h := n + m) (lo := some (iv (j + m))) (hh := none) (.inr rfl) (.inl ⟨rfl, rfl⟩) (by omega) hroom w
  have s3 := fun w => raw_slice (P := P) hi hd hei (ad := some ⟨b, off, none⟩) (n := n + m) (cap := cap) (l := j) (h := n + m) (lo := some (iv j)) (hh := none) (.inr rfl) (.inl ⟨rfl, rfl⟩) (by omega) hroom w
  have hz : some (Addr.mk b off none) = (if cap = 0 then some ⟨b, off, none⟩ else (some (Addr.mk b off none)).map (·.add (0 * ei.size))) := by simp [addr_add]
  rw [← hz, Nat.sub_zero, Nat.sub_zero] at s1
  have hne2 : ¬ cap = j + m := by omega
  have hne3 : ¬ cap = j := by omega
  rw [if_neg hne2] at s2
  rw [if_neg hne3] at s3
  simp only [Option.map_some, addr_add] at s2 s3
  have hb' : Blk { w with drawn := w.drawn + 1 } b el L := hb
  have q1 : off + (j + m) * ei.size + (n - j) * ei.size ≤ L.length := by omega
  have q2 : off + j * ei.size + (n - j) * ei.size ≤ L.length := by omega
  have hone : ∀ u ∈ seg L (off + j * ei.size) ((n - j) * ei.size), u.oneCell' = true := by
    intro u hu
    obtain ⟨k, k1, k2, k3⟩ := mem_seg hu
    refine hL u (List.mem_of_getElem? (i := k - off) ?_)
    have k4 : k - off < n * ei.size := by omega
    rw [get_seg k4, ← k3]
    congr 1; omega
  have hc1 := fun ty => raw_copy (P := P) (ats := #[t, t]) (ty := ty) rfl hi hd hei (n := n + m - (j + m)) (cap := cap - (j + m)) (m := n + m - j) (c2 := cap - j) (k := n - j) (by simp only [Nat.min_def]; split <;> omega) hb' hb' q1 q2 hone
  have l1 : (seg L (off + j * ei.size) ((n - j) * ei.size)).length = (n - j) * ei.size := length_seg q2
  have f1 : off + (j + m) * ei.size + (seg L (off + j * ei.size) ((n - j) * ei.size)).length ≤ L.length := by rw [l1]; exact q1
  have l2 := length_splice f1
  have hb2 := hb'.set (L' := splice L (off + (j + m) * ei.size) (seg L (off + j * ei.size) ((n - j) * ei.size)))
  have f2 : off + j * ei.size + us.length ≤ (splice L (off + (j + m) * ei.size) (seg L (off + j * ei.size) ((n - j) * ei.size))).length := by rw [l2, hv.len]; omega
  obtain ⟨r1, r2⟩ := hv.run ({ w with drawn := w.drawn + 1 }.setRow b (splice L (off + (j + m) * ei.size) (seg L (off + j * ei.size) ((n - j) * ei.size))).toArray) (fun k _ hk => setRow_other _ b k _ hk)
  have hc2 := fun ty => raw_copyS (P := P) (ats := #[t, t]) (ty := ty) (v := v) (m := m) (n := n + m - j) (cap := cap - j) (k := m) rfl hi hd hei (by simp only [Nat.min_def]; split <;> omega) hb2 r1 r2 f2 hv.one
  simp only [setRow_setRow hb'] at hc2
  have htu := Turned.of hb' (splice (splice L (off + (j + m) * ei.size) (seg L (off + j * ei.size) ((n - j) * ei.size))) (off + j * ei.size) us)
  refine ⟨s1, s2, s3, _, _, hc1, hc2, _, by rw [length_splice f2, l2], ⟨htu.heap, htu.other, htu.size, htu.os, htu.tape, htu.output⟩, fun k hk => ?_⟩
  unfold insCells
  rw [get_splice f2, hv.len]
  by_cases c1 : k < j * ei.size
  · have g1 : off + k < off + j * ei.size := by omega
    have g2 : off + k < off + (j + m) * ei.size := by omega
    rw [if_pos g1, get_splice f1, if_pos g2, if_pos c1]
  · have g1 : ¬ off + k < off + j * ei.size := by omega
    rw [if_neg g1, if_neg c1]
    by_cases c2 : k < j * ei.size + m * ei.size
    · have g2 : off + k < off + j * ei.size + m * ei.size := by omega
      rw [if_pos g2, if_pos c2]
      congr 1; omega
    · have g2 : ¬ off + k < off + j * ei.size + m * ei.size := by omega
      have g3 : ¬ off + k < off + (j + m) * ei.size := by omega
      have g4 : off + k < off + (j + m) * ei.size + (n - j) * ei.size := by omega
      have g5 : k < n * ei.size + m * ei.size := by omega
      have g6 : off + k - (off + (j + m) * ei.size) < (n - j) * ei.size := by omega
      rw [if_neg g2, if_neg c2, get_splice f1, l1, if_neg g3, if_pos g4, if_pos g5, get_seg g6]
      congr 1; omega
/-- In a block of its own. -/
theorem grow_steps {xt : TypeId} {kk : IntKind} (hxu : P.underlying xt = some (.int kk)) (hi : TyOk1 P t i) (hd : i.d = .sl e) (hei : TyOk1 P e ei) (hzl : ei.zero.length = ei.size) (hs0 : 0 < ei.size) (hby : 0 < ei.bytes)
    {w : World} {b off n cap j m : Nat} {el : TypeId} {L us : List Value} {v : Value} (hjn : j < n) (hm : 0 < m) (hnc : n ≤ cap) (hroom : cap < n + m) (hbig : (2 * (n + m) + 192) * ei.bytes ≤ 281474976710656) (hb : Blk w b el L) (hfit : off + cap * ei.size ≤ L.length)
    (hL : ∀ u ∈ seg L off (n * ei.size), u.oneCell' = true) (hbs : b < w.heap.size) (hv : ∀ b', b' = w.heap.size → Holds' P w b' ei.size v m us) :
    ∃ newCap w1, n + m ≤ newCap ∧ (∀ w, (Instr.sliceAt t (.slice (some ⟨b, off, none⟩) n cap) none (some (iv j)) none).run P w = .ok (.slice (some ⟨b, off, none⟩) j cap) w) ∧
      (Builtin.append_ #[t, xt] t #[.slice (some ⟨b, off, none⟩) j cap, iv (n + m - j)]).run P w = .ok (.slice (some ⟨w.heap.size, 0, none⟩) (n + m) newCap) w1 ∧
      (∀ w1, (Instr.sliceAt t (.slice (some ⟨w.heap.size, 0, none⟩) (n + m) newCap) (some (iv j)) none none).run P w1 = .ok (.slice (some ⟨w.heap.size, j * ei.size, none⟩) (n + m - j) (newCap - j)) w1) ∧
      (∀ w1, (Instr.sliceAt t (.slice (some ⟨w.heap.size, 0, none⟩) (n + m) newCap) (some (iv (j + m))) none none).run P w1 = .ok (.slice (some ⟨w.heap.size, (j + m) * ei.size, none⟩) (n + m - (j + m)) (newCap - (j + m))) w1) ∧
      (∀ w1, (Instr.sliceAt t (.slice (some ⟨b, off, none⟩) n cap) (some (iv j)) none none).run P w1 = .ok (.slice (some ⟨b, off + j * ei.size, none⟩) (n - j) (cap - j)) w1) ∧
      ∃ w2 w3, (∀ ty, (Builtin.copy_ #[t, t] ty #[.slice (some ⟨w.heap.size, j * ei.size, none⟩) (n + m - j) (newCap - j), v]).run P w1 = .ok (goInt m) w2) ∧
        (∀ ty, (Builtin.copy_ #[t, t] ty #[.slice (some ⟨w.heap.size, (j + m) * ei.size, none⟩) (n + m - (j + m)) (newCap - (j + m)), .slice (some ⟨b, off + j * ei.size, none⟩) (n - j) (cap - j)]).run P { w2 with drawn := w2.drawn + 1 } = .ok (goInt ((n - j : Nat) : Int)) w3) ∧
        ∃ L' : List Value, L'.length = newCap * ei.size ∧ w3.heap[w.heap.size]? = some (.cells L'.toArray e (0, 0)) ∧ w3.heap.size = w.heap.size + 1 ∧ (∀ k, k < w.heap.size → w3.heap[k]? = w.heap[k]?) ∧ w3.os = w.os ∧ w3.tape = w.tape ∧ w3.output = w.output ∧
          ∀ k, k < (n + m) * ei.size → L'[k]? = insCells L us off (n * ei.size) (j * ei.size) (m * ei.size) k := by
  have m1 : (n + m) * ei.size = n * ei.size + m * ei.size := Nat.add_mul _ _ _
  have m2 : (j + m) * ei.size = j * ei.size + m * ei.size := Nat.add_mul _ _ _
  have m3 : n * ei.size = j * ei.size + (n - j) * ei.size := by rw [← Nat.add_mul]; congr 1; omega
  have m4 : n * ei.size ≤ cap * ei.size := Nat.mul_le_mul_right _ hnc
  have hjm : j + (n + m - j) = n + m := by omega
  have s1 := fun w => raw_slice (P := P) hi hd hei (ad := some ⟨b, off, none⟩) (n := n) (cap := cap) (l := 0) (h := j) (lo := none) (hh := some (iv j)) (.inl ⟨rfl, rfl⟩) (.inr rfl) (Nat.zero_le _) (by omega) w
  have hz : some (Addr.mk b off none) = (if cap = 0 then some ⟨b, off, none⟩ else (some (Addr.mk b off none)).map (·.add (0 * ei.size))) := by simp [addr_add]
  rw [← hz, Nat.sub_zero, Nat.sub_zero] at s1
  have s4 := fun w => raw_slice (P := P) hi hd hei (ad := some ⟨b, off, none⟩) (n := n) (cap := cap) (l := j) (h := n) (lo := some (iv j)) (hh := none) (.inr rfl) (.inl ⟨rfl, rfl⟩) (by omega) hnc w
  have hne4 : ¬ cap = j := by omega
  rw [if_neg hne4] at s4
  simp only [Option.map_some, addr_add] at s4
  have qf : off + j * ei.size ≤ L.length := by omega
  have hold : ∀ d, (Builtin.firstCells ei.size j (.slice (some ⟨b, off, none⟩) j cap)).run P { w with drawn := d } = .ok (seg L off (j * ei.size)).toArray { w with drawn := d } := fun d => run_firstRow (w := { w with drawn := d }) (P := P) (m := j) (cap := cap) (n := j) hb qf
  have hcap := nextslicecap_le (j + (n + m - j)) cap (by omega)
  have hb1 : Builtin.nextslicecap (j + (n + m - j)) cap * ei.bytes ≤ 2 ^ 48 := by
    rw [hjm] at hcap ⊢
    have := Nat.mul_le_mul_right ei.bytes hcap
    omega
  have hb2 : (j + (n + m - j)) * ei.bytes ≤ 2 ^ 48 := by
    rw [hjm]
    have := Nat.mul_le_mul_right ei.bytes (show n + m ≤ 2 * (n + m) + 192 by omega)
    omega
  obtain ⟨newCap, zs, rest, w1, k1, k2, k3, k4, k5, k6, k7, k8⟩ := run_append_zeros (P := P) (w := w) (ats := #[t, xt]) (ty := t) (n := n + m - j) rfl rfl hi hd hxu hei (by omega) hs0 hby (by omega) hb1 hb2 hold
  rw [hjm] at k1 k3 k8
  have hnew : w1.heap[w.heap.size]? = some (.cells ((seg L off (j * ei.size)).toArray ++ zs ++ rest) e (0, 0)) := by rw [k4]; simp
  have hzl1 : zs.size = (n + m - j) * ei.size := by rw [k2, hzl]
  have hzl2 : rest.size = (newCap - (n + m)) * ei.size := by rw [k3, hzl]
  have hseg0 : (seg L off (j * ei.size)).length = j * ei.size := length_seg qf
  have mm : (n + m - j) * ei.size + j * ei.size = (n + m) * ei.size := by rw [← Nat.add_mul]; congr 1; omega
  have mn : (newCap - (n + m)) * ei.size + (n + m) * ei.size = newCap * ei.size := by rw [← Nat.add_mul]; congr 1; omega
  generalize hZ : seg L off (j * ei.size) ++ zs.toList ++ rest.toList = Z at *
  have hZl : Z.length = newCap * ei.size := by
    rw [← hZ]
    simp only [List.length_append, hseg0, Array.length_toList, hzl1, hzl2]
    omega
  have hblk1 : Blk w1 w.heap.size e Z := by
    unfold Blk
    rw [hnew, ← hZ]
    congr 2
    apply Array.ext'
    simp
  have s2 := fun w1 => raw_slice (P := P) hi hd hei (ad := some ⟨w.heap.size, 0, none⟩) (n := n + m) (cap := newCap) (l := j) (h := n + m) (lo := some (iv j)) (hh := none) (.inr rfl) (.inl ⟨rfl, rfl⟩) (by omega) k1 w1
  have s3 := fun w1 => raw_slice (P := P) hi hd hei (ad := some ⟨w.heap.size, 0, none⟩) (n := n + m) (cap := newCap) (l := j + m) (h := n + m) (lo := some (iv (j + m))) (hh := none) (.inr rfl) (.inl ⟨rfl, rfl⟩) (by omega) k1 w1
  have hne2 : ¬ newCap = j := by omega
  have hne3 : ¬ newCap = j + m := by omega
  rw [if_neg hne2] at s2
  rw [if_neg hne3] at s3
  simp only [Option.map_some, addr_add, Nat.zero_add] at s2 s3
  have hv0 := hv _ rfl
  obtain ⟨r1, r2⟩ := hv0.run w1 (fun k hk _ => by rw [k4, Array.getElem?_push, if_neg (by omega)])
  have f1 : j * ei.size + us.length ≤ Z.length := by rw [hZl, hv0.len]; omega
  have hc1 := fun ty => raw_copyS (P := P) (ats := #[t, t]) (ty := ty) (v := v) (m := m) (n := n + m - j) (cap := newCap - j) (k := m) rfl hi hd hei (by simp only [Nat.min_def]; split <;> omega) hblk1 r1 r2 f1 hv0.one
  have l1 := length_splice f1
  have hb3 : Blk { (w1.setRow w.heap.size (splice Z (j * ei.size) us).toArray) with drawn := (w1.setRow w.heap.size (splice Z (j * ei.size) us).toArray).drawn + 1 } w.heap.size e (splice Z (j * ei.size) us) := hblk1.set
  have hbo : Blk { (w1.setRow w.heap.size (splice Z (j * ei.size) us).toArray) with drawn := (w1.setRow w.heap.size (splice Z (j * ei.size) us).toArray).drawn + 1 } b el L := by
    show (w1.setRow _ _).heap[b]? = _
    rw [setRow_other _ _ _ _ (by omega), k4, Array.getElem?_push, if_neg (by omega)]
    exact hb
  have q2 : off + j * ei.size + (n - j) * ei.size ≤ L.length := by omega
  have hone : ∀ u ∈ seg L (off + j * ei.size) ((n - j) * ei.size), u.oneCell' = true := by
    intro u hu
    obtain ⟨k, g1, g2, g3⟩ := mem_seg hu
    refine hL u (List.mem_of_getElem? (i := k - off) ?_)
    have g4 : k - off < n * ei.size := by omega
    rw [get_seg g4, ← g3]
    congr 1; omega
  have l2 : (seg L (off + j * ei.size) ((n - j) * ei.size)).length = (n - j) * ei.size := length_seg q2
  have q1 : (j + m) * ei.size + (n - j) * ei.size ≤ (splice Z (j * ei.size) us).length := by rw [l1, hZl]; omega
  have hc2 := fun ty => raw_copy (P := P) (ats := #[t, t]) (ty := ty) rfl hi hd hei (n := n + m - (j + m)) (cap := newCap - (j + m)) (m := n - j) (c2 := cap - j) (k := n - j) (by simp only [Nat.min_def]; split <;> omega) hb3 hbo q1 q2 hone
  have f2 : (j + m) * ei.size + (seg L (off + j * ei.size) ((n - j) * ei.size)).length ≤ (splice Z (j * ei.size) us).length := by rw [l2]; exact q1
  refine ⟨newCap, w1, k1, s1, k8, s2, s3, s4, _, _, hc1, hc2, splice (splice Z (j * ei.size) us) ((j + m) * ei.size) (seg L (off + j * ei.size) ((n - j) * ei.size)), by rw [length_splice f2, l1, hZl], setRow_heap _ _ _ _ e (0, 0) hb3, ?_, fun k hk => ?_, k5, k6, k7, fun k hk => ?_⟩
  · rw [setRow_size]
    show (w1.setRow _ _).heap.size = _
    rw [setRow_size, k4]; simp
  · rw [setRow_other _ _ _ _ (by omega)]
    show (w1.setRow _ _).heap[k]? = _
    rw [setRow_other _ _ _ _ (by omega), k4, Array.getElem?_push, if_neg (by omega)]
  · unfold insCells
    rw [get_splice f2, l2]
    by_cases c1 : k < j * ei.size
    · have g1 : k < (j + m) * ei.size := by omega
      rw [if_pos g1, get_splice f1, if_pos c1, if_pos c1, ← hZ, List.append_assoc, List.getElem?_append, hseg0, if_pos c1, get_seg c1]
    · rw [if_neg c1]
      by_cases c2 : k < j * ei.size + m * ei.size
      · have g1 : k < (j + m) * ei.size := by omega
        rw [if_pos g1, get_splice f1, if_neg c1, hv0.len, if_pos c2, if_pos c2]
      · have g1 : ¬ k < (j + m) * ei.size := by omega
        have g2 : k < (j + m) * ei.size + (n - j) * ei.size := by omega
        have g3 : k < n * ei.size + m * ei.size := by omega
        have g4 : k - (j + m) * ei.size < (n - j) * ei.size := by omega
        rw [if_neg g1, if_pos g2, if_neg c2, if_pos g3, get_seg g4]
        congr 1; omega
end
end Go.V
/-! A function that inserts, as one that takes a slice in and hands one back. -/
namespace Go.V
open Go.RowKit
/-- A function that inserts. -/
structure InsOk (P : Program) (f : FuncId) (t xt ov tb : TypeId) : Prop where
  none : ∀ (w : World) (ad bd : Option Addr) (n cap j cv : Nat), j ≤ n → n ≤ cap → Calls P f #[.slice ad n cap, iv j, .slice bd 0 cv] w fun e w' => e = .returned (.slice ad n cap) ∧ w' = w
  stop : ∀ (w w1 : World) (ad bd : Option Addr) (n cap m cv : Nat) (v : Value), n ≤ cap → 0 < m → (Builtin.append_ #[t, t] t #[.slice ad n cap, .slice bd m cv]).run P w = .ok v w1 →
    Calls P f #[.slice ad n cap, iv n, .slice bd m cv] w fun e w' => e = .returned v ∧ w' = w1
  shift : ∀ (w w2 w3 : World) (a66 av a76 : Option Addr) (b off n cap j m cv l66 c66 l76 c76 : Nat), j < n → n ≤ cap → 0 < m → n + m ≤ cap → n + m ≤ 281474976710656 →
    (Instr.sliceAt t (.slice (some ⟨b, off, .none⟩) n cap) .none (some (iv (n + m))) .none).run P w = .ok (.slice (some ⟨b, off, .none⟩) (n + m) cap) w →
    (∀ w, (Instr.sliceAt t (.slice (some ⟨b, off, .none⟩) (n + m) cap) (some (iv (j + m))) .none .none).run P w = .ok (.slice a66 l66 c66) w) →
    (∀ w, (Instr.sliceAt t (.slice (some ⟨b, off, .none⟩) (n + m) cap) (some (iv j)) .none .none).run P w = .ok (.slice a76 l76 c76) w) →
    (callFunc ov #[.slice av m cv, .slice a66 l66 c66]).run P w = .ok (.value (.bool false)) w →
    (∀ ty, (Builtin.copy_ #[t, t] ty #[.slice a66 l66 c66, .slice a76 l76 c76]).run P { w with drawn := w.drawn + 1 } = .ok (goInt ((n - j : Nat) : Int)) w2) →
    (∀ ty, (Builtin.copy_ #[t, t] ty #[.slice a76 l76 c76, .slice av m cv]).run P w2 = .ok (goInt m) w3) →
    Calls P f #[.slice (some ⟨b, off, .none⟩) n cap, iv j, .slice av m cv] w fun e w' => e = .returned (.slice (some ⟨b, off, .none⟩) (n + m) cap) ∧ w' = w3
  grow : ∀ (w w1 w2 w3 : World) (av a34 a43 a50 a53 : Option Addr) (b off n cap j m cv l43 c43 l50 c50 l53 c53 l34 c34 newCap W : Nat), j < n → n ≤ cap → 0 < m → cap < n + m → n + m ≤ 281474976710656 →
    (∀ w, (Instr.sliceAt t (.slice (some ⟨b, off, .none⟩) n cap) .none (some (iv j)) .none).run P w = .ok (.slice a34 l34 c34) w) →
    (Builtin.append_ #[t, xt] t #[.slice a34 l34 c34, iv (n + m - j)]).run P w = .ok (.slice (some ⟨W, 0, .none⟩) (n + m) newCap) w1 →
    (∀ w1, (Instr.sliceAt t (.slice (some ⟨W, 0, .none⟩) (n + m) newCap) (some (iv j)) .none .none).run P w1 = .ok (.slice a43 l43 c43) w1) →
    (∀ w1, (Instr.sliceAt t (.slice (some ⟨W, 0, .none⟩) (n + m) newCap) (some (iv (j + m))) .none .none).run P w1 = .ok (.slice a50 l50 c50) w1) →
    (∀ w1, (Instr.sliceAt t (.slice (some ⟨b, off, .none⟩) n cap) (some (iv j)) .none .none).run P w1 = .ok (.slice a53 l53 c53) w1) →
    (∀ ty, (Builtin.copy_ #[t, t] ty #[.slice a43 l43 c43, .slice av m cv]).run P w1 = .ok (goInt m) w2) →
    (∀ ty, (Builtin.copy_ #[t, t] ty #[.slice a50 l50 c50, .slice a53 l53 c53]).run P { w2 with drawn := w2.drawn + 1 } = .ok (goInt ((n - j : Nat) : Int)) w3) →
    Calls P f #[.slice (some ⟨b, off, .none⟩) n cap, iv j, .slice av m cv] w fun e w' => e = .returned (.slice (some ⟨W, 0, .none⟩) (n + m) newCap) ∧ w' = w3
  over : ∀ (args : Array Value) (w : World), (callFunc ov args).run P w = ((Extern.SlicesOverlaps.overlaps #[t, t] #[tb] args).run P w).andThen fun v w' => .ok (.value v) w'
def insS (e : Ty) : Sig := ⟨[⟨false, .own, .sl e⟩, intS, ⟨false, .bo, .sl e⟩], [⟨false, .own, .sl e⟩]⟩
/-- What an insertion makes. -/
def insR {α : Type} (bytes : Nat) (d : List α × (Int × List α)) : Option (List α) :=
  bif and (decide (0 ≤ d.2.1)) (and (decide (d.2.1 ≤ (d.1.length : Int))) (roomOk false d.1.length d.2.2.length bytes)) then some (app (d.1.take d.2.1.toNat) (app d.2.2 (d.1.drop d.2.1.toNat))) else none
/-- What is shared for good in all of it. -/
inductive AllRo : T → Prop where
  | v (x : Value) : AllRo (.v x)
  | sl (e : Ty) (xs : List (den e)) : AllRo (.sl .ro e xs)
  | pt (e : Ty) (d : den e) : AllRo (.pt .ro e d)
  | ifc (b : Bool) : AllRo (.ifc b)
  | dead : AllRo .dead
theorem allRo_cells : ∀ {e : Ty} (d : den e), ∀ t ∈ cells .ro e d, AllRo t := by
  intro e
  induction e with
  | pair a b iha ihb =>
    intro d t ht
    simp only [cells, app_eq, List.mem_append] at ht
    rcases ht with ht | ht
    · exact iha _ t ht
    · exact ihb _ t ht
  | unit | nat | sum | fn => intro d t ht; simp [cells] at ht
  | int | bool | str => intro d t ht; simp only [cells, List.mem_singleton] at ht; subst ht; exact .v _
  | sl => intro d t ht; simp only [cells, List.mem_singleton] at ht; subst ht; exact .sl _ _
  | rsl => intro d t ht; simp only [cells, List.mem_singleton] at ht; subst ht; exact .sl _ _
  | ptr => intro d t ht; simp only [cells, List.mem_singleton] at ht; subst ht; exact .pt _ _
  | ifc => intro d t ht; simp only [cells, List.mem_singleton] at ht; subst ht; exact .ifc _
  | bld => intro d t ht; simp only [cells, List.mem_singleton] at ht; subst ht; exact .dead
theorem allRo_flat {f : Fl} : ∀ {e : Ty} (_ : e.flat = true) (d : den e), ∀ t ∈ cells f e d, AllRo t := by
  intro e h d t ht
  rw [flat_cells (g := .ro) h d] at ht
  exact allRo_cells d t ht
theorem RepR.allRo {w : World} {S S' : Fl → Nat → Prop} {t : T} {u : Value} (h : RepR w S t u) (hS : ∀ b, S .ro b → S' .ro b) : AllRo t → RepR w S' t u := by
  induction h with
  | v x h1 => intro _; exact .v x h1
  | dead x => intro _; exact .dead x
  | ifcN => intro _; exact .ifcN
  | ifcS u y => intro _; exact .ifcS u y
  | nil f e a c => intro _; exact .nil f e a c
  | sl f e xs b off cap vs hR hcap hc hr ih =>
    intro h
    cases h
    refine .sl .ro e xs b off cap vs (hS b hR) hcap hc (fun i j t e' => ih i j t e' ?_)
    rw [cellOf_rows] at e'
    obtain ⟨d, _, e'⟩ := Option.bind_eq_some_iff.mp e'
    rw [nth_eq] at e'
    exact allRo_cells d t (List.mem_of_getElem? e')
  | box t f cs hb b off vs hR hc hr ih =>
    intro h
    cases h with
    | v => cases hb
    | sl => cases hb
    | ifc => cases hb
    | dead => cases hb
    | pt e d =>
      simp only [T.shBox?, Option.some.injEq, Prod.mk.injEq] at hb
      obtain ⟨rfl, rfl⟩ := hb
      exact .box _ .ro _ rfl b off vs (hS b hR) hc (fun j t e' => ih j t e' (allRo_cells d t (List.mem_of_getElem? e')))
  | ga e xs b off vs hR hw hc hr ih => intro h; cases h
theorem cell_shape {w : World} {b o : Nat} {v : Value} (h : w.cell? ⟨b, o, none⟩ = some v) : ∃ t k, w.shape? b = some (t, k) ∧ k ≠ 0 := by
  unfold World.cell? at h
  split at h
  · rename_i c el fz hb
    simp only at h hb
    refine ⟨el, c.size, by simp [World.shape?, hb], fun e => ?_⟩
    have : c = #[] := Array.eq_empty_of_size_eq_zero e
    subst this
    simp at h
  · cases h
section
variable {c : Ctx} {w : World}
/-- Shared elements, wherever the world has turned elsewhere. -/
theorem bo_src {S : Fl → Nat → Prop} {f : Fl} {e : Ty} {ys : List (den e)} {v : Value} (hf : e.flat = true) (h : RepR w S (.sl f e ys) v) :
    ∃ us ad cap, v = .slice ad ys.length cap ∧ us.length = ys.length * e.size ∧ RowsAt w S e ys us noLay ∧ (∀ w1 : World, (∀ f b, S f b → w1.heap[b]? = w.heap[b]?) → SrcRuns c.P w1 e.size v ys.length us) ∧
      (0 < ys.length → 0 < e.size → ∃ b o, ad = some ⟨b, o, none⟩ ∧ (∃ f, S f b) ∧ ∃ t k, w.shape? b = some (t, k) ∧ k ≠ 0) := by
  cases h with
  | box _ _ _ hb => simp [T.shBox?] at hb
  | nil _ _ ad cap => exact ⟨[], ad, cap, rfl, by simp, ⟨by simp, fun i j t e' => by simp [cellOf, rows] at e', fun _ _ _ => rfl⟩, fun _ _ => src_slice (by simp) (.inl rfl), fun h => by simp at h⟩
  | sl _ _ _ b off cap vs hR hcap hc hr =>
    have hcell : ∀ i j t, cellOf (rows .own e ys) i j = some t → cellOf (rows f e ys) i j = some t := by
      intro i j t e'
      rw [cellOf_rows] at e' ⊢
      obtain ⟨d, h1, h2⟩ := Option.bind_eq_some_iff.mp e'
      rw [h1, Option.bind_some, flat_cells (f := f) (g := .own) hf d]
      exact h2
    have hex : ∀ i j, i < ys.length → j < e.size → w.cell? ⟨b, off + i * e.size + j, none⟩ = some (vs i j) := by
      intro i j hi hj
      have hex : ∃ t, cellOf (rows .own e ys) i j = some t := by
        rw [cellOf_rows, List.getElem?_eq_getElem hi, Option.bind_some, nth_eq]
        exact ⟨_, List.getElem?_eq_getElem (by rw [length_cells]; exact hj)⟩
      obtain ⟨t, ht⟩ := hex
      exact hc i j t (hcell i j t ht)
    refine ⟨flatU ys.length e.size vs, _, _, rfl, by simp [flatU], ⟨by simp [flatU], fun i j t e' => ?_, fun _ _ _ => rfl⟩, fun w1 hw1 => src_slice (by simp [flatU]) (.inr ⟨b, off, rfl, fun k u hk => ?_⟩), fun h1 h2 => ⟨b, off, rfl, ⟨_, hR⟩, cell_shape (hex 0 0 h1 h2)⟩⟩
    · have hij := rows_lt e'
      refine ⟨vs i j, flatU_get hij.1 hij.2, .sh _ _ (hr i j t (hcell i j t e')) ?_⟩
      rw [cellOf_rows] at e'
      obtain ⟨d, _, e'⟩ := Option.bind_eq_some_iff.mp e'
      rw [nth_eq] at e'
      exact flat_sh hf d t (List.mem_of_getElem? e')
    · obtain ⟨i, j, hi, hj, rfl, rfl⟩ := flatU_some hk
      have := hex i j hi hj
      simp only [World.cell?] at this ⊢
      rw [hw1 _ _ hR, ← Nat.add_assoc]
      exact this
theorem RowsAt.flatRo {S S' : Fl → Nat → Prop} {e : Ty} {ys : List (den e)} {us : List Value} (hf : e.flat = true) (h : RowsAt w S e ys us noLay) (hS : ∀ b, S .ro b → S' .ro b) : RowsAt w S' e ys us noLay := by
  refine ⟨h.len, fun i j t e' => ?_, h.out⟩
  obtain ⟨u, g1, g2⟩ := h.get i j t e'
  rw [cellOf_rows] at e'
  obtain ⟨d, _, e'⟩ := Option.bind_eq_some_iff.mp e'
  rw [nth_eq] at e'
  have hm := List.mem_of_getElem? e'
  have hsh := flat_sh hf d t hm
  have hr := allRo_flat hf d t hm
  refine ⟨u, g1, ?_⟩
  cases g2 with
  | sh _ _ g3 _ => exact .sh _ _ (g3.allRo hS hr) hsh
  | nil => cases hr
  | sl => cases hr
  | slo => cases hr
  | vr => cases hr
  | bld => cases hr
  | box _ _ ht => cases hr <;> cases ht
end
/-- Rows of an owned slice that stands in a block. -/
theorem seg_rows {w : World} {S : Fl → Nat → Prop} {e : Ty} {xs : List (den e)} {off : Nat} {arr : Array Value} {vs : Nat → Nat → Value} {ψ : Lay} {sz : Nat} (hsz' : e.size = sz) (hfit : off + xs.length * sz ≤ arr.toList.length)
    (hcc : ∀ i j t, cellOf (rows .own e xs) i j = some t → arr[off + (i * sz + j)]? = some (vs i j)) (hr : ∀ i j t, cellOf (rows .own e xs) i j = some t → RepO w S t (vs i j) (ψ.at i j)) (hn : ∀ i j, cellOf (rows .own e xs) i j = none → ψ.at i j = noLay) :
    RowsAt w S e xs (seg arr.toList off (xs.length * sz)) (fun q => match q with | [] => none | q => ψ q) := by
  refine ⟨by rw [hsz']; exact length_seg hfit, fun k l t e' => ⟨vs k l, ?_, hr k l t e'⟩, fun k l e' => hn k l e'⟩
  have hkl := rows_lt e'
  have hk2 : k * e.size + l < xs.length * e.size := by
    have : (k + 1) * e.size ≤ xs.length * e.size := Nat.mul_le_mul_right _ hkl.1
    rw [Nat.add_mul] at this; omega
  rw [hsz'] at hk2 ⊢
  rw [get_seg hk2, Array.getElem?_toList]
  exact hcc k l t e'
/-- Rows set between others. -/
theorem ins_left {w w' : World} {S : Fl → Nat → Prop} {e : Ty} {xs ys : List (den e)} {ψ : Lay} {b off b' off' cap' j sz : Nat} {L L' us : List Value} {el' : TypeId} {v0 : Value} (hsz' : e.size = sz) (hj : j ≤ xs.length)
    (hfit : off + xs.length * sz ≤ L.length) (hrows : RowsAt w S e xs (seg L off (xs.length * sz)) (fun q => match q with | [] => none | q => ψ q)) (hys : RowsAt w S e ys us noLay) (hul : us.length = ys.length * sz)
    (h0 : ψ [] = some v0) (hb0 : blkOf v0 = some b) (hinj : Inj ψ) (hown : ∀ q y b, ψ q = some y → blkOf y = some b → (∀ f, ¬ S f b) ∧ b < w.heap.size) (hSlt : ∀ f b, S f b → b < w.heap.size)
    (hb' : w'.heap[b']? = some (.cells L'.toArray el' (0, 0))) (hfit' : off' + (cap' + 1) * sz ≤ L'.length) (hlen : xs.length + ys.length ≤ cap' + 1)
    (hcells : ∀ k, k < (xs.length + ys.length) * sz → L'[off' + k]? = insCells L us off (xs.length * sz) (j * sz) (ys.length * sz) k)
    (hother : ∀ k, k < w.heap.size → k ≠ b → w'.heap[k]? = w.heap[k]?) (hbb : b' = b ∨ w.heap.size ≤ b') (hlt' : b' < w'.heap.size) (hsize : w.heap.size ≤ w'.heap.size) (ho : w'.os = w.os) (ht : w'.tape = w.tape) (hout : w'.output = w.output) :
    ∃ ψ', LeftD w S ψ w' e (xs.take j ++ (ys ++ xs.drop j)) (.slice (some ⟨b', off', none⟩) (xs.length + ys.length) (cap' + 1)) ψ' := by
  have hall := (hrows.take j).append (hys.append (hrows.drop j))
  have hlen1 : (xs.take j).length = j := by rw [List.length_take]; omega
  rw [hlen1] at hall
  let g : Path → Path := fun q => match q with
    | [] => []
    | (k, l) :: q => if k < j then (k, l) :: q else (k - ys.length, l) :: q
  have hχ : ∀ q y, (catLay j (takeLay j fun q => match q with | [] => none | q => ψ q) (catLay ys.length noLay (dropLay j fun q => match q with | [] => none | q => ψ q))) q = some y →
      ψ (g q) = some y ∧ ∃ k l q', q = (k, l) :: q' ∧ (k < j ∨ j + ys.length ≤ k) := by
    intro q y hy
    cases q with
    | nil => cases hy
    | cons c0 q =>
      obtain ⟨k, l⟩ := c0
      simp only [catLay] at hy
      split at hy
      · rename_i hk
        simp only [takeLay, if_pos hk] at hy
        exact ⟨by simp only [g, if_pos hk]; exact hy, k, l, q, rfl, .inl hk⟩
      · rename_i hk
        split at hy
        · cases hy
        · rename_i hk2
          simp only [dropLay] at hy
          have e1 : k - j - ys.length + j = k - ys.length := by omega
          rw [e1] at hy
          exact ⟨by simp only [g, if_neg hk]; exact hy, k, l, q, rfl, .inr (by omega)⟩
  have hbS : ∀ f, ¬ S f b := (hown [] _ b h0 hb0).1
  have hall' := hall.mono (w' := w') (fun f b1 hS => hother b1 (hSlt f b1 hS) (fun e => hbS f (e ▸ hS))) (fun c0 p y b1 e1 e2 => by
    obtain ⟨h1, k, l, q', h2, h3⟩ := hχ _ _ e1
    refine hother b1 (hown _ _ _ h1 e2).2 (fun e => ?_)
    subst e
    have h6 := hinj _ _ _ _ b1 h1 e2 h0 hb0
    rw [h2] at h6
    simp only [g] at h6
    split at h6 <;> cases h6)
  have hxl : (xs.take j ++ (ys ++ xs.drop j)).length = xs.length + ys.length := by simp only [List.length_append, hlen1, List.length_drop]; omega
  have m1 : j * sz ≤ xs.length * sz := Nat.mul_le_mul_right _ hj
  have m2 : (xs.length + ys.length) * sz = xs.length * sz + ys.length * sz := Nat.add_mul _ _ _
  have hto := hall'.toSl (b := b') (off := off') (cap := cap') (arr := L'.toArray) (el := el') hb' (by rw [hxl]; exact hlen) (by rw [hsz', List.size_toArray]; exact hfit') (fun k u hk => ?_)
  rotate_left
  · have hk1 : k < (xs.length + ys.length) * sz := by
      have := (List.getElem?_eq_some_iff.mp hk).1
      rw [hall'.len, hxl, hsz'] at this; exact this
    rw [List.getElem?_toArray, hcells k hk1]
    unfold insCells
    rw [hsz'] at hk
    have l1 : ((seg L off (xs.length * sz)).take (j * sz)).length = j * sz := by rw [List.length_take, length_seg hfit]; omega
    rw [List.getElem?_append, l1] at hk
    split at hk
    · rename_i hk2
      rw [if_pos hk2]
      rw [List.getElem?_take, if_pos hk2] at hk
      exact seg_all _ _ _ _ _ hk
    · rename_i hk2
      rw [if_neg hk2]
      rw [List.getElem?_append, hul] at hk
      split at hk
      · rename_i hk3
        have : k < j * sz + ys.length * sz := by omega
        rw [if_pos this]; exact hk
      · rename_i hk3
        have h4 : ¬ k < j * sz + ys.length * sz := by omega
        have h5 : k < xs.length * sz + ys.length * sz := by omega
        rw [if_neg h4, if_pos h5]
        rw [List.getElem?_drop] at hk
        have := seg_all _ _ _ _ _ hk
        rw [← this]
        congr 1; omega
  rw [hxl] at hto
  refine ⟨_, ho, ht, hout, hsize, fun b1 h1 h2 => hother b1 h1 (fun e => h2 [] _ h0 (by rw [e]; exact hb0)), hto, rfl, ?_, fun q y b1 e1 e2 => ?_⟩
  · have hfresh : ∀ q y, (catLay j (takeLay j fun q => match q with | [] => none | q => ψ q) (catLay ys.length noLay (dropLay j fun q => match q with | [] => none | q => ψ q))) q = some y → blkOf y ≠ some b' := by
      intro q y hy hb1
      obtain ⟨h1, k, l, q', h2, h3⟩ := hχ q y hy
      rcases hbb with e | e
      · subst e
        have h6 := hinj _ _ _ _ b' h1 hb1 h0 hb0
        rw [h2] at h6
        simp only [g] at h6
        split at h6 <;> cases h6
      · have := (hown _ _ _ h1 hb1).2; omega
    intro q y q' y' b1 h1 h2 h3 h4
    cases q with
    | nil =>
      simp only [topLay, Option.some.injEq] at h1
      subst h1
      simp only [blkOf, Option.some.injEq] at h2
      subst h2
      cases q' with
      | nil => rfl
      | cons c1 q1 => exact absurd h4 (hfresh (c1 :: q1) _ h3)
    | cons c0 q0 =>
      cases q' with
      | nil =>
        simp only [topLay, Option.some.injEq] at h3
        subst h3
        simp only [blkOf, Option.some.injEq] at h4
        subst h4
        exact absurd h2 (hfresh (c0 :: q0) _ h1)
      | cons c1 q1 =>
        obtain ⟨g1, k, l, p1, g2, g3⟩ := hχ (c0 :: q0) y h1
        obtain ⟨g4, k', l', p2, g5, g6⟩ := hχ (c1 :: q1) y' h3
        have h6 := hinj _ _ _ _ b1 g1 h2 g4 h4
        rw [g2, g5] at h6 ⊢
        simp only [g] at h6
        split at h6 <;> split at h6 <;> simp only [List.cons.injEq, Prod.mk.injEq] at h6 ⊢ <;> exact ⟨⟨by omega, h6.1.2⟩, h6.2⟩
  · cases q with
    | nil =>
      simp only [topLay, Option.some.injEq] at e1
      subst e1
      simp only [blkOf, Option.some.injEq] at e2
      subst e2
      refine ⟨hlt', ?_⟩
      rcases hbb with e | e
      · exact .inr ⟨[], _, h0, by rw [e]; exact hb0⟩
      · exact .inl e
    | cons c0 q =>
      obtain ⟨h1, -⟩ := hχ (c0 :: q) y e1
      exact ⟨by have := (hown _ _ _ h1 e2).2; omega, .inr ⟨_, _, h1, e2⟩⟩
end Go.V
/-! A function that inserts is sound. -/
namespace Go.V
open Go.RowKit
section
variable {c : Ctx}
/-- A state in which nothing is known but what is shared. -/
theorem RelW.bare {w : World} {S : Fl → Nat → Prop} (O : Nat → Prop) (hlt : ∀ f b, S f b → b < w.heap.size) (hown : ∀ b, ¬ S .own b) (hrb : ∀ b, S .ro b → S .bo b) :
    RelW { nt := ⟨0, 0⟩, out := fun _ => none, w0 := w, O0 := O, R0 := S .ro, B0 := S .bo, G := [], F := fun _ _ _ _ => True, muts := [], Φ0 := fun _ => noLay, LC := fun _ _ => none, LΦ := fun _ _ => noLay, PV := fun _ => .nilIface }
      { S := S, Φ := fun _ => noLay, F := fun _ _ _ _ => True } { env := [], roots := [], lock := [], pin := [], dirt := [] } { tmps := #[], defers := [] } w where
  defers := rfl
  size := rfl
  env := fun k D hD => by simp [look] at hD
  roots := fun r row e => by simp [look] at e
  rootn := fun r _ => rfl
  inj := fun r p y r' p' y' b e => by cases e
  own := fun r p y b e => by cases e
  slt := hlt
  sown := hown
  sro := fun b hb => hb
  srn := fun b hb => .inl hb
  sbo := fun b hb => hb
  srb := hrb
  sbn := fun b hb => .inl hb
  F := rfl
  os := rfl
  tape := rfl
  output := rfl
  grow := Nat.le_refl _
  kept := fun _ _ _ => rfl
  glob := fun g t e => by simp [look] at e
  pins := fun k hk => by simp at hk
  locks := fun r d hd => by simp at hd
  dirt := fun r hr => by simp at hr
theorem bo_arg {w : World} {s : Sit} {e : Ty} {ys : List (den e)} {v : Value} (h : RepD w s (paramD ⟨false, .bo, .sl e⟩ ys) v) : RepR w s.S (.sl .bo e ys) v := by
  cases h with
  | v _ _ h => cases h with
    | c _ _ h => cases h with
      | k _ _ h => exact h
theorem ins_sound {f : FuncId} {t xt ov tb el : TypeId} {ti ei : TyInfo} {kk : IntKind} {e : Ty} (h : InsOk c.P f t xt ov tb) (hi : TyOk1 c.P t ti) (hd : ti.d = .sl el) (hei : TyOk1 c.P el ei) (hxu : c.P.underlying xt = some (.int kk))
    (hsz : e.size = ei.size) (hzl : ei.zero.length = ei.size) (hs0 : 0 < ei.size) (hby : 0 < ei.bytes) (hflat : e.flat = true) : SoundD c.P f (insS e) (insR ei.bytes) := by
  intro w S s v ψ vs xs d r hrep htop hinj hSown hSrb hSro hown hSs hslt hlen hargs hsem
  obtain ⟨j, ys0⟩ := d
  obtain ⟨ys, hys0⟩ : ∃ ys : List (den e), ys = ys0 := ⟨ys0, rfl⟩
  have hargs1 := hargs 1 _ rfl
  have hargs0 := hargs 0 _ rfl
  change insR ei.bytes (xs, (j, ys0)) = some r at hsem
  rw [← hys0] at hsem
  -- the arguments
  obtain ⟨v0, g0, q0⟩ := hargs0
  obtain ⟨v1, g1, q1⟩ := hargs1
  have r0 : v0 = .int .i64 j := int_arg q0
  have r1 : RepR w s.S (.sl .bo e ys) v1 := by rw [hys0]; exact bo_arg q1
  clear hargs hys0 q0 q1
  subst r0
  have hvs : vs = [.int .i64 j, v1] := by
    match vs, hlen with
    | [a, b], _ =>
      simp only [List.getElem?_cons_zero, List.getElem?_cons_succ, Option.some.injEq] at g0 g1
      rw [g0, g1]
  subst hvs
  unfold insR at hsem
  simp only at hsem
  rcases cond_some hsem with ⟨hc, hsem1⟩ | ⟨_, hsem1⟩
  rotate_left
  · cases hsem1
  simp only [Bool.and_eq_true, decide_eq_true_eq] at hc
  obtain ⟨hj0, hjn, hroomk⟩ := hc
  obtain ⟨j, rfl⟩ := Int.eq_ofNat_of_zero_le hj0
  simp only [Int.ofNat_le, Int.toNat_natCast, app_eq, Option.some.injEq] at hjn hsem1
  subst hsem1
  have hbig : (2 * (xs.length + ys.length) + 192) * ei.bytes ≤ 281474976710656 := Nat.le_of_ble_eq_true hroomk
  have hbig1 : xs.length + ys.length ≤ 281474976710656 := by
    have := Nat.le_mul_of_pos_right (2 * (xs.length + ys.length) + 192) hby
    omega
  have hown' : ∀ q y b, ψ q = some y → blkOf y = some b → b < w.heap.size := fun q y b e1 e2 => (hown q y b e1 e2).2.2
  have hSlt : ∀ f b, S f b → b < w.heap.size := fun f b hS => hslt f b (hSs f b hS)
  obtain ⟨us, av, cv, hv1, hul, hrowsY, hsrc, hshape⟩ := bo_src (c := c) hflat r1
  subst hv1
  have hrowsY' : RowsAt w S e ys us noLay := hrowsY.flatRo hflat hSro
  by_cases hm : ys.length = 0
  · -- nothing to set in
    have hys : ys = [] := by simpa using hm
    subst hys
    have hxs : xs.take j ++ ([] ++ xs.drop j) = xs := by simp
    rw [hxs]
    have key : ∀ ad cap, xs.length ≤ cap → v = .slice ad xs.length cap → Calls c.P f (v :: [.int .i64 (j : Int), .slice av ([] : List (den e)).length cv]).toArray w fun ex w' => ∃ v' ψ', ex = .returned v' ∧ LeftD w S ψ w' e xs v' ψ' := by
      intro ad cap hcap hv
      subst hv
      refine (h.none w ad av xs.length cap j cv hjn hcap).mono (fun ex w' he => ?_)
      obtain ⟨rfl, rfl⟩ := he
      exact ⟨_, ψ, rfl, .same hrep htop hinj hown'⟩
    cases hrep with
    | sh _ _ _ ht => simp [T.isSh] at ht
    | box _ cs ht => simp [T.box?] at ht
    | nil _ ad φ h0 hn => exact key ad 0 (by simp) rfl
    | sl _ _ b off cap arr el vs φ hb hcap hsz hc hr h0 hn => exact key _ _ hcap rfl
  have hm0 : 0 < ys.length := by omega
  by_cases hjj : j = xs.length
  · -- behind all
    subst hjj
    rw [List.take_length, List.drop_length, List.append_nil]
    have key : ∀ ad cap, xs.length ≤ cap → v = .slice ad xs.length cap → Calls c.P f (v :: [.int .i64 (xs.length : Int), .slice av ys.length cv]).toArray w fun ex w' => ∃ v' ψ', ex = .returned v' ∧ LeftD w S ψ w' e (xs ++ ys) v' ψ' := by
      intro ad cap hcap hv
      subst hv
      have hbare := RelW.bare (w := w) (S := S) (fun b => ∃ q y, ψ q = some y ∧ blkOf y = some b) hSlt hSown hSrb
      obtain ⟨v', w', ψ', k1, k2, k3, k4, k5⟩ := append_core (c := c) (ats := #[t, t]) (ty := t) rfl rfl hi hd (hi.slice hd) (by intro k; exact nofun) hei hzl hby hbare hsz (by omega) hrep
        (⟨hinj, fun q y b e1 e2 => ⟨(hown q y b e1 e2).1, (hown q y b e1 e2).2.2, .inl ⟨q, y, e1, e2⟩⟩, fun q y b e1 e2 r p z e3 => by cases e3⟩) hrowsY' (OwnOut.none _ _ _) (fun q y b e1 => by cases e1) rfl (by rw [← hsz]; exact hsrc w (fun _ _ _ => rfl)) (z := false) (fun e => by cases e) hroomk
      refine (h.stop w w' ad av xs.length cap ys.length cv v' hcap hm0 k1).mono (fun ex w2 he => ?_)
      obtain ⟨rfl, rfl⟩ := he
      refine ⟨v', ψ', rfl, k2.os, k2.tape, k2.output, k2.grow, fun b hb hn => k2.kept b hb (fun ⟨q, y, e1, e2⟩ => hn q y e1 e2), k3, k5, k4.inj, fun q y b e1 e2 => ?_⟩
      have := k4.own q y b e1 e2
      exact ⟨this.2.1, this.2.2.elim .inr .inl⟩
    cases hrep with
    | sh _ _ _ ht => simp [T.isSh] at ht
    | box _ cs ht => simp [T.box?] at ht
    | nil _ ad φ h0 hn => exact key ad 0 (by simp) rfl
    | sl _ _ b off cap arr el vs φ hb hcap hsz hc hr h0 hn => exact key _ _ hcap rfl
  · have hlt : j < xs.length := by omega
    cases hrep with
    | sh _ _ _ ht => simp [T.isSh] at ht
    | box _ cs ht => simp [T.box?] at ht
    | nil _ ad φ h0 hn => simp at hlt
    | sl _ _ b off cap arr el' vs0 φ hb hcap hszz hcc hr h0 hn =>
      rw [hsz] at hszz hul hsrc hshape
      have hcc' : ∀ i j t, cellOf (rows .own e xs) i j = some t → arr[off + (i * ei.size + j)]? = some (vs0 i j) := fun i j t e' => by rw [← hsz]; exact hcc i j t e'
      have m0 : xs.length * ei.size ≤ (cap + 1) * ei.size := Nat.mul_le_mul_right _ hcap
      have hfit : off + xs.length * ei.size ≤ arr.toList.length := by simp; omega
      have hrows := seg_rows hsz hfit hcc' hr hn
      have hblk : Blk w b el' arr.toList := by unfold Blk; rw [hb]
      have hbS : ∀ f, ¬ s.S f b := (hown [] _ b h0 rfl).2.1
      have hbw : b < w.heap.size := hown' [] _ b h0 rfl
      have hHolds : ∀ b', (b' = b ∨ b' = w.heap.size) → Holds' c.P w b' ei.size (.slice av ys.length cv) ys.length us := by
        intro b' hb'
        refine ⟨hul, hrowsY.one, fun w1 hw1 => ?_⟩
        have hsr := hsrc w1 (fun f b2 hS => hw1 b2 (hslt f b2 hS) (fun e => by
          rcases hb' with hb' | hb'
          · exact hbS f (by rw [← hb', ← e]; exact hS)
          · have := hslt f b2 hS; omega))
        exact ⟨hsr.len, hsr.cells w1.drawn⟩
      by_cases hroom : xs.length + ys.length ≤ cap + 1
      · -- in place
        obtain ⟨t1, t2, t3, w2, w3, t4, t5, L', t6, t7, t8⟩ := shift_steps (P := c.P) hi hd hei hlt hm0 hroom hblk (by simpa using hszz) hrows.one (hHolds b (.inl rfl))
        obtain ⟨b2, o2, hav, ⟨f2, hf2⟩, tA, kA, hsh, hk0⟩ := hshape hm0 hs0
        subst hav
        have hne : b2 ≠ b := fun e => hbS f2 (e ▸ hf2)
        have hov := run_apart (P := c.P) (w := w) (tR := tb) hi hd hei (a := ⟨b2, o2, none⟩) (b := ⟨b, off + (j + ys.length) * ei.size, none⟩) (la := ys.length) (ca := cv) (lb := xs.length + ys.length - (j + ys.length)) (cb := cap + 1 - (j + ys.length)) hne hsh hk0 hblk
        refine (h.shift w w2 w3 _ _ _ b off xs.length (cap + 1) j ys.length cv _ _ _ _ hlt hcap hm0 hroom hbig1 (t1 w) t2 t3 (by rw [h.over, hov]; rfl) t4 t5).mono (fun ex w' he => ?_)
        obtain ⟨rfl, rfl⟩ := he
        obtain ⟨ψ', hl⟩ := ins_left (w' := w') (b' := b) (off' := off) (cap' := cap) (j := j) hsz (Nat.le_of_lt hlt) hfit hrows hrowsY' hul h0 rfl hinj (fun q y b e1 e2 => ⟨(hown q y b e1 e2).1, hown' q y b e1 e2⟩) hSlt t7.heap (by rw [t6]; simpa using hszz) hroom t8
          (fun k _ hk => t7.other k hk) (.inl rfl) (by rw [t7.size]; exact hbw) (by rw [t7.size]; exact Nat.le_refl _) t7.os t7.tape t7.output
        exact ⟨_, ψ', rfl, hl⟩
      · -- in a new block
        obtain ⟨newCap, w1, t0, t1, t2, t3, t4, t5, w2, w3, t6, t7, L', t8, t9, t10, t11, t12, t13, t14, t15⟩ := grow_steps (P := c.P) hxu hi hd hei hzl hs0 hby hlt hm0 hcap (by omega) hbig hblk (by simpa using hszz) hrows.one hbw (fun b' hb' => hHolds b' (.inr hb'))
        refine (h.grow w w1 w2 w3 av _ _ _ _ b off xs.length (cap + 1) j ys.length cv _ _ _ _ _ _ _ _ newCap w.heap.size hlt hcap hm0 (by omega) hbig1 t1 t2 t3 t4 t5 t6 t7).mono (fun ex w' he => ?_)
        obtain ⟨rfl, rfl⟩ := he
        obtain ⟨cc, rfl⟩ : ∃ cc, newCap = cc + 1 := ⟨newCap - 1, by omega⟩
        obtain ⟨ψ', hl⟩ := ins_left (w' := w') (b' := w.heap.size) (off' := 0) (cap' := cc) (j := j) hsz (Nat.le_of_lt hlt) hfit hrows hrowsY' hul h0 rfl hinj (fun q y b e1 e2 => ⟨(hown q y b e1 e2).1, hown' q y b e1 e2⟩) hSlt t9 (by rw [t8, Nat.zero_add]; exact Nat.le_refl _) t0
          (fun k hk => by rw [Nat.zero_add]; exact t15 k hk) (fun k hk _ => t11 k hk) (.inr (Nat.le_refl _)) (by rw [t10]; omega) (by rw [t10]; omega) t12 t13 t14
        exact ⟨_, ψ', rfl, hl⟩
end
end Go.V
/-! For walks through functions that delete and insert. -/
namespace Go.V
open Go.RowKit
theorem wpList_val {P : Program} {ops : Array Oper} {Q : Exit → Act → World → Prop} {o : Oper} {l : List Oper} {a : Act} {w w' : World} {v : Value} (hg : o.guard = none) (hr : (execOp a.eval o).run P w = .ok (.value v) w') (h : wpList P ops Q l (a.put o.dst v) w') :
    wpList P ops Q (o :: l) a w := by
  refine wpList_plain hg (fun K hK => ?_)
  unfold Oper.wp
  rw [hr]
  exact hK _ _ h
theorem add_guard {P : Program} {w : World} {op : BinOp} {t : TypeId} {x y : Operand} {a : Int} {b : Value} : (eqGuard op t x y (.int .i64 a) b).run P w = .ok () w := eqGuard_scal nofun nofun
theorem add_run {P : Program} {w : World} {t : TypeId} {a b : Int} : (binOp .add t (.int .i64 a) (.int .i64 b)).run P w = .ok (.int .i64 (IntKind.i64.wrap (a + b))) w := by
  simp [binOp, Op.intArith]
end Go.V
