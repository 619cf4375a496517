/- Drawn regions, the machine's side: what comes up in whatever order first, and in one order then. -/
import Derived.Test.YtmcaghldcabnnaaRvTwentyNine
namespace Go.V
open Go.RowKit

def depE : List Edge → List Nat
  | [] => []
  | e :: l => match Region.binds .any e with
    | true => e.on :: depE l
    | false => depE l

theorem depE_mem {l : List Edge} {k : Nat} : k ∈ depE l ↔ ∃ e ∈ l, Region.binds .any e = true ∧ e.on = k := by
  induction l with
  | nil => simp [depE]
  | cons e l ih =>
    unfold depE
    cases h : Region.binds .any e with
    | true =>
      simp only [List.mem_cons, ih]
      constructor
      · rintro (rfl | ⟨e', h1, h2⟩)
        · exact ⟨e, .inl rfl, h, rfl⟩
        · exact ⟨e', .inr h1, h2⟩
      · rintro ⟨e', h1 | h1, h2, h3⟩
        · subst h1; exact .inl h3.symm
        · exact .inr ⟨e', h1, h2, h3⟩
    | false =>
      simp only [List.mem_cons, ih]
      constructor
      · rintro ⟨e', h1, h2⟩; exact ⟨e', .inr h1, h2⟩
      · rintro ⟨e', h1 | h1, h2, h3⟩
        · subst h1; rw [h] at h2; cases h2
        · exact ⟨e', h1, h2, h3⟩

def deps (ops : Array Oper) (j : Nat) : List Nat := match nth ops.toList j with
  | some o => depE o.after.toList
  | none => []

theorem deps_mem {ops : Array Oper} {j k : Nat} : k ∈ deps ops j ↔ ∃ o, ops[j]? = some o ∧ ∃ e ∈ o.after, Region.binds .any e = true ∧ e.on = k := by
  unfold deps
  rw [nth_eq, Array.getElem?_toList]
  cases ops[j]? with
  | none => simp
  | some o => simp [depE_mem]

/-- Number i comes up before number j. -/
def before (ops : Array Oper) : Nat → Nat → Nat → Bool
  | 0, _, _ => false
  | n + 1, j, i => match mem (deps ops j) i with
    | true => true
    | false => anyL (fun k => before ops n k i) (deps ops j)

/-- What has come up: with each, all that it waits for. -/
def Closed (ops : Array Oper) (listed : Array Bool) : Prop := ∀ (j : Nat) , listed.getD j false = true → ∀ k ∈ deps ops j, listed.getD k false = true

section
variable {P : Program} {ops : Array Oper} {Q : Exit → Act → World → Prop} {m : Nat}

theorem before_listed : ∀ (n : Nat) {listed : Array Bool} {j i : Nat}, Closed ops listed → (∀ k ∈ deps ops j, listed.getD k false = true) → before ops n j i = true → listed.getD i false = true := by
  intro n
  induction n with
  | zero => intro listed j i _ _ h; simp [before] at h
  | succ n ih =>
    intro listed j i hc hj h
    unfold before at h
    split at h
    · rename_i hm; exact hj i ((mem_iff _ _).1 hm)
    · obtain ⟨k, hk, h⟩ := (anyL_iff _ _).1 h
      exact ih hc (hc k (hj k hk)) h

theorem ready_deps {j : Nat} {listed : Array Bool} (h : j ∈ Region.ready .any ops listed) : ∀ k ∈ deps ops j, listed.getD k false = true := by
  obtain ⟨-, o, ho, hall⟩ := mem_ready.1 h
  intro k hk
  obtain ⟨o', ho', e, he, hb, rfl⟩ := deps_mem.1 hk
  rw [ho, Option.some.injEq] at ho'
  subst ho'
  exact hall e he hb

theorem Closed.set {listed : Array Bool} (hc : Closed ops listed) {j : Nat} (h : j ∈ Region.ready .any ops listed) : Closed ops (listed.setIfInBounds j true) := by
  intro i hi k hk
  by_cases e : i = j
  · subst e; exact getD_set_true (ready_deps h k hk)
  · rw [getD_set_ne false (fun e' => e e'.symm)] at hi
    exact getD_set_true (hc i hi k hk)

theorem getD_tf {listed : Array Bool} {j : Nat} (h : j < listed.size) (d : Bool) : listed.getD j d = listed.getD j false := by
  simp [h]

theorem ready_of {j : Nat} {listed : Array Bool} (hs : listed.size = ops.size) (hj : j < ops.size) (hu : listed.getD j false = false) (hd : ∀ k ∈ deps ops j, listed.getD k false = true) : j ∈ Region.ready .any ops listed := by
  refine mem_ready.2 ⟨by rw [getD_tf (by omega)]; exact hu, ops[j], Array.getElem?_eq_getElem hj, fun e he hb => hd _ (deps_mem.2 ⟨_, Array.getElem?_eq_getElem hj, e, he, hb, rfl⟩)⟩

theorem ready_un {j : Nat} {listed : Array Bool} (hs : listed.size = ops.size) (h : j ∈ Region.ready .any ops listed) : j < ops.size ∧ listed.getD j false = false := by
  obtain ⟨h1, o, ho, -⟩ := mem_ready.1 h
  have hlt := (Array.getElem?_eq_some_iff.1 ho).1
  exact ⟨hlt, by rw [← getD_tf (by omega) true]; exact h1⟩

/-- How many have not come up. -/
def unl : Nat → Array Bool → Nat
  | 0, _ => 0
  | k + 1, l => unl k l + (if l.getD k false = true then 0 else 1)

theorem unl_set {l : Array Bool} {i : Nat} (hi : i < l.size) (hu : l.getD i false = false) : ∀ k, unl k (l.setIfInBounds i true) + (if i < k then 1 else 0) = unl k l
  | 0 => by simp [unl]
  | k + 1 => by
    have ih := unl_set hi hu k
    simp only [unl]
    by_cases e : k = i
    · subst e
      have h1 : (l.setIfInBounds k true).getD k false = true := by simp [hi]
      rw [h1, hu]
      simp at ih ⊢
      omega
    · rw [getD_set_ne false (fun e' => e e'.symm)]
      have hne : k ≠ i := e
      by_cases hlt : i < k
      · have hlt' : i < k + 1 := Nat.lt_succ_of_lt hlt
        simp only [if_pos hlt] at ih; simp only [if_pos hlt']; omega
      · have hlt' : ¬ i < k + 1 := fun h => hlt (Nat.lt_of_le_of_ne (Nat.le_of_lt_succ h) (Ne.symm hne))
        simp only [if_neg hlt] at ih; simp only [if_neg hlt']; omega

theorem unl_split {l : Array Bool} (h1 : ∀ j, j < m → l.getD j false = true) (h2 : ∀ j, m ≤ j → l.getD j false = false) : ∀ k, unl k l = k - m
  | 0 => by simp [unl]
  | k + 1 => by
    simp only [unl, unl_split h1 h2 k]
    by_cases e : k < m
    · rw [h1 k e]; simp; omega
    · rw [h2 k (by omega)]; simp; omega

theorem unl_zero {l : Array Bool} : ∀ {k : Nat}, unl k l = 0 → ∀ j, j < k → l.getD j false = true
  | 0, _, j, hj => by omega
  | k + 1, h, j, hj => by
    simp only [unl] at h
    by_cases e : j = k
    · subst e
      cases hh : l.getD j false with
      | true => rfl
      | false => rw [hh] at h; simp at h
    · exact unl_zero (k := k) (by omega) j (by omega)

theorem any_tail {J : Nat → Act → World → Prop} (hdep : ∀ j k, k ∈ deps ops j → k < j) (hseq : ∀ j, m ≤ j → j < ops.size → ∀ k, k < j → ∃ n, before ops n j k = true)
    (hJ : ∀ t a w, m ≤ t → t < ops.size → J t a w → wpOp P ops Q t (fun a' w' => J (t + 1) a' w') a w) (hQ : ∀ a w, J ops.size a w → Q .normal a w) :
    ∀ (n t : Nat) (listed : Array Bool) (a : Act) (w : World), m ≤ t → t ≤ ops.size → Closed ops listed → (∀ j, j < t → listed.getD j false = true) → (∀ j, t ≤ j → listed.getD j false = false) → listed.size = ops.size →
      ops.size ≤ n + t → J t a w → wpAny P .any ops Q n listed a w := by
  intro n
  induction n with
  | zero =>
    intro t listed a w hm ht hc h1 h2 hs hn hj
    have : t = ops.size := by omega
    subst this
    refine ⟨?_, hQ a w hj⟩
    cases hr : Region.ready .any ops listed with
    | nil => rfl
    | cons i l =>
      obtain ⟨g1, g2⟩ := ready_un hs (by rw [hr]; exact List.mem_cons_self : i ∈ Region.ready .any ops listed)
      rw [h1 i g1] at g2; cases g2
  | succ n ih =>
    intro t listed a w hm ht hc h1 h2 hs hn hj
    refine ⟨fun hr => ?_, fun i hi => ?_⟩
    · by_cases e : t = ops.size
      · subst e; exact hQ a w hj
      · have := ready_of (j := t) hs (by omega) (h2 t (Nat.le_refl _)) (fun k hk => h1 k (hdep t k hk))
        rw [hr] at this; cases this
    · obtain ⟨g1, g2⟩ := ready_un hs hi
      have hit : i = t := by
        rcases Nat.lt_trichotomy i t with h | h | h
        · rw [h1 i h] at g2; cases g2
        · exact h
        · obtain ⟨k, hk⟩ := hseq i (by omega) g1 t h
          have := before_listed k hc (ready_deps hi) hk
          rw [h2 t (Nat.le_refl _)] at this; cases this
      subst hit
      refine wpOp_mono (fun a' w' hj' => ih (i + 1) _ a' w' (by omega) (by omega) (hc.set hi) (fun j hj2 => ?_) (fun j hj2 => ?_) (by simpa using hs) (by omega) hj') (hJ i a w hm g1 hj)
      · by_cases e : j = i
        · subst e; simp [show j < listed.size by omega]
        · exact getD_set_true (h1 j (by omega))
      · rw [getD_set_ne false (by omega)]; exact h2 j (by omega)

/-- The first m in whatever order, the others one behind the other. -/
theorem any_two {I : Array Bool → Act → World → Prop} {J : Nat → Act → World → Prop} (hmo : m ≤ ops.size) (hdep : ∀ j k, k ∈ deps ops j → k < j) (hseq : ∀ j, m ≤ j → j < ops.size → ∀ k, k < j → ∃ n, before ops n j k = true)
    (hI : ∀ listed a w i, I listed a w → Closed ops listed → i ∈ Region.ready .any ops listed → i < m → wpOp P ops Q i (fun a' w' => I (listed.setIfInBounds i true) a' w') a w)
    (hIJ : ∀ listed a w, I listed a w → (∀ j, j < m → listed.getD j false = true) → J m a w)
    (hJ : ∀ t a w, m ≤ t → t < ops.size → J t a w → wpOp P ops Q t (fun a' w' => J (t + 1) a' w') a w) (hQ : ∀ a w, J ops.size a w → Q .normal a w) :
    ∀ (n : Nat) (listed : Array Bool) (a : Act) (w : World), Closed ops listed → (∀ j, m ≤ j → listed.getD j false = false) → listed.size = ops.size → unl ops.size listed ≤ n → I listed a w → wpAny P .any ops Q n listed a w := by
  intro n
  induction n with
  | zero =>
    intro listed a w hc h2 hs hn hi
    have hall := unl_zero (l := listed) (k := ops.size) (by omega)
    exact any_tail hdep hseq hJ hQ 0 m listed a w (Nat.le_refl _) hmo hc (fun j hj => hall j (by omega)) h2 hs (by
      have := unl_split (fun j hj => hall j (by omega)) h2 ops.size; omega) (hIJ listed a w hi (fun j hj => hall j (by omega)))
  | succ n ih =>
    intro listed a w hc h2 hs hn hi
    by_cases hall : ∀ j, j < m → listed.getD j false = true
    · exact any_tail hdep hseq hJ hQ (n + 1) m listed a w (Nat.le_refl _) hmo hc hall h2 hs (by
        have := unl_split hall h2 ops.size; omega) (hIJ listed a w hi hall)
    · have hex : ∃ j, j < m ∧ listed.getD j false = false ∧ ∀ k, k < j → listed.getD k false = true := by
        have key : ∀ b, (∀ k, k < b → listed.getD k false = true) ∨ ∃ j, j < b ∧ listed.getD j false = false ∧ ∀ k, k < j → listed.getD k false = true := by
          intro b
          induction b with
          | zero => exact .inl (fun k hk => by omega)
          | succ b ihb =>
            rcases ihb with h | ⟨j, hj, h⟩
            · cases hb : listed.getD b false with
              | true => exact .inl (fun k hk => by
                  by_cases e : k = b
                  · subst e; exact hb
                  · exact h k (by omega))
              | false => exact .inr ⟨b, by omega, hb, h⟩
            · exact .inr ⟨j, by omega, h⟩
        rcases key m with h | h
        · exact absurd h hall
        · exact h
      obtain ⟨j0, hj0, hu0, hlt0⟩ := hex
      have hr0 := ready_of (j := j0) hs (by omega) hu0 (fun k hk => hlt0 k (hdep j0 k hk))
      refine ⟨fun hr => (by rw [hr] at hr0; cases hr0), fun i hii => ?_⟩
      obtain ⟨g1, g2⟩ := ready_un hs hii
      have him : i < m := by
        refine Nat.lt_of_not_le fun hge => ?_
        obtain ⟨k, hk⟩ := hseq i hge g1 j0 (by omega)
        have := before_listed k hc (ready_deps hii) hk
        rw [hu0] at this; cases this
      refine wpOp_mono (fun a' w' hi' => ih _ a' w' (hc.set hii) (fun j hj => ?_) (by simpa using hs) ?_ hi') (hI listed a w i hi hc hii him)
      · rw [getD_set_ne false (by omega)]; exact h2 j hj
      · have := unl_set (l := listed) (i := i) (by omega) g2 ops.size
        rw [if_pos g1] at this
        omega

end
end Go.V
