/- A part of the code, run for itself: what it leaves alone stays as it was. -/
import Derived.Test.YtmcaghldcabnnaaRvThirty
namespace Go.V
open Go.RowKit

variable {α : Type}

def atsIn (l : List Nat) (d : D) : Bool := allB (fun rp => mem l rp.1) d.ats

theorem atsIn_spec {l : List Nat} {d : D} (h : atsIn l d = true) : ∀ rp ∈ d.ats, rp.1 ∈ l := fun rp hrp => (mem_iff _ _).1 ((allB_iff _ _).1 h rp hrp)

/-- Kept temporaries: what they held. -/
def keepE (kr : List Nat) (env : List (Nat × D)) : List Nat → List (Nat × D)
  | [] => []
  | k :: kt => match look env k with
    | some d => match atsIn kr d with
      | true => (k, d) :: keepE kr env kt
      | false => keepE kr env kt
    | none => keepE kr env kt

theorem keepE_some {kr : List Nat} {env : List (Nat × D)} : ∀ {kt : List Nat} {k : Nat} {d : D}, look (keepE kr env kt) k = some d → k ∈ kt ∧ look env k = some d ∧ atsIn kr d = true
  | [], k, d, h => by cases h
  | k0 :: kt, k, d, h => by
    unfold keepE at h
    split at h
    · rename_i d0 hd0
      split at h
      · rename_i ha
        rw [look_cons] at h
        by_cases e : k = k0
        · rw [if_pos e, Option.some.injEq] at h
          subst e h
          exact ⟨List.mem_cons_self, hd0, ha⟩
        · rw [if_neg e] at h
          have := keepE_some h
          exact ⟨List.mem_cons_of_mem _ this.1, this.2⟩
      · have := keepE_some h
        exact ⟨List.mem_cons_of_mem _ this.1, this.2⟩
    · have := keepE_some h
      exact ⟨List.mem_cons_of_mem _ this.1, this.2⟩

def keepR (roots : List (Nat × List T)) : List Nat → List (Nat × List T)
  | [] => []
  | k :: kr => match look roots k with
    | some r => (k, r) :: keepR roots kr
    | none => keepR roots kr

theorem keepR_some {roots : List (Nat × List T)} : ∀ {kr : List Nat} {k : Nat} {r : List T}, look (keepR roots kr) k = some r → k ∈ kr ∧ look roots k = some r
  | [], k, r, h => by cases h
  | k0 :: kr, k, r, h => by
    unfold keepR at h
    split at h
    · rename_i r0 hr0
      rw [look_cons] at h
      by_cases e : k = k0
      · rw [if_pos e, Option.some.injEq] at h
        subst e h
        exact ⟨List.mem_cons_self, hr0⟩
      · rw [if_neg e] at h
        have := keepR_some h
        exact ⟨List.mem_cons_of_mem _ this.1, this.2⟩
    · have := keepR_some h
      exact ⟨List.mem_cons_of_mem _ this.1, this.2⟩

def lockAll : List Nat → List (Nat × List Nat) → List (Nat × List Nat)
  | [], l => l
  | r :: rs, l => (r, []) :: lockAll rs l

theorem lockAll_mem {rs : List Nat} {l : List (Nat × List Nat)} {e : Nat × List Nat} : e ∈ lockAll rs l ↔ (e.2 = [] ∧ e.1 ∈ rs) ∨ e ∈ l := by
  induction rs with
  | nil => simp [lockAll]
  | cons r rs ih =>
    simp only [lockAll, List.mem_cons, ih]
    constructor
    · rintro (rfl | h | h)
      · exact .inl ⟨rfl, .inl rfl⟩
      · exact .inl ⟨h.1, .inr h.2⟩
      · exact .inr h
    · rintro (⟨h1, rfl | h2⟩ | h)
      · obtain ⟨e1, e2⟩ := e; simp only at h1; subst h1; exact .inl rfl
      · exact .inr (.inl ⟨h1, h2⟩)
      · exact .inr (.inr h)

/-- With some roots and temporaries held fast. -/
def X.enter (x : X) (kt kr : List Nat) : X := { x with lock := lockAll kr x.lock, pin := app kt x.pin }

def dirtAll (kr : List Nat) : List Nat → List (Nat × List Nat) → List (Nat × List Nat)
  | [], l => l
  | r :: mu, l => match mem kr r with
    | true => dirtAll kr mu l
    | false => (r, []) :: dirtAll kr mu l

theorem dirtAll_mem {kr : List Nat} {l : List (Nat × List Nat)} : ∀ {mu : List Nat}, (∀ r ∈ mu, r ∉ kr → (r, []) ∈ dirtAll kr mu l) ∧ ∀ e ∈ l, e ∈ dirtAll kr mu l
  | [] => ⟨fun r h => by simp at h, fun e h => h⟩
  | r0 :: mu => by
    obtain ⟨h1, h2⟩ := dirtAll_mem (kr := kr) (l := l) (mu := mu)
    unfold dirtAll
    split
    · rename_i hm
      refine ⟨fun r hr hn => ?_, h2⟩
      rcases List.mem_cons.1 hr with rfl | hr
      · exact absurd ((mem_iff _ _).1 hm) hn
      · exact h1 r hr hn
    · refine ⟨fun r hr hn => ?_, fun e he => List.mem_cons_of_mem _ (h2 e he)⟩
      rcases List.mem_cons.1 hr with rfl | hr
      · exact List.mem_cons_self
      · exact List.mem_cons_of_mem _ (h1 r hr hn)

/-- What is left of a part's end: the slots, and what was kept. -/
def X.leave (x : X) (mu kt kr : List Nat) (E : List (Nat × D)) (R : List (Nat × List T)) : X :=
  { env := app E (keepE kr x.env kt), roots := app R (keepR x.roots kr), lock := x.lock, pin := x.pin, dirt := dirtAll kr mu x.dirt }

section
variable {c : Ctx} {B : Base} {s : Sit} {x : X} {a : Act} {w : World}

/-- The frame of a part. -/
def Base.inner (B : Base) (s : Sit) (x : X) (a : Act) (w : World) : Base where
  nt := B.nt
  out := B.out
  w0 := w
  O0 := fun b => ∃ r p y, s.Φ r p = some y ∧ blkOf y = some b
  R0 := s.S .ro
  B0 := s.S .bo
  G := B.G
  F := B.F
  muts := []
  Φ0 := s.Φ
  LC := fun r d => x.at r (zp d)
  LΦ := fun r d => (s.Φ r).under (zp d)
  PV := fun k => (B.tv a k).getD .nilIface

theorem RelW.enter (h : RelW B s x a w) {kt kr : List Nat} (hk : allB (fun k => isSomeB (look x.env k)) kt = true) : RelW (B.inner s x a w) s (x.enter kt kr) a w where
  defers := h.defers
  size := h.size
  env := h.env
  roots := h.roots
  rootn := h.rootn
  inj := h.inj
  own := fun r p y b e1 e2 => by
    have := h.own r p y b e1 e2
    exact ⟨this.1, this.2.1, .inl ⟨r, p, y, e1, e2⟩⟩
  slt := h.slt
  sown := h.sown
  sro := fun b hb => hb
  srn := fun b hb => .inl hb
  sbo := fun b hb => hb
  srb := h.srb
  sbn := fun b hb => .inl hb
  F := h.F
  os := rfl
  tape := rfl
  output := rfl
  grow := Nat.le_refl _
  kept := fun _ _ _ => rfl
  glob := h.glob
  pins := fun k hk' => by
    simp only [X.enter, app_eq, List.mem_append] at hk'
    have : ∃ v, B.tv a k = some v := by
      rcases hk' with hk' | hk'
      · have := (allB_iff _ _).1 hk k hk'
        unfold isSomeB at this
        split at this
        · rename_i d hd
          obtain ⟨v, h1, _⟩ := h.env k d hd
          exact ⟨v, h1⟩
        · cases this
      · exact ⟨_, h.pins k hk'⟩
    obtain ⟨v, hv⟩ := this
    show B.tv a k = some ((B.tv a k).getD .nilIface)
    rw [hv]; rfl
  locks := fun r d _ => ⟨rfl, rfl⟩
  dirt := fun r hr => by simp [Base.inner] at hr

theorem RelW.leave (h : RelW B s x a w) {mu kt kr : List Nat} (hmu : B.muts = mu) {s2 : Sit} {x2 : X} {a2 : Act} {w2 : World} (h2 : RelW (B.inner s x a w) s2 x2 a2 w2)
    (hlk : ∀ r ∈ kr, (r, []) ∈ x2.lock) (hpn : ∀ k ∈ kt, k ∈ x2.pin) (hlo : ∀ e ∈ x.lock, e ∈ x2.lock) (hpo : ∀ k ∈ x.pin, k ∈ x2.pin)
    {E : List (Nat × D)} {R : List (Nat × List T)} (hE : ∀ k d, look E k = some d → look x2.env k = some d ∧ ∀ rp ∈ d.ats, (look R rp.1).isSome = true ∨ rp.1 ∈ kr)
    (hR : ∀ k r, look R k = some r → look x2.roots k = some r ∧ k ∉ kr) (hx : ∀ e ∈ x.lock, (look R e.1).isSome = true ∨ e.1 ∈ kr) :
    ∃ s', RelW B s' (x.leave mu kt kr E R) a2 w2 ∧ RelW (B.inner s x a w) s' ((x.leave mu kt kr E R).enter kt kr) a2 w2 := by
  have hSS : ∀ f b, s.S f b → s2.S f b := by
    intro f b hS
    cases f with
    | own => exact absurd hS (h.sown b)
    | ro => exact h2.sro b hS
    | bo => exact h2.sbo b hS
  have hwS : ∀ f b, s.S f b → w2.heap[b]? = w.heap[b]? := by
    intro f b hS
    refine h2.kept b (h.slt f b hS) (fun hO => ?_)
    obtain ⟨r, p, y, e1, e2⟩ := hO
    exact (h.own r p y b e1 e2).1 f hS
  have hKR : ∀ r ∈ kr, x2.at r [] = x.at r [] ∧ s2.Φ r = s.Φ r := by
    intro r hr
    obtain ⟨e1, e2⟩ := h2.locks r [] (hlk r hr)
    exact ⟨e1, by funext p; have := congrFun e2 p; simpa [Lay.under, zp, Base.inner] using this⟩
  have hrow : ∀ r ∈ kr, ∀ row, look x.roots r = some row → look x2.roots r = some row := by
    intro r hr row hrow
    have := (hKR r hr).1
    simp only [X.at, hrow, Option.bind_some, getT] at this
    cases h3 : look x2.roots r with
    | none => rw [h3] at this; cases this
    | some row2 =>
      rw [h3, Option.bind_some, Option.some.injEq, T.vr.injEq] at this
      rw [this]
  let nm : Nat → Prop := fun r => (look (x.leave mu kt kr E R).roots r).isSome = true
  let s' : Sit := { s2 with Φ := fun r => if (look (x.leave mu kt kr E R).roots r).isSome = true then s2.Φ r else noLay }
  have hΦsub : ∀ r p z, s'.Φ r p = some z → s2.Φ r p = some z := by
    intro r p z hz
    simp only [s'] at hz
    split at hz
    · exact hz
    · cases hz
  have hΦin : ∀ r, nm r → s'.Φ r = s2.Φ r := fun r hr => by simp only [s']; rw [if_pos hr]
  have hroots : ∀ r row, look (x.leave mu kt kr E R).roots r = some row → look x2.roots r = some row := by
    intro r row hr
    simp only [X.leave, look_app] at hr
    split at hr
    · rename_i row' hr'
      simp only [Option.some.injEq] at hr
      subst hr
      exact (hR r _ hr').1
    · obtain ⟨e1, e2⟩ := keepR_some hr
      exact hrow r e1 row e2
  have hnmR : ∀ r, (look R r).isSome = true → nm r := by
    intro r hr
    simp only [nm, X.leave, look_app]
    cases h3 : look R r with
    | none => rw [h3] at hr; cases hr
    | some => rfl
  have keepR_in : ∀ {kr' : List Nat} {r : Nat} {row : List T}, r ∈ kr' → look x.roots r = some row → (look (keepR x.roots kr') r).isSome = true := by
    intro kr'
    induction kr' with
    | nil => intro r row hr; simp at hr
    | cons k0 kr' ih =>
      intro r row hr hrow
      unfold keepR
      rcases List.mem_cons.1 hr with rfl | hr
      · rw [hrow]; simp [look_cons]
      · split
        · rw [look_cons]
          split
          · rfl
          · exact ih hr hrow
        · exact ih hr hrow
  have hnmK : ∀ r ∈ kr, nm r ∨ s2.Φ r = noLay := by
    intro r hr
    cases h3 : look x.roots r with
    | none => exact .inr (by rw [(hKR r hr).2]; exact h.rootn r h3)
    | some row =>
      refine .inl ?_
      simp only [nm, X.leave, look_app]
      cases h4 : look R r with
      | some => rfl
      | none => exact keepR_in hr h3
  have hΦK : ∀ r ∈ kr, s'.Φ r = s.Φ r := by
    intro r hr
    rcases hnmK r hr with h3 | h3
    · rw [hΦin r h3]; exact (hKR r hr).2
    · have e : s.Φ r = noLay := by rw [← (hKR r hr).2]; exact h3
      rw [e]
      simp only [s']
      split
      · exact h3
      · rfl
  have hlook : ∀ r, ((look R r).isSome = true ∨ r ∈ kr) → look (x.leave mu kt kr E R).roots r = look x2.roots r ∧ s'.Φ r = s2.Φ r := by
    intro r hcase
    rcases hcase with hc | hc
    · refine ⟨?_, hΦin r (hnmR r hc)⟩
      cases h5 : look R r with
      | none => rw [h5] at hc; cases hc
      | some row =>
        rw [(hR r row h5).1]
        simp only [X.leave, look_app, h5]
    · refine ⟨?_, by rw [hΦK r hc, (hKR r hc).2]⟩
      cases h5 : look x.roots r with
      | none =>
        have h6 : look x2.roots r = none := by
          have := (hKR r hc).1
          simp only [X.at, h5, Option.bind_none] at this
          cases h7 : look x2.roots r with
          | none => rfl
          | some row => rw [h7, Option.bind_some, getT] at this; cases this
        rw [h6]
        cases h7 : look (x.leave mu kt kr E R).roots r with
        | none => rfl
        | some row => have := hroots r row h7; rw [h6] at this; cases this
      | some row =>
        have h6 := hrow r hc row h5
        rw [h6]
        cases h7 : look (x.leave mu kt kr E R).roots r with
        | none =>
          simp only [X.leave, look_app] at h7
          cases h9 : look R r with
          | some row' => rw [h9] at h7; cases h7
          | none =>
            rw [h9] at h7
            change look (keepR x.roots kr) r = none at h7
            have := keepR_in hc h5
            rw [h7] at this; cases this
        | some row' => have := hroots r row' h7; rw [h6] at this; exact this.symm
  have hA : RelW B s' (x.leave mu kt kr E R) a2 w2 := {
    defers := h2.defers
    size := h2.size
    env := fun k d hd => by
      simp only [X.leave, look_app] at hd
      split at hd
      · rename_i d' hd'
        simp only [Option.some.injEq] at hd
        subst hd
        obtain ⟨e1, e2⟩ := hE k _ hd'
        obtain ⟨v, g1, g2⟩ := h2.env k _ e1
        refine ⟨v, g1, g2.mono (fun _ _ _ => rfl) (fun _ _ h => h) rfl (fun rp hrp => ?_)⟩
        rcases e2 rp hrp with e3 | e3
        · rw [hΦin _ (hnmR _ e3)]
        · rw [hΦK _ e3, ← (hKR _ e3).2]
      · obtain ⟨e1, e2, e3⟩ := keepE_some hd
        obtain ⟨v, g1, g2⟩ := h.env k d e2
        have hp : B.tv a2 k = some ((B.tv a k).getD .nilIface) := h2.pins k (hpn k e1)
        rw [g1, Option.getD_some] at hp
        exact ⟨v, hp, g2.mono hwS hSS (h2.F.trans h.F.symm) (fun rp hrp => by rw [hΦK _ (atsIn_spec e3 rp hrp)])⟩
    roots := fun r row hr => by
      obtain ⟨y, hy⟩ := h2.roots r row (hroots r row hr)
      have : s'.Φ r = s2.Φ r := hΦin r (by simp only [nm, hr]; rfl)
      exact ⟨y, by rw [this]; exact hy⟩
    rootn := fun r hr => by simp only [s', hr]; rfl
    inj := fun r p y r' p' y' b e1 e2 e3 e4 => h2.inj _ _ _ _ _ _ _ (hΦsub _ _ _ e1) e2 (hΦsub _ _ _ e3) e4
    own := fun r p y b e1 e2 => by
      have := h2.own r p y b (hΦsub _ _ _ e1) e2
      refine ⟨this.1, this.2.1, ?_⟩
      rcases this.2.2 with ⟨r', p', y', e3, e4⟩ | hge
      · exact (h.own _ _ _ _ e3 e4).2.2
      · exact .inr (Nat.le_trans h.grow hge)
    slt := h2.slt
    sown := h2.sown
    sro := fun b hb => hSS .ro b (h.sro b hb)
    srn := fun b hb => by
      rcases h2.srn b hb with hb | ⟨r', p', y', e3, e4⟩ | hge
      · exact h.srn b hb
      · exact .inr (h.own _ _ _ _ e3 e4).2.2
      · exact .inr (.inr (Nat.le_trans h.grow hge))
    sbo := fun b hb => hSS .bo b (h.sbo b hb)
    srb := h2.srb
    sbn := fun b hb => by
      rcases h2.sbn b hb with hb | hb
      · exact (h.sbn b hb).imp id (hSS .ro b)
      · exact .inr hb
    F := h2.F
    os := h2.os.trans h.os
    tape := h2.tape.trans h.tape
    output := h2.output.trans h.output
    grow := Nat.le_trans h.grow h2.grow
    kept := fun b e1 e2 => by
      rw [h2.kept b (Nat.lt_of_lt_of_le e1 h.grow) (fun hO => by
        obtain ⟨r, p, y, e3, e4⟩ := hO
        rcases (h.own _ _ _ _ e3 e4).2.2 with e5 | e5
        · exact e2 e5
        · omega)]
      exact h.kept b e1 e2
    glob := h2.glob
    pins := fun k hk => by
      have hp : B.tv a2 k = some ((B.tv a k).getD .nilIface) := h2.pins k (hpo k hk)
      rw [h.pins k hk, Option.getD_some] at hp
      exact hp
    locks := fun r d hd => by
      obtain ⟨e1, e2⟩ := h2.locks r d (hlo _ hd)
      obtain ⟨e3, e4⟩ := h.locks r d hd
      have hl := hlook r (hx _ hd)
      refine ⟨?_, ?_⟩
      · rw [← e3]
        have : x2.at r (zp d) = x.at r (zp d) := e1
        rw [← this]
        simp only [X.at, hl.1]
      · rw [← e4, hl.2]; exact e2
    dirt := fun r hr p hp => by
      rw [hmu] at hr
      have hm := dirtAll_mem (kr := kr) (l := x.dirt) (mu := mu)
      by_cases hk : r ∈ kr
      · rw [hΦK r hk]
        exact h.dirt r (by rw [hmu]; exact hr) p (fun d hd => hp d (hm.2 _ hd))
      · have := hp [] (hm.1 r hr hk)
        simp [pre] at this }
  exact ⟨s', hA, {
    defers := hA.defers
    size := hA.size
    env := hA.env
    roots := hA.roots
    rootn := hA.rootn
    inj := hA.inj
    own := fun r p y b e1 e2 => h2.own r p y b (hΦsub _ _ _ e1) e2
    slt := hA.slt
    sown := hA.sown
    sro := h2.sro
    srn := h2.srn
    sbo := h2.sbo
    srb := hA.srb
    sbn := h2.sbn
    F := h2.F
    os := h2.os
    tape := h2.tape
    output := h2.output
    grow := h2.grow
    kept := h2.kept
    glob := hA.glob
    pins := fun k hk => by
      simp only [X.enter, app_eq, List.mem_append] at hk
      rcases hk with hk | hk
      · exact h2.pins k (hpn k hk)
      · exact h2.pins k (hpo k hk)
    locks := fun r d hd => by
      have hd' : (r, d) ∈ x2.lock ∧ ((look R r).isSome = true ∨ r ∈ kr) := by
        rcases lockAll_mem.1 hd with ⟨e1, e2⟩ | e1
        · simp only at e1 e2
          subst e1
          exact ⟨hlk r e2, .inr e2⟩
        · exact ⟨hlo _ e1, hx _ e1⟩
      obtain ⟨e1, e2⟩ := h2.locks r d hd'.1
      have hl := hlook r hd'.2
      refine ⟨?_, by rw [hl.2]; exact e2⟩
      rw [← e1]
      simp only [X.at, X.enter, hl.1]
    dirt := fun r hr => by simp [Base.inner] at hr }⟩

end
end Go.V
