/- A library of typed data in memory: A part of the code, run for itself: what it leaves alone stays as it was. What is carried out of a part of the code: shapes of states. Out of a part of the code, with slots. What a caller hands on. Calls of functions whose meaning is known. Calls that write through what they are handed: what is known of such a function. No conditions. -/
import Derived.Test.YtmiibfolfflbmaaDoorLibE
import Derived.Control
import Derived.Calls

/-! A part of the code, run for itself: what it leaves alone stays as it was. -/
namespace Go.V
open Go.RowKit

variable {α : Type}

def atsIn (l : List Nat) (d : D) : Bool := allB (fun rp => mem l rp.1) d.ats

theorem atsIn_spec {l : List Nat} {d : D} (h : atsIn l d = true) : ∀ rp ∈ d.ats, rp.1 ∈ l := fun rp hrp => (mem_iff _ _).1 ((allB_iff _ _).1 h rp hrp)

/-- Kept temporaries: what they held. -/
def keepE (kr : List Nat) (env : List (Nat × D)) : List Nat → List (Nat × D)
  | [] => []
  | k :: kt => match look env k with
    | some d => match atsIn kr d with
      | true => (k, d) :: keepE kr env kt
      | false => keepE kr env kt
    | none => keepE kr env kt

theorem keepE_some {kr : List Nat} {env : List (Nat × D)} : ∀ {kt : List Nat} {k : Nat} {d : D}, look (keepE kr env kt) k = some d → k ∈ kt ∧ look env k = some d ∧ atsIn kr d = true
  | [], k, d, h => by cases h
  | k0 :: kt, k, d, h => by
    unfold keepE at h
    split at h
    · rename_i d0 hd0
      split at h
      · rename_i ha
        rw [look_cons] at h
        by_cases e : k = k0
        · rw [if_pos e, Option.some.injEq] at h
          subst e h
          exact ⟨List.mem_cons_self, hd0, ha⟩
        · rw [if_neg e] at h
          have := keepE_some h
          exact ⟨List.mem_cons_of_mem _ this.1, this.2⟩
      · have := keepE_some h
        exact ⟨List.mem_cons_of_mem _ this.1, this.2⟩
    · have := keepE_some h
      exact ⟨List.mem_cons_of_mem _ this.1, this.2⟩

def keepR (roots : List (Nat × List T)) : List Nat → List (Nat × List T)
  | [] => []
  | k :: kr => match look roots k with
    | some r => (k, r) :: keepR roots kr
    | none => keepR roots kr

theorem keepR_some {roots : List (Nat × List T)} : ∀ {kr : List Nat} {k : Nat} {r : List T}, look (keepR roots kr) k = some r → k ∈ kr ∧ look roots k = some r
  | [], k, r, h => by cases h
  | k0 :: kr, k, r, h => by
    unfold keepR at h
    split at h
    · rename_i r0 hr0
      rw [look_cons] at h
      by_cases e : k = k0
      · rw [if_pos e, Option.some.injEq] at h
        subst e h
        exact ⟨List.mem_cons_self, hr0⟩
      · rw [if_neg e] at h
        have := keepR_some h
        exact ⟨List.mem_cons_of_mem _ this.1, this.2⟩
    · have := keepR_some h
      exact ⟨List.mem_cons_of_mem _ this.1, this.2⟩

def lockAll : List Nat → List (Nat × List Nat) → List (Nat × List Nat)
  | [], l => l
  | r :: rs, l => (r, []) :: lockAll rs l

theorem lockAll_mem {rs : List Nat} {l : List (Nat × List Nat)} {e : Nat × List Nat} : e ∈ lockAll rs l ↔ (e.2 = [] ∧ e.1 ∈ rs) ∨ e ∈ l := by
  induction rs with
  | nil => simp [lockAll]
  | cons r rs ih =>
    simp only [lockAll, List.mem_cons, ih]
    constructor
    · rintro (rfl | h | h)
      · exact .inl ⟨rfl, .inl rfl⟩
      · exact .inl ⟨h.1, .inr h.2⟩
      · exact .inr h
    · rintro (⟨h1, rfl | h2⟩ | h)
      · obtain ⟨e1, e2⟩ := e; simp only at h1; subst h1; exact .inl rfl
      · exact .inr (.inl ⟨h1, h2⟩)
      · exact .inr (.inr h)

/-- With some roots and temporaries held fast. -/
def X.enter (x : X) (kt kr : List Nat) : X := { x with lock := lockAll kr x.lock, pin := app kt x.pin }

def dirtAll (kr : List Nat) : List Nat → List (Nat × List Nat) → List (Nat × List Nat)
  | [], l => l
  | r :: mu, l => match mem kr r with
    | true => dirtAll kr mu l
    | false => (r, []) :: dirtAll kr mu l

theorem dirtAll_mem {kr : List Nat} {l : List (Nat × List Nat)} : ∀ {mu : List Nat}, (∀ r ∈ mu, r ∉ kr → (r, []) ∈ dirtAll kr mu l) ∧ ∀ e ∈ l, e ∈ dirtAll kr mu l
  | [] => ⟨fun r h => by simp at h, fun e h => h⟩
  | r0 :: mu => by
    obtain ⟨h1, h2⟩ := dirtAll_mem (kr := kr) (l := l) (mu := mu)
    unfold dirtAll
    split
    · rename_i hm
      refine ⟨fun r hr hn => ?_, h2⟩
      rcases List.mem_cons.1 hr with rfl | hr
      · exact absurd ((mem_iff _ _).1 hm) hn
      · exact h1 r hr hn
    · refine ⟨fun r hr hn => ?_, fun e he => List.mem_cons_of_mem _ (h2 e he)⟩
      rcases List.mem_cons.1 hr with rfl | hr
      · exact List.mem_cons_self
      · exact List.mem_cons_of_mem _ (h1 r hr hn)

/-- What is left of a part's end: the slots, and what was kept. -/
def X.leave (x : X) (mu kt kr : List Nat) (E : List (Nat × D)) (R : List (Nat × List T)) : X :=
  { env := app E (keepE kr x.env kt), roots := app R (keepR x.roots kr), lock := x.lock, pin := x.pin, dirt := dirtAll kr mu x.dirt }

section
variable {c : Ctx} {B : Base} {s : Sit} {x : X} {a : Act} {w : World}

/-- The frame of a part. -/
def Base.inner (B : Base) (s : Sit) (x : X) (a : Act) (w : World) : Base where
  nt := B.nt
  out := B.out
  w0 := w
  O0 := fun b => ∃ r p y, s.Φ r p = some y ∧ blkOf y = some b
  R0 := s.S .ro
  B0 := s.S .bo
  G := B.G
  F := B.F
  muts := []
  Φ0 := s.Φ
  LC := fun r d => x.at r (zp d)
  LΦ := fun r d => (s.Φ r).under (zp d)
  PV := fun k => (B.tv a k).getD .nilIface

theorem RelW.enter (h : RelW B s x a w) {kt kr : List Nat} (hk : allB (fun k => isSomeB (look x.env k)) kt = true) : RelW (B.inner s x a w) s (x.enter kt kr) a w where
  defers := h.defers
  size := h.size
  env := h.env
  roots := h.roots
  rootn := h.rootn
  inj := h.inj
  own := fun r p y b e1 e2 => by
    have := h.own r p y b e1 e2
    exact ⟨this.1, this.2.1, .inl ⟨r, p, y, e1, e2⟩⟩
  slt := h.slt
  sown := h.sown
  sro := fun b hb => hb
  srn := fun b hb => .inl hb
  sbo := fun b hb => hb
  srb := h.srb
  sbn := fun b hb => .inl hb
  F := h.F
  os := rfl
  tape := rfl
  output := rfl
  grow := Nat.le_refl _
  kept := fun _ _ _ => rfl
  glob := h.glob
  pins := fun k hk' => by
    simp only [X.enter, app_eq, List.mem_append] at hk'
    have : ∃ v, B.tv a k = some v := by
      rcases hk' with hk' | hk'
      · have := (allB_iff _ _).1 hk k hk'
        unfold isSomeB at this
        split at this
        · rename_i d hd
          obtain ⟨v, h1, _⟩ := h.env k d hd
          exact ⟨v, h1⟩
        · cases this
      · exact ⟨_, h.pins k hk'⟩
    obtain ⟨v, hv⟩ := this
    show B.tv a k = some ((B.tv a k).getD .nilIface)
    rw [hv]; rfl
  locks := fun r d _ => ⟨rfl, rfl⟩
  dirt := fun r hr => by simp [Base.inner] at hr

theorem RelW.leave (h : RelW B s x a w) {mu kt kr : List Nat} (hmu : B.muts = mu) {s2 : Sit} {x2 : X} {a2 : Act} {w2 : World} (h2 : RelW (B.inner s x a w) s2 x2 a2 w2)
    (hlk : ∀ r ∈ kr, (r, []) ∈ x2.lock) (hpn : ∀ k ∈ kt, k ∈ x2.pin) (hlo : ∀ e ∈ x.lock, e ∈ x2.lock) (hpo : ∀ k ∈ x.pin, k ∈ x2.pin)
    {E : List (Nat × D)} {R : List (Nat × List T)} (hE : ∀ k d, look E k = some d → look x2.env k = some d ∧ ∀ rp ∈ d.ats, (look R rp.1).isSome = true ∨ rp.1 ∈ kr)
    (hR : ∀ k r, look R k = some r → look x2.roots k = some r ∧ k ∉ kr) (hx : ∀ e ∈ x.lock, (look R e.1).isSome = true ∨ e.1 ∈ kr) :
    ∃ s', RelW B s' (x.leave mu kt kr E R) a2 w2 ∧ RelW (B.inner s x a w) s' ((x.leave mu kt kr E R).enter kt kr) a2 w2 := by
  have hSS : ∀ f b, s.S f b → s2.S f b := by
    intro f b hS
    cases f with
    | own => exact absurd hS (h.sown b)
    | ro => exact h2.sro b hS
    | bo => exact h2.sbo b hS
  have hwS : ∀ f b, s.S f b → w2.heap[b]? = w.heap[b]? := by
    intro f b hS
    refine h2.kept b (h.slt f b hS) (fun hO => ?_)
    obtain ⟨r, p, y, e1, e2⟩ := hO
    exact (h.own r p y b e1 e2).1 f hS
  have hKR : ∀ r ∈ kr, x2.at r [] = x.at r [] ∧ s2.Φ r = s.Φ r := by
    intro r hr
    obtain ⟨e1, e2⟩ := h2.locks r [] (hlk r hr)
    exact ⟨e1, by funext p; have := congrFun e2 p; simpa [Lay.under, zp, Base.inner] using this⟩
  have hrow : ∀ r ∈ kr, ∀ row, look x.roots r = some row → look x2.roots r = some row := by
    intro r hr row hrow
    have := (hKR r hr).1
    simp only [X.at, hrow, Option.bind_some, getT] at this
    cases h3 : look x2.roots r with
    | none => rw [h3] at this; cases this
    | some row2 =>
      rw [h3, Option.bind_some, Option.some.injEq, T.vr.injEq] at this
      rw [this]
  let nm : Nat → Prop := fun r => (look (x.leave mu kt kr E R).roots r).isSome = true
  let s' : Sit := { s2 with Φ := fun r => if (look (x.leave mu kt kr E R).roots r).isSome = true then s2.Φ r else noLay }
  have hΦsub : ∀ r p z, s'.Φ r p = some z → s2.Φ r p = some z := by
    intro r p z hz
    simp only [s'] at hz
    split at hz
    · exact hz
    · cases hz
  have hΦin : ∀ r, nm r → s'.Φ r = s2.Φ r := fun r hr => by simp only [s']; rw [if_pos hr]
  have hroots : ∀ r row, look (x.leave mu kt kr E R).roots r = some row → look x2.roots r = some row := by
    intro r row hr
    simp only [X.leave, look_app] at hr
    split at hr
    · rename_i row' hr'
      simp only [Option.some.injEq] at hr
      subst hr
      exact (hR r _ hr').1
    · obtain ⟨e1, e2⟩ := keepR_some hr
      exact hrow r e1 row e2
  have hnmR : ∀ r, (look R r).isSome = true → nm r := by
    intro r hr
    simp only [nm, X.leave, look_app]
    cases h3 : look R r with
    | none => rw [h3] at hr; cases hr
    | some => rfl
  have keepR_in : ∀ {kr' : List Nat} {r : Nat} {row : List T}, r ∈ kr' → look x.roots r = some row → (look (keepR x.roots kr') r).isSome = true := by
    intro kr'
    induction kr' with
    | nil => intro r row hr; simp at hr
    | cons k0 kr' ih =>
      intro r row hr hrow
      unfold keepR
      rcases List.mem_cons.1 hr with rfl | hr
      · rw [hrow]; simp [look_cons]
      · split
        · rw [look_cons]
          split
          · rfl
          · exact ih hr hrow
        · exact ih hr hrow
  have hnmK : ∀ r ∈ kr, nm r ∨ s2.Φ r = noLay := by
    intro r hr
    cases h3 : look x.roots r with
    | none => exact .inr (by rw [(hKR r hr).2]; exact h.rootn r h3)
    | some row =>
      refine .inl ?_
      simp only [nm, X.leave, look_app]
      cases h4 : look R r with
      | some => rfl
      | none => exact keepR_in hr h3
  have hΦK : ∀ r ∈ kr, s'.Φ r = s.Φ r := by
    intro r hr
    rcases hnmK r hr with h3 | h3
    · rw [hΦin r h3]; exact (hKR r hr).2
    · have e : s.Φ r = noLay := by rw [← (hKR r hr).2]; exact h3
      rw [e]
      simp only [s']
      split
      · exact h3
      · rfl
  have hlook : ∀ r, ((look R r).isSome = true ∨ r ∈ kr) → look (x.leave mu kt kr E R).roots r = look x2.roots r ∧ s'.Φ r = s2.Φ r := by
    intro r hcase
    rcases hcase with hc | hc
    · refine ⟨?_, hΦin r (hnmR r hc)⟩
      cases h5 : look R r with
      | none => rw [h5] at hc; cases hc
      | some row =>
        rw [(hR r row h5).1]
        simp only [X.leave, look_app, h5]
    · refine ⟨?_, by rw [hΦK r hc, (hKR r hc).2]⟩
      cases h5 : look x.roots r with
      | none =>
        have h6 : look x2.roots r = none := by
          have := (hKR r hc).1
          simp only [X.at, h5, Option.bind_none] at this
          cases h7 : look x2.roots r with
          | none => rfl
          | some row => rw [h7, Option.bind_some, getT] at this; cases this
        rw [h6]
        cases h7 : look (x.leave mu kt kr E R).roots r with
        | none => rfl
        | some row => have := hroots r row h7; rw [h6] at this; cases this
      | some row =>
        have h6 := hrow r hc row h5
        rw [h6]
        cases h7 : look (x.leave mu kt kr E R).roots r with
        | none =>
          simp only [X.leave, look_app] at h7
          cases h9 : look R r with
          | some row' => rw [h9] at h7; cases h7
          | none =>
            rw [h9] at h7
            change look (keepR x.roots kr) r = none at h7
            have := keepR_in hc h5
            rw [h7] at this; cases this
        | some row' => have := hroots r row' h7; rw [h6] at this; exact this.symm
  have hA : RelW B s' (x.leave mu kt kr E R) a2 w2 := {
    defers := h2.defers
    size := h2.size
    env := fun k d hd => by
      simp only [X.leave, look_app] at hd
      split at hd
      · rename_i d' hd'
        simp only [Option.some.injEq] at hd
        subst hd
        obtain ⟨e1, e2⟩ := hE k _ hd'
        obtain ⟨v, g1, g2⟩ := h2.env k _ e1
        refine ⟨v, g1, g2.mono (fun _ _ _ => rfl) (fun _ _ h => h) rfl (fun rp hrp => ?_)⟩
        rcases e2 rp hrp with e3 | e3
        · rw [hΦin _ (hnmR _ e3)]
        · rw [hΦK _ e3, ← (hKR _ e3).2]
      · obtain ⟨e1, e2, e3⟩ := keepE_some hd
        obtain ⟨v, g1, g2⟩ := h.env k d e2
        have hp : B.tv a2 k = some ((B.tv a k).getD .nilIface) := h2.pins k (hpn k e1)
        rw [g1, Option.getD_some] at hp
        exact ⟨v, hp, g2.mono hwS hSS (h2.F.trans h.F.symm) (fun rp hrp => by rw [hΦK _ (atsIn_spec e3 rp hrp)])⟩
    roots := fun r row hr => by
      obtain ⟨y, hy⟩ := h2.roots r row (hroots r row hr)
      have : s'.Φ r = s2.Φ r := hΦin r (by simp only [nm, hr]; rfl)
      exact ⟨y, by rw [this]; exact hy⟩
    rootn := fun r hr => by simp only [s', hr]; rfl
    inj := fun r p y r' p' y' b e1 e2 e3 e4 => h2.inj _ _ _ _ _ _ _ (hΦsub _ _ _ e1) e2 (hΦsub _ _ _ e3) e4
    own := fun r p y b e1 e2 => by
      have := h2.own r p y b (hΦsub _ _ _ e1) e2
      refine ⟨this.1, this.2.1, ?_⟩
      rcases this.2.2 with ⟨r', p', y', e3, e4⟩ | hge
      · exact (h.own _ _ _ _ e3 e4).2.2
      · exact .inr (Nat.le_trans h.grow hge)
    slt := h2.slt
    sown := h2.sown
    sro := fun b hb => hSS .ro b (h.sro b hb)
    srn := fun b hb => by
      rcases h2.srn b hb with hb | ⟨r', p', y', e3, e4⟩ | hge
      · exact h.srn b hb
      · exact .inr (h.own _ _ _ _ e3 e4).2.2
      · exact .inr (.inr (Nat.le_trans h.grow hge))
    sbo := fun b hb => hSS .bo b (h.sbo b hb)
    srb := h2.srb
    sbn := fun b hb => by
      rcases h2.sbn b hb with hb | hb
      · exact (h.sbn b hb).imp id (hSS .ro b)
      · exact .inr hb
    F := h2.F
    os := h2.os.trans h.os
    tape := h2.tape.trans h.tape
    output := h2.output.trans h.output
    grow := Nat.le_trans h.grow h2.grow
    kept := fun b e1 e2 => by
      rw [h2.kept b (Nat.lt_of_lt_of_le e1 h.grow) (fun hO => by
        obtain ⟨r, p, y, e3, e4⟩ := hO
        rcases (h.own _ _ _ _ e3 e4).2.2 with e5 | e5
        · exact e2 e5
        · omega)]
      exact h.kept b e1 e2
    glob := h2.glob
    pins := fun k hk => by
      have hp : B.tv a2 k = some ((B.tv a k).getD .nilIface) := h2.pins k (hpo k hk)
      rw [h.pins k hk, Option.getD_some] at hp
      exact hp
    locks := fun r d hd => by
      obtain ⟨e1, e2⟩ := h2.locks r d (hlo _ hd)
      obtain ⟨e3, e4⟩ := h.locks r d hd
      have hl := hlook r (hx _ hd)
      refine ⟨?_, ?_⟩
      · rw [← e3]
        have : x2.at r (zp d) = x.at r (zp d) := e1
        rw [← this]
        simp only [X.at, hl.1]
      · rw [← e4, hl.2]; exact e2
    dirt := fun r hr p hp => by
      rw [hmu] at hr
      have hm := dirtAll_mem (kr := kr) (l := x.dirt) (mu := mu)
      by_cases hk : r ∈ kr
      · rw [hΦK r hk]
        exact h.dirt r (by rw [hmu]; exact hr) p (fun d hd => hp d (hm.2 _ hd))
      · have := hp [] (hm.1 r hr hk)
        simp [pre] at this }
  exact ⟨s', hA, {
    defers := hA.defers
    size := hA.size
    env := hA.env
    roots := hA.roots
    rootn := hA.rootn
    inj := hA.inj
    own := fun r p y b e1 e2 => h2.own r p y b (hΦsub _ _ _ e1) e2
    slt := hA.slt
    sown := hA.sown
    sro := h2.sro
    srn := h2.srn
    sbo := h2.sbo
    srb := hA.srb
    sbn := h2.sbn
    F := h2.F
    os := h2.os
    tape := h2.tape
    output := h2.output
    grow := h2.grow
    kept := h2.kept
    glob := hA.glob
    pins := fun k hk => by
      simp only [X.enter, app_eq, List.mem_append] at hk
      rcases hk with hk | hk
      · exact h2.pins k (hpn k hk)
      · exact h2.pins k (hpo k hk)
    locks := fun r d hd => by
      have hd' : (r, d) ∈ x2.lock ∧ ((look R r).isSome = true ∨ r ∈ kr) := by
        rcases lockAll_mem.1 hd with ⟨e1, e2⟩ | e1
        · simp only at e1 e2
          subst e1
          exact ⟨hlk r e2, .inr e2⟩
        · exact ⟨hlo _ e1, hx _ e1⟩
      obtain ⟨e1, e2⟩ := h2.locks r d hd'.1
      have hl := hlook r hd'.2
      refine ⟨?_, by rw [hl.2]; exact e2⟩
      rw [← e1]
      simp only [X.at, X.enter, hl.1]
    dirt := fun r hr => by simp [Base.inner] at hr }⟩

end
end Go.V

/-! What is carried out of a part of the code: shapes of states. -/
namespace Go.V
open Go.RowKit

variable {α : Type}

/-! ### shapes -/
inductive CS where
  | int (k : IntKind)
  | bool
  | str
  | sh (f : Fl) (e : Ty)
  | shp (f : Fl) (e : Ty)
  | rq (f : Fl) (e : Ty) (j : Nat)
  | own (r : Nat) (p : Path) (e : Ty)
  | pt (r : Nat) (p : Path) (i j sz : Nat)
  | nil
  | dead
  | fn (a r : Ty)
  | sub (r : Nat) (p : Path) (e : Ty)
  | ptx (r : Nat) (js : List Nat) (j sz : Nat)
  | ownx (r : Nat) (js : List Nat) (e : Ty)
  | subx (r : Nat) (js : List Nat) (e : Ty)
  | fnp (f : FuncId) (caps : List (Nat × Path))

/-- The rows of a path of these columns. -/
def natsTy : List Nat → Ty
  | [] => .unit
  | [_] => .nat
  | _ :: k :: l => .pair .nat (natsTy (k :: l))

def zipN : (js : List Nat) → den (natsTy js) → Path
  | [], _ => []
  | [j], d => [((d : Nat), j)]
  | j :: k :: l, d => (d.1, j) :: zipN (k :: l) d.2

def rowsN : (js : List Nat) → Path → Option (den (natsTy js))
  | [], p => match p with
    | [] => some ()
    | _ :: _ => none
  | [j], p => match p with
    | e :: l => match l with
      | [] => match Nat.beq e.2 j with
        | true => some e.1
        | false => none
      | _ :: _ => none
    | [] => none
  | j :: k :: l, p => match p with
    | e :: p => match Nat.beq e.2 j with
      | true => (rowsN (k :: l) p).map fun d => (e.1, d)
      | false => none
    | [] => none

theorem rowsN_zip : ∀ {js : List Nat} {p : Path} {d : den (natsTy js)}, rowsN js p = some d → zipN js d = p
  | [], p, d, h => by
    unfold rowsN at h
    split at h
    · rfl
    · cases h
  | [j], p, d, h => by
    unfold rowsN at h
    split at h
    · split at h
      · split at h
        · rename_i e _ _ hb
          have h := Option.some.inj h
          subst h
          show [(e.1, j)] = [e]
          rw [← Nat.eq_of_beq_eq_true hb]
        · cases h
      · cases h
    · cases h
  | j :: k :: l, p, d, h => by
    unfold rowsN at h
    split at h
    · split at h
      · rename_i e p' _ hb
        obtain ⟨d', h1, h2⟩ := Option.map_eq_some_iff.mp h
        subst h2
        show (e.1, j) :: zipN (k :: l) d' = e :: p'
        rw [rowsN_zip h1, ← Nat.eq_of_beq_eq_true hb]
      · cases h
    · cases h

def CS.ty : CS → Ty
  | .int k => .int k
  | .bool => .bool
  | .str => .str
  | .sh _ e => .sl e
  | .shp _ e => e
  | .rq _ e _ => e
  | .fn a r => .fn a r
  | .sub _ _ _ => .pair .nat .nat
  | .ptx _ js _ _ => .pair (natsTy js) .nat
  | .ownx _ js _ => natsTy js
  | .subx _ js _ => .pair (natsTy js) (.pair .nat .nat)
  | _ => .unit

def capsEq : List (Nat × Path) → List (Nat × Path) → Bool
  | [], [] => true
  | a :: l, b :: m => and (Nat.beq a.1 b.1) (and (pathEqq a.2 b.2) (capsEq l m))
  | _, _ => false
where pathEqq : Path → Path → Bool
  | [], [] => true
  | a :: p, b :: q => and (Nat.beq a.1 b.1) (and (Nat.beq a.2 b.2) (pathEqq p q))
  | _, _ => false

theorem pathEqq_eq : ∀ {p q : Path}, capsEq.pathEqq p q = true → p = q
  | [], [], _ => rfl
  | (a1, a2) :: p, (b1, b2) :: q, h => by
    simp only [capsEq.pathEqq, Bool.and_eq_true] at h
    rw [pathEqq_eq h.2.2, Nat.eq_of_beq_eq_true h.1, Nat.eq_of_beq_eq_true h.2.1]
  | [], _ :: _, h => by cases h
  | _ :: _, [], h => by cases h

theorem capsEq_eq : ∀ {l m : List (Nat × Path)}, capsEq l m = true → l = m
  | [], [], _ => rfl
  | (a1, a2) :: l, (b1, b2) :: m, h => by
    simp only [capsEq, Bool.and_eq_true] at h
    rw [Nat.eq_of_beq_eq_true h.1, pathEqq_eq h.2.1, capsEq_eq h.2.2]
  | [], _ :: _, h => by cases h
  | _ :: _, [], h => by cases h

def pathEq : Path → Path → Bool
  | [], [] => true
  | a :: p, b :: q => and (Nat.beq a.1 b.1) (and (Nat.beq a.2 b.2) (pathEq p q))
  | _, _ => false

theorem pathEq_eq : ∀ {p q : Path}, pathEq p q = true → p = q
  | [], [], _ => rfl
  | a :: p, b :: q, h => by
    simp only [pathEq, Bool.and_eq_true] at h
    rw [pathEq_eq h.2.2]
    have h1 := Nat.eq_of_beq_eq_true h.1
    have h2 := Nat.eq_of_beq_eq_true h.2.1
    obtain ⟨a1, a2⟩ := a
    obtain ⟨b1, b2⟩ := b
    simp only at h1 h2
    rw [h1, h2]
  | [], _ :: _, h => by simp [pathEq] at h
  | _ :: _, [], h => by simp [pathEq] at h

def fillC : (s : CS) → den s.ty → C
  | .int k => fun n => .k (.v (.int k n))
  | .bool => fun b => .k (.v (.bool b))
  | .str => fun l => .k (.v (.string ⟨⟨l⟩⟩))
  | .sh f e => fun xs => .k (.sl f e xs)
  | .shp f e => fun d => .k (.pt f e d)
  | .rq f e j => fun d => .rq f (cells f e d) j
  | .own r p e => fun _ => .own r p e
  | .pt r p i j sz => fun _ => .pt r p i j sz
  | .nil => fun _ => .nil
  | .dead => fun _ => .k .dead
  | .fn a r => fun g => .fn a r g
  | .sub r p e => fun d => .sub r p d.1 d.2 e
  | .ptx r js j sz => fun d => .pt r (zipN js d.1) d.2 j sz
  | .ownx r js e => fun d => .own r (zipN js d) e
  | .subx r js e => fun d => .sub r (zipN js d.1) d.2.1 d.2.2 e
  | .fnp f caps => fun _ => .fnp f caps

def matchC : (s : CS) → C → Option (den s.ty)
  | .int k => fun y => match y with
    | .k (.v (.int k' n)) => if kindEq k' k = true then some n else none
    | _ => none
  | .bool => fun y => match y with
    | .k (.v (.bool b)) => some b
    | _ => none
  | .str => fun y => match y with
    | .k (.v (.string s)) => some s.data.toList
    | _ => none
  | .sh f e => fun y => match y with
    | .k (.sl f' e' xs) => if flEq f' f = true then cast? (.sl e') (.sl e) xs else none
    | _ => none
  | .shp f e => fun y => match y with
    | .k (.pt f' e' d) => if flEq f' f = true then cast? e' e d else none
    | _ => none
  | .rq f e j => fun y => match y with
    | .rq f' cs j' => if and (flEq f' f) (Nat.beq j' j) = true then packAll f e cs else none
    | _ => none
  | .own r p e => fun y => match y with
    | .own r' p' e' => if and (Nat.beq r' r) (and (pathEq p' p) (e'.beq e)) = true then some () else none
    | _ => none
  | .pt r p i j sz => fun y => match y with
    | .pt r' p' i' j' sz' => if and (Nat.beq r' r) (and (pathEq p' p) (and (Nat.beq i' i) (and (Nat.beq j' j) (Nat.beq sz' sz)))) = true then some () else none
    | _ => none
  | .nil => fun y => match y with
    | .nil => some ()
    | _ => none
  | .dead => fun y => match y with
    | .k .dead => some ()
    | _ => none
  | .fn a r => fun y => match y with
    | .fn a' r' g => cast? (.fn a' r') (.fn a r) g
    | _ => none
  | .sub r p e => fun y => match y with
    | .sub r' p' lo n e' => if and (Nat.beq r' r) (and (pathEq p' p) (e'.beq e)) = true then some (lo, n) else none
    | _ => none
  | .ptx r js j sz => fun y => match y with
    | .pt r' p' i' j' sz' => if and (Nat.beq r' r) (and (Nat.beq j' j) (Nat.beq sz' sz)) = true then (rowsN js p').map fun d => (d, i') else none
    | _ => none
  | .ownx r js e => fun y => match y with
    | .own r' p' e' => if and (Nat.beq r' r) (e'.beq e) = true then rowsN js p' else none
    | _ => none
  | .subx r js e => fun y => match y with
    | .sub r' p' lo n e' => if and (Nat.beq r' r) (e'.beq e) = true then (rowsN js p').map fun d => (d, (lo, n)) else none
    | _ => none
  | .fnp f caps => fun y => match y with
    | .fnp f' caps' => if and (Nat.beq f' f) (capsEq caps' caps) = true then some () else none
    | _ => none

theorem ite_some {β : Type} {p : Prop} [Decidable p] {o : Option β} {d : β} (h : (if p then o else none) = some d) : p ∧ o = some d := by
  by_cases hp : p
  · rw [if_pos hp] at h; exact ⟨hp, h⟩
  · rw [if_neg hp] at h; cases h

theorem matchC_fill : ∀ (s : CS) {y : C} {d : den s.ty}, matchC s y = some d → fillC s d = y := by
  intro s y d h
  cases s with
  | int k =>
    simp only [matchC] at h
    split at h
    · split at h
      · rename_i hk; cases h; rw [kindEq_eq hk]; rfl
      · cases h
    · cases h
  | bool =>
    simp only [matchC] at h
    split at h
    · cases h; rfl
    · cases h
  | str =>
    simp only [matchC] at h
    split at h
    · cases h; rfl
    · cases h
  | sh f e =>
    simp only [matchC] at h
    split at h
    · obtain ⟨hf, h2⟩ := ite_some h
      obtain ⟨he, h3⟩ := cast?_some h2
      cases he
      subst h3
      rw [flEq_eq hf]; rfl
    · cases h
  | shp f e =>
    simp only [matchC] at h
    split at h
    · obtain ⟨hf, h2⟩ := ite_some h
      obtain ⟨he, h3⟩ := cast?_some h2
      subst he
      subst h3
      rw [flEq_eq hf]; rfl
    · cases h
  | rq f e j =>
    simp only [matchC] at h
    split at h
    · obtain ⟨hf, h2⟩ := ite_some h
      simp only [Bool.and_eq_true] at hf
      have h1 := packAll_some h2
      rw [h1, flEq_eq hf.1, Nat.eq_of_beq_eq_true hf.2]; rfl
    · cases h
  | own r p e =>
    simp only [matchC] at h
    split at h
    · split at h
      · rename_i hf
        simp only [Bool.and_eq_true] at hf
        rw [Nat.eq_of_beq_eq_true hf.1, pathEq_eq hf.2.1, Ty.beq_eq hf.2.2]; rfl
      · cases h
    · cases h
  | pt r p i j sz =>
    simp only [matchC] at h
    split at h
    · split at h
      · rename_i hf
        simp only [Bool.and_eq_true] at hf
        rw [Nat.eq_of_beq_eq_true hf.1, pathEq_eq hf.2.1, Nat.eq_of_beq_eq_true hf.2.2.1, Nat.eq_of_beq_eq_true hf.2.2.2.1, Nat.eq_of_beq_eq_true hf.2.2.2.2]; rfl
      · cases h
    · cases h
  | nil =>
    simp only [matchC] at h
    split at h
    · rfl
    · cases h
  | dead =>
    simp only [matchC] at h
    split at h
    · rfl
    · cases h
  | fn a r =>
    cases y with
    | fn a' r' g =>
      have h : cast? (.fn a' r') (.fn a r) g = some d := h
      obtain ⟨he, h3⟩ := cast?_some h
      cases he
      subst h3; rfl
    | _ => cases h
  | sub r p e =>
    simp only [matchC] at h
    split at h
    · split at h
      · rename_i hf
        simp only [Bool.and_eq_true] at hf
        have h := Option.some.inj h
        subst h
        rw [Nat.eq_of_beq_eq_true hf.1, pathEq_eq hf.2.1, Ty.beq_eq hf.2.2]; rfl
      · cases h
    · cases h
  | ptx r js j sz =>
    simp only [matchC] at h
    split at h
    · obtain ⟨hf, h2⟩ := ite_some h
      simp only [Bool.and_eq_true] at hf
      obtain ⟨d', h3, h4⟩ := Option.map_eq_some_iff.mp h2
      subst h4
      rw [Nat.eq_of_beq_eq_true hf.1, Nat.eq_of_beq_eq_true hf.2.1, Nat.eq_of_beq_eq_true hf.2.2]
      simp only [fillC, rowsN_zip h3]
    · cases h
  | ownx r js e =>
    simp only [matchC] at h
    split at h
    · obtain ⟨hf, h2⟩ := ite_some h
      simp only [Bool.and_eq_true] at hf
      rw [Nat.eq_of_beq_eq_true hf.1, Ty.beq_eq hf.2]
      simp only [fillC, rowsN_zip h2]
    · cases h
  | subx r js e =>
    simp only [matchC] at h
    split at h
    · obtain ⟨hf, h2⟩ := ite_some h
      simp only [Bool.and_eq_true] at hf
      obtain ⟨d', h3, h4⟩ := Option.map_eq_some_iff.mp h2
      subst h4
      rw [Nat.eq_of_beq_eq_true hf.1, Ty.beq_eq hf.2]
      simp only [fillC, rowsN_zip h3]
    · cases h
  | fnp f caps =>
    simp only [matchC] at h
    split at h
    · split at h
      · rename_i hf
        simp only [Bool.and_eq_true] at hf
        rw [Nat.eq_of_beq_eq_true hf.1, capsEq_eq hf.2]; rfl
      · cases h
    · cases h

def one? {β : Type} : List β → Option β
  | [y] => some y
  | _ => none

theorem one?_some {β : Type} {l : List β} {y : β} (h : one? l = some y) : l = [y] := by
  unfold one? at h
  split at h
  · cases h; rfl
  · cases h

def csTy : List CS → Ty
  | [] => .unit
  | [s] => s.ty
  | s :: l => .pair s.ty (csTy l)

def fillCs : (l : List CS) → den (csTy l) → List C
  | [], _ => []
  | [s], d => [fillC s d]
  | s :: t :: l, d => fillC s d.1 :: fillCs (t :: l) d.2

def matchCs : (l : List CS) → List C → Option (den (csTy l))
  | [], ys => match ys with
    | [] => some ()
    | _ :: _ => none
  | [s], ys => (one? ys).bind fun y => matchC s y
  | s :: t :: l, ys => match ys with
    | y :: ys => (matchC s y).bind fun d => (matchCs (t :: l) ys).map fun e => (d, e)
    | [] => none

theorem matchCs_fill : ∀ (l : List CS) {ys : List C} {d : den (csTy l)}, matchCs l ys = some d → fillCs l d = ys
  | [], ys, d, h => by
    unfold matchCs at h
    split at h
    · rfl
    · cases h
  | [s], ys, d, h => by
    obtain ⟨y, h1, h2⟩ := Option.bind_eq_some_iff.mp h
    rw [one?_some h1]
    show [fillC s d] = _
    rw [matchC_fill s h2]
  | s :: t :: l, ys, d, h => by
    unfold matchCs at h
    split at h
    · obtain ⟨d1, h1, h2⟩ := Option.bind_eq_some_iff.mp h
      obtain ⟨d2, h3, h4⟩ := Option.map_eq_some_iff.mp h2
      cases h4
      show fillC s d1 :: fillCs (t :: l) d2 = _
      rw [matchC_fill s h1, matchCs_fill (t :: l) h3]
    · cases h

/-- The cells of a root. -/
inductive TB where
  | int (k : IntKind)
  | bool
  | str
  | sl (f : Fl) (e : Ty)
  | pt (f : Fl) (e : Ty)
  | dead

def TB.ty : TB → Ty
  | .int k => .int k
  | .bool => .bool
  | .str => .str
  | .sl _ e => .sl e
  | .pt _ e => e
  | .dead => .unit

def fillB : (s : TB) → den s.ty → T
  | .int k => fun n => .v (.int k n)
  | .bool => fun b => .v (.bool b)
  | .str => fun l => .v (.string ⟨⟨l⟩⟩)
  | .sl f e => fun xs => .sl f e xs
  | .pt f e => fun d => .pt f e d
  | .dead => fun _ => .dead

def matchB : (s : TB) → T → Option (den s.ty)
  | .int k => fun y => match y with
    | .v (.int k' n) => if kindEq k' k = true then some n else none
    | _ => none
  | .bool => fun y => match y with
    | .v (.bool b) => some b
    | _ => none
  | .str => fun y => match y with
    | .v (.string s) => some s.data.toList
    | _ => none
  | .sl f e => fun y => match y with
    | .sl f' e' xs => if flEq f' f = true then cast? (.sl e') (.sl e) xs else none
    | _ => none
  | .pt f e => fun y => match y with
    | .pt f' e' d => if flEq f' f = true then cast? e' e d else none
    | _ => none
  | .dead => fun y => match y with
    | .dead => some ()
    | _ => none

theorem matchB_fill : ∀ (s : TB) {y : T} {d : den s.ty}, matchB s y = some d → fillB s d = y := by
  intro s y d h
  cases s with
  | int k =>
    simp only [matchB] at h
    split at h
    · split at h
      · rename_i hk; cases h; rw [kindEq_eq hk]; rfl
      · cases h
    · cases h
  | bool =>
    simp only [matchB] at h
    split at h
    · cases h; rfl
    · cases h
  | str =>
    simp only [matchB] at h
    split at h
    · cases h; rfl
    · cases h
  | sl f e =>
    simp only [matchB] at h
    split at h
    · obtain ⟨hf, h2⟩ := ite_some h
      obtain ⟨he, h3⟩ := cast?_some h2
      cases he
      subst h3
      rw [flEq_eq hf]; rfl
    · cases h
  | pt f e =>
    simp only [matchB] at h
    split at h
    · obtain ⟨hf, h2⟩ := ite_some h
      obtain ⟨he, h3⟩ := cast?_some h2
      subst he
      subst h3
      rw [flEq_eq hf]; rfl
    · cases h
  | dead =>
    simp only [matchB] at h
    split at h
    · rfl
    · cases h

def tbTy : List TB → Ty
  | [] => .unit
  | [s] => s.ty
  | s :: l => .pair s.ty (tbTy l)

def fillBs : (l : List TB) → den (tbTy l) → List T
  | [], _ => []
  | [s], d => [fillB s d]
  | s :: t :: l, d => fillB s d.1 :: fillBs (t :: l) d.2

def matchBs : (l : List TB) → List T → Option (den (tbTy l))
  | [], ys => match ys with
    | [] => some ()
    | _ :: _ => none
  | [s], ys => (one? ys).bind fun y => matchB s y
  | s :: t :: l, ys => match ys with
    | y :: ys => (matchB s y).bind fun d => (matchBs (t :: l) ys).map fun e => (d, e)
    | [] => none

theorem matchBs_fill : ∀ (l : List TB) {ys : List T} {d : den (tbTy l)}, matchBs l ys = some d → fillBs l d = ys
  | [], ys, d, h => by
    unfold matchBs at h
    split at h
    · rfl
    · cases h
  | [s], ys, d, h => by
    obtain ⟨y, h1, h2⟩ := Option.bind_eq_some_iff.mp h
    rw [one?_some h1]
    show [fillB s d] = _
    rw [matchB_fill s h2]
  | s :: t :: l, ys, d, h => by
    unfold matchBs at h
    split at h
    · obtain ⟨d1, h1, h2⟩ := Option.bind_eq_some_iff.mp h
      obtain ⟨d2, h3, h4⟩ := Option.map_eq_some_iff.mp h2
      cases h4
      show fillB s d1 :: fillBs (t :: l) d2 = _
      rw [matchB_fill s h1, matchBs_fill (t :: l) h3]
    · cases h

/-- A slot: a temporary's value; a root that is one box; a root that is one cell, or several. -/
inductive Slot where
  | tmp (k : Nat) (s : CS)
  | agg (k : Nat) (l : List CS)
  | box (k : Nat) (l : List TB)
  | row (k : Nat) (l : List TB)

def Slot.ty : Slot → Ty
  | .tmp _ s => s.ty
  | .agg _ l => csTy l
  | .box _ l => tbTy l
  | .row _ l => tbTy l

def fillE1 : (s : Slot) → den s.ty → List (Nat × D)
  | .tmp k s, d => [(k, .v (.c (fillC s d)))]
  | .agg k l, d => [(k, .v (.ag (fillCs l d)))]
  | .box _ _, _ => []
  | .row _ _, _ => []

def fillR1 : (s : Slot) → den s.ty → List (Nat × List T)
  | .tmp _ _, _ => []
  | .agg _ _, _ => []
  | .box k l, d => [(k, [.pp .own (fillBs l d)])]
  | .row k l, d => [(k, fillBs l d)]

def D.agg? : D → Option (List C)
  | .v (.ag ys) => some ys
  | _ => none

theorem D.agg?_some {d : D} {ys : List C} (h : d.agg? = some ys) : d = .v (.ag ys) := by
  unfold D.agg? at h
  split at h
  · cases h; rfl
  · cases h

theorem D.one_some {d : D} {y : C} (h : d.one = some y) : d = .v (.c y) := by
  unfold D.one at h
  split at h
  · cases h; rfl
  · cases h

def boxRow? : List T → Option (List T)
  | [.pp .own ts] => some ts
  | _ => none

theorem boxRow?_some {r ts : List T} (h : boxRow? r = some ts) : r = [.pp .own ts] := by
  unfold boxRow? at h
  split at h
  · cases h; rfl
  · cases h

def match1 : (s : Slot) → X → Option (den s.ty)
  | .tmp k s, x => ((look x.env k).bind D.one).bind fun y => matchC s y
  | .agg k l, x => ((look x.env k).bind D.agg?).bind fun ys => matchCs l ys
  | .box k l, x => ((look x.roots k).bind boxRow?).bind fun ts => matchBs l ts
  | .row k l, x => (look x.roots k).bind fun r => matchBs l r

theorem match1_fill (s : Slot) {x : X} {d : den s.ty} (h : match1 s x = some d) :
    (∀ k e, look (fillE1 s d) k = some e → look x.env k = some e) ∧ (∀ k r, look (fillR1 s d) k = some r → look x.roots k = some r) := by
  cases s with
  | tmp k s =>
    obtain ⟨y, h0, h2⟩ := Option.bind_eq_some_iff.mp h
    obtain ⟨e, h1, h3⟩ := Option.bind_eq_some_iff.mp h0
    have h3 := D.one_some h3
    subst h3
    refine ⟨fun k' e' he => ?_, fun k' r hr => by cases hr⟩
    simp only [fillE1, look_cons] at he
    split at he
    · rename_i hk; subst hk; simp only [Option.some.injEq] at he; subst he; rw [h1, matchC_fill s h2]
    · cases he
  | agg k l =>
    obtain ⟨y, h0, h2⟩ := Option.bind_eq_some_iff.mp h
    obtain ⟨e, h1, h3⟩ := Option.bind_eq_some_iff.mp h0
    have h3 := D.agg?_some h3
    subst h3
    refine ⟨fun k' e' he => ?_, fun k' r hr => by cases hr⟩
    simp only [fillE1, look_cons] at he
    split at he
    · rename_i hk; subst hk; simp only [Option.some.injEq] at he; subst he; rw [h1, matchCs_fill l h2]
    · cases he
  | box k l =>
    obtain ⟨y, h0, h2⟩ := Option.bind_eq_some_iff.mp h
    obtain ⟨e, h1, h3⟩ := Option.bind_eq_some_iff.mp h0
    have h3 := boxRow?_some h3
    subst h3
    refine ⟨fun k' e' he => by (cases he), fun k' r hr => ?_⟩
    simp only [fillR1, look_cons] at hr
    split at hr
    · rename_i hk; subst hk; simp only [Option.some.injEq] at hr; subst hr; rw [h1, matchBs_fill l h2]
    · cases hr
  | row k l =>
    obtain ⟨e, h1, h2⟩ := Option.bind_eq_some_iff.mp h
    refine ⟨fun k' e' he => by (cases he), fun k' r hr => ?_⟩
    simp only [fillR1, look_cons] at hr
    split at hr
    · rename_i hk; subst hk; simp only [Option.some.injEq] at hr; subst hr; rw [h1, matchBs_fill l h2]
    · cases hr

def shTy : List Slot → Ty
  | [] => .unit
  | [s] => s.ty
  | s :: l => .pair s.ty (shTy l)

def fillE : (l : List Slot) → den (shTy l) → List (Nat × D)
  | [], _ => []
  | [s], d => fillE1 s d
  | s :: t :: l, d => app (fillE1 s d.1) (fillE (t :: l) d.2)

def fillR : (l : List Slot) → den (shTy l) → List (Nat × List T)
  | [], _ => []
  | [s], d => fillR1 s d
  | s :: t :: l, d => app (fillR1 s d.1) (fillR (t :: l) d.2)

def matchX : (l : List Slot) → X → Option (den (shTy l))
  | [], _ => some ()
  | [s], x => match1 s x
  | s :: t :: l, x => (match1 s x).bind fun d => (matchX (t :: l) x).map fun e => (d, e)

theorem matchX_fill : ∀ (l : List Slot) {x : X} {d : den (shTy l)}, matchX l x = some d →
    (∀ k e, look (fillE l d) k = some e → look x.env k = some e) ∧ (∀ k r, look (fillR l d) k = some r → look x.roots k = some r)
  | [], x, d, _ => ⟨fun k e h => by (cases h), fun k r h => by (cases h)⟩
  | [s], x, d, h => match1_fill s h
  | s :: t :: l, x, d, h => by
    obtain ⟨d1, h1, h2⟩ := Option.bind_eq_some_iff.mp h
    obtain ⟨d2, h3, h4⟩ := Option.map_eq_some_iff.mp h2
    cases h4
    obtain ⟨a1, a2⟩ := match1_fill s h1
    obtain ⟨b1, b2⟩ := matchX_fill (t :: l) h3
    refine ⟨fun k e he => ?_, fun k r hr => ?_⟩
    · have he : look (app (fillE1 s d1) (fillE (t :: l) d2)) k = some e := he
      rw [look_app] at he
      split at he
      · rename_i e' he'; simp only [Option.some.injEq] at he; subst he; exact a1 k _ he'
      · exact b1 k e he
    · have hr : look (app (fillR1 s d1) (fillR (t :: l) d2)) k = some r := hr
      rw [look_app] at hr
      split at hr
      · rename_i e' hr'; simp only [Option.some.injEq] at hr; subst hr; exact a2 k _ hr'
      · exact b2 k r hr

def rootsOf : List Slot → List Nat
  | [] => []
  | .box k _ :: l => k :: rootsOf l
  | .row k _ :: l => k :: rootsOf l
  | _ :: l => rootsOf l

theorem rootsOf_in : ∀ (l : List Slot) (d : den (shTy l)) (k : Nat), (k ∈ rootsOf l ↔ (look (fillR l d) k).isSome = true)
  | [], d, k => by simp [rootsOf, fillR, look]
  | [s], d, k => by
    cases s <;> simp only [rootsOf, fillR, fillR1, look_cons, List.mem_singleton, List.not_mem_nil, look]
    · simp
    · simp
    · split <;> simp_all
    · split <;> simp_all
  | s :: t :: l, d, k => by
    have ih := rootsOf_in (t :: l) d.2 k
    have e : fillR (s :: t :: l) d = app (fillR1 s d.1) (fillR (t :: l) d.2) := rfl
    rw [e, look_app]
    cases s <;> simp only [rootsOf, fillR1, look_cons, look, List.mem_cons]
    · exact ih
    · exact ih
    · split <;> simp_all
    · split <;> simp_all

end Go.V

/-! Out of a part of the code, with slots. -/
namespace Go.V
open Go.RowKit

variable {α : Type}

def exEq : Exit → Exit → Bool
  | .normal, .normal => true
  | .exit a, .exit b => Nat.beq a b
  | .ret, .ret => true
  | _, _ => false

theorem exEq_eq {a b : Exit} (h : exEq a b = true) : a = b := by
  cases a <;> cases b <;> simp only [exEq, reduceCtorEq] at h
  · rfl
  · rw [Nat.eq_of_beq_eq_true h]
  · rfl

/-- A temporary that holds an owned slice, or none at all, gets its own root for it. -/
def adoptK (k : Nat) (e : Ty) (x : X) (K : X → Option α) : Option α := ((look x.env k).bind D.one).bind fun y =>
  match (match y with | .own r p _ => and (Nat.beq r k) (pathEq p [(0, 0)]) | _ => false) with
  | true => K x
  | false => takeCK x (some e) y fun t x1 => match t with
    | .sl .own e1 xs => match e1.beq e with
      | true => (x1.hang k [.sl .own e1 xs]).bind fun x2 => K { x2 with env := (k, .v (.c (.own k [(0, 0)] e))) :: x2.env }
      | false => none
    | _ => none

def adoptsK : List (Nat × Ty) → X → (X → Option α) → Option α
  | [], x, K => K x
  | e :: l, x, K => adoptK e.1 e.2 x fun x1 => adoptsK l x1 K

structure Out where
  ex : Exit
  ad : List (Nat × Ty)
  sh : List Slot

def outTy : List Out → Ty
  | [] => .unit
  | [o] => shTy o.sh
  | o :: p :: l => .sum (shTy o.sh) (outTy (p :: l))

def lockIn : List (Nat × List Nat) → Nat → List Nat → Bool
  | [], _, _ => false
  | e :: l, r, d => match and (Nat.beq e.1 r) (and (pre e.2 d) (pre d e.2)) with
    | true => true
    | false => lockIn l r d

theorem pre_anti : ∀ {l m : List Nat}, pre l m = true → pre m l = true → l = m
  | [], [], _, _ => rfl
  | [], _ :: _, _, h => by simp [pre] at h
  | _ :: _, [], h, _ => by simp [pre] at h
  | a :: l, b :: m, h1, h2 => by
    simp only [pre] at h1 h2
    split at h1
    · rename_i e
      have e := Nat.eq_of_beq_eq_true e
      split at h2
      · rw [pre_anti h1 h2, e]
      · cases h2
    · cases h1

theorem lockIn_mem : ∀ {l : List (Nat × List Nat)} {r : Nat} {d : List Nat}, lockIn l r d = true → (r, d) ∈ l
  | [], r, d, h => by cases h
  | e :: l, r, d, h => by
    unfold lockIn at h
    split at h
    · rename_i hb
      simp only [Bool.and_eq_true] at hb
      have h1 := Nat.eq_of_beq_eq_true hb.1
      have h2 := pre_anti hb.2.1 hb.2.2
      obtain ⟨e1, e2⟩ := e
      simp only at h1 h2
      subst h1 h2
      exact List.mem_cons_self
    · exact List.mem_cons_of_mem _ (lockIn_mem h)

def okOut (x : X) (kt kr : List Nat) (sh : List Slot) (x2 : X) : Bool :=
  and (allB (fun r => lockIn x2.lock r []) kr) (and (allB (fun k => mem x2.pin k) kt) (and (allB (fun e : Nat × List Nat => lockIn x2.lock e.1 e.2) x.lock) (and (allB (fun k => mem x2.pin k) x.pin)
    (and (allB (fun k => !(mem kr k)) (rootsOf sh)) (allB (fun e : Nat × List Nat => mem (app (rootsOf sh) kr) e.1) x.lock)))))

def pack1 (x : X) (kt kr : List Nat) (o : Out) (e : Exit) (x2 : X) : Option (den (shTy o.sh)) := match exEq e o.ex with
  | true => adoptsK o.ad x2 fun x3 => match okOut x kt kr o.sh x3 with
    | true => (matchX o.sh x3).bind fun d => match allB (fun e : Nat × D => atsIn (app (rootsOf o.sh) kr) e.2) (fillE o.sh d) with
      | true => some d
      | false => none
    | false => none
  | false => none

def packK (x : X) (kt kr : List Nat) : (l : List Out) → Exit → X → Option (den (outTy l))
  | [], _, _ => none
  | [o], e, x2 => pack1 x kt kr o e x2
  | o :: p :: l, e, x2 => match exEq e o.ex with
    | true => (pack1 x kt kr o e x2).map Sum.inl
    | false => (packK x kt kr (p :: l) e x2).map Sum.inr

def unpackK (x : X) (mu kt kr : List Nat) : (l : List Out) → den (outTy l) → (Exit → X → Option α) → Option α
  | [], _, _ => none
  | [o], d, K => K o.ex (x.leave mu kt kr (fillE o.sh d) (fillR o.sh d))
  | o :: p :: l, d, K => Sum.elim (fun d => K o.ex (x.leave mu kt kr (fillE o.sh d) (fillR o.sh d))) (fun d => unpackK x mu kt kr (p :: l) d K) d

section
variable {c : Ctx} {B : Base} {s : Sit} {x : X} {a : Act} {w : World}

/-- What a temporary holds is said anew. -/
theorem RelW.reput (h : RelW B s x a w) {k : Nat} {d : D} {v : Value} (hk : B.tv a k = some v) (hv : RepD w s d v) : RelW B s { x with env := (k, d) :: x.env } a w :=
  { h with
    env := by
      intro j d' hj
      rw [look_cons] at hj
      by_cases e : j = k
      · subst e
        simp only [if_true, Option.some.injEq] at hj
        subst hj
        exact ⟨v, hk, hv⟩
      · rw [if_neg e] at hj
        exact h.env j d' hj }

theorem sl_lay {S : Fl → Nat → Prop} {e : Ty} {xs : List (den e)} {v : Value} {ψ : Lay} (h : RepO w S (.sl .own e xs) v ψ) : ψ [] = some v := by
  cases h with
  | sh _ _ _ ht => simp [T.isSh] at ht
  | nil e ad φ h0 hn => exact h0
  | sl e xs b off cap arr el vs φ hb hcap hsz hc hr h0 hn => exact h0
  | box _ cs ht => simp [T.box?] at ht

theorem adopt_sound (h : RelW B s x a w) {k : Nat} {e : Ty} {K : X → Option α} {q : α} (he : adoptK k e x K = some q) : ∃ x' s', K x' = some q ∧ RelW B s' x' a w := by
  unfold adoptK at he
  obtain ⟨y, h0, he⟩ := Option.bind_eq_some_iff.mp he
  obtain ⟨d, h1, h2⟩ := Option.bind_eq_some_iff.mp h0
  have h2 := D.one_some h2
  subst h2
  obtain ⟨v, hk, hv⟩ := h.env k _ h1
  have hv' : RepC w s y v := by cases hv with | v _ _ hv => cases hv with | c _ _ hv => exact hv
  split at he
  · exact ⟨x, s, he, h⟩
  · obtain ⟨t, x1, s1, ψ, hK, tc⟩ := takeC_sound h hv' he
    split at hK
    · rename_i e1 xs
      split at hK
      · rename_i hb
        have hb := Ty.beq_eq hb
        obtain ⟨x2, g1, g2⟩ := Option.bind_eq_some_iff.mp hK
        have hrep := tc.rep
        rw [← tc.S] at hrep
        have hr := tc.rel.hang (hrep.inVr .nilIface) tc.out.inVr g1
        exact ⟨_, _, g2, hr.reput hk (.v _ _ (.c _ _ (.own k [(0, 0)] e v (by rw [setΦ_same]; simp only [V.inVr, and_self, if_true]; exact sl_lay hrep))))⟩
      · cases hK
    · cases hK

theorem adopts_sound : ∀ (l : List (Nat × Ty)) {s : Sit} {x : X} {K : X → Option α} {q : α}, RelW B s x a w → adoptsK l x K = some q → ∃ x' s', K x' = some q ∧ RelW B s' x' a w
  | [], s, x, K, q, h, he => ⟨x, s, he, h⟩
  | e :: l, s, x, K, q, h, he => by
    obtain ⟨x1, s1, h1, h2⟩ := adopt_sound h he
    exact adopts_sound l h2 h1

theorem pack1_sound (h : RelW B s x a w) {mu kt kr : List Nat} (hmu : B.muts = mu) {s2 : Sit} {x2 : X} {a2 : Act} {w2 : World} (h2 : RelW (B.inner s x a w) s2 x2 a2 w2) {o : Out} {e : Exit} {d : den (shTy o.sh)}
    (hp : pack1 x kt kr o e x2 = some d) : e = o.ex ∧ ∃ s', RelW B s' (x.leave mu kt kr (fillE o.sh d) (fillR o.sh d)) a2 w2 ∧ RelW (B.inner s x a w) s' ((x.leave mu kt kr (fillE o.sh d) (fillR o.sh d)).enter kt kr) a2 w2 := by
  unfold pack1 at hp
  split at hp
  · rename_i hex
    refine ⟨exEq_eq hex, ?_⟩
    obtain ⟨x3, s3, g1, g2⟩ := adopts_sound o.ad h2 hp
    split at g1
    · rename_i hok
      obtain ⟨d', g3, g4⟩ := Option.bind_eq_some_iff.mp g1
      split at g4
      · rename_i hats
        simp only [Option.some.injEq] at g4
        subst g4
        simp only [okOut, Bool.and_eq_true] at hok
        obtain ⟨k1, k2, k3, k4, k5, k6⟩ := hok
        obtain ⟨m1, m2⟩ := matchX_fill o.sh g3
        have hin : ∀ k, k ∈ app (rootsOf o.sh) kr → (look (fillR o.sh d') k).isSome = true ∨ k ∈ kr := by
          intro k hk
          rw [app_eq, List.mem_append] at hk
          rcases hk with hk | hk
          · exact .inl ((rootsOf_in o.sh d' k).1 hk)
          · exact .inr hk
        obtain ⟨s', r1⟩ := h.leave hmu g2 (fun r hr => lockIn_mem ((allB_iff _ _).1 k1 r hr)) (fun k hk => (mem_iff _ _).1 ((allB_iff _ _).1 k2 k hk)) (fun e he => lockIn_mem ((allB_iff _ _).1 k3 e he))
          (fun k hk => (mem_iff _ _).1 ((allB_iff _ _).1 k4 k hk)) (E := fillE o.sh d') (R := fillR o.sh d')
          (fun k d0 hd => ⟨m1 k d0 hd, fun rp hrp => by
            have hmem : (k, d0) ∈ fillE o.sh d' := by
              revert hd
              generalize fillE o.sh d' = E
              intro hd
              induction E with
              | nil => cases hd
              | cons e0 E ih =>
                obtain ⟨k0, d1⟩ := e0
                rw [look_cons] at hd
                by_cases hkk : k = k0
                · rw [if_pos hkk, Option.some.injEq] at hd
                  subst hkk hd
                  exact List.mem_cons_self
                · rw [if_neg hkk] at hd
                  exact List.mem_cons_of_mem _ (ih hd)
            exact hin _ (atsIn_spec ((allB_iff _ _).1 hats _ hmem) rp hrp)⟩)
          (fun k r hr => ⟨m2 k r hr, fun hkr => by
            have hk : k ∈ rootsOf o.sh := (rootsOf_in o.sh d' k).2 (by rw [hr]; rfl)
            have := (allB_iff _ _).1 k5 k hk
            rw [(mem_iff _ _).2 hkr] at this
            cases this⟩)
          (fun e he => hin _ ((mem_iff _ _).1 ((allB_iff _ _).1 k6 e he)))
        exact ⟨s', r1⟩
      · cases g4
    · cases g1
  · cases hp

theorem out_sound (h : RelW B s x a w) {mu kt kr : List Nat} (hmu : B.muts = mu) {s2 : Sit} {x2 : X} {a2 : Act} {w2 : World} (h2 : RelW (B.inner s x a w) s2 x2 a2 w2) {e : Exit} {K : Exit → X → Option α} {q : α} :
    ∀ (l : List Out) {d : den (outTy l)}, packK x kt kr l e x2 = some d → unpackK x mu kt kr l d K = some q → ∃ x' s', K e x' = some q ∧ RelW B s' x' a2 w2
  | [], d, hp, hu => by cases hp
  | [o], d, hp, hu => by
    obtain ⟨e1, s', r1, -⟩ := pack1_sound h hmu h2 hp
    subst e1
    exact ⟨_, s', hu, r1⟩
  | o :: p :: l, d, hp, hu => by
    unfold packK at hp
    split at hp
    · obtain ⟨d', h3, h4⟩ := Option.map_eq_some_iff.mp hp
      subst h4
      obtain ⟨e1, s', r1, -⟩ := pack1_sound h hmu h2 h3
      subst e1
      exact ⟨_, s', hu, r1⟩
    · obtain ⟨d', h3, h4⟩ := Option.map_eq_some_iff.mp hp
      subst h4
      exact out_sound h hmu h2 (p :: l) h3 hu

/-- Before a part of the code is run: what is owned is shared for good. -/
def freezesK : List (Nat × Path) → X → (X → Option α) → Option α
  | [], x, K => K x
  | e :: l, x, K => freezeK x e.1 e.2 fun _ x1 => freezesK l x1 K

theorem freezes_sound : ∀ (l : List (Nat × Path)) {s : Sit} {x : X} {K : X → Option α} {q : α}, RelW B s x a w → freezesK l x K = some q → ∃ x' s', K x' = some q ∧ RelW B s' x' a w
  | [], s, x, K, q, h, he => ⟨x, s, he, h⟩
  | e :: l, s, x, K, q, h, he => by
    obtain ⟨t, x1, s1, h1, h2⟩ := freeze_sound h he
    exact freezes_sound l h2.rel h1

end
end Go.V

/-! What a caller hands on. -/
namespace Go.V
open Go.RowKit

variable {α : Type}

theorem weakSl0 {w : World} {S : Fl → Nat → Prop} (hrb : ∀ b, S .ro b → S .bo b) {e : Ty} (ih : ∀ (d : den e) (j : Nat) (t : T) (v : Value), (cells .ro e d)[j]? = some t → RepR w S t v →
    ∃ t', (cells .bo e d)[j]? = some t' ∧ RepR w S t' v) {xs : List (den e)} {v : Value} (hr : RepR w S (.sl .ro e xs) v) : RepR w S (.sl .bo e xs) v := by
  cases hr with
  | nil _ _ ad cap => exact .nil .bo e ad cap
  | box _ _ _ hb => simp [T.shBox?] at hb
  | sl _ _ _ b off cap vs hR hcap hc hr =>
    have hcell : ∀ i j t, cellOf (rows .bo e xs) i j = some t → ∃ u, cellOf (rows .ro e xs) i j = some u := by
      intro i j t e'
      have hij := rows_lt e'
      rw [cellOf_rows, List.getElem?_eq_getElem hij.1, Option.bind_some, nth_eq]
      exact ⟨_, List.getElem?_eq_getElem (by rw [length_cells]; exact hij.2)⟩
    refine .sl .bo e xs b off cap vs (hrb b hR) hcap (fun i j t e' => ?_) (fun i j t e' => ?_)
    · obtain ⟨u, hu⟩ := hcell i j t e'
      exact hc i j u hu
    · obtain ⟨u, hu⟩ := hcell i j t e'
      have h1 := hr i j u hu
      rw [cellOf_rows] at hu e'
      obtain ⟨d, g1, g2⟩ := Option.bind_eq_some_iff.mp hu
      rw [g1, Option.bind_some] at e'
      rw [nth_eq] at g2 e'
      obtain ⟨t', k1, k2⟩ := ih d j u _ g2 h1
      rw [k1, Option.some.injEq] at e'
      subst e'
      exact k2

theorem weakPt0 {w : World} {S : Fl → Nat → Prop} (hrb : ∀ b, S .ro b → S .bo b) {e : Ty} (ih : ∀ (d : den e) (j : Nat) (t : T) (v : Value), (cells .ro e d)[j]? = some t → RepR w S t v →
    ∃ t', (cells .bo e d)[j]? = some t' ∧ RepR w S t' v) {d : den e} {v : Value} (hr : RepR w S (.pt .ro e d) v) : RepR w S (.pt .bo e d) v := by
  cases hr with
  | box _ f cs hb b off vs hR hc hr =>
    simp only [T.shBox?, Option.some.injEq, Prod.mk.injEq] at hb
    obtain ⟨rfl, rfl⟩ := hb
    have hcell : ∀ (j : Nat) t, (cells .bo e d)[j]? = some t → ∃ u, (cells .ro e d)[j]? = some u := by
      intro j t e'
      have := (List.getElem?_eq_some_iff.mp e').1
      rw [length_cells] at this
      exact ⟨_, List.getElem?_eq_getElem (by rw [length_cells]; exact this)⟩
    refine .box _ .bo _ rfl b off vs (hrb b hR) (fun j t e' => ?_) (fun j t e' => ?_)
    · obtain ⟨u, hu⟩ := hcell j t e'
      exact hc j u hu
    · obtain ⟨u, hu⟩ := hcell j t e'
      obtain ⟨t', k1, k2⟩ := ih d j u _ hu (hr j u hu)
      rw [k1, Option.some.injEq] at e'
      subst e'
      exact k2

/-- What is shared for good may be lent. -/
theorem weakCells {w : World} {S : Fl → Nat → Prop} (hrb : ∀ b, S .ro b → S .bo b) : ∀ (e : Ty) (d : den e) (j : Nat) (t : T) (v : Value), (cells .ro e d)[j]? = some t → RepR w S t v →
    ∃ t', (cells .bo e d)[j]? = some t' ∧ RepR w S t' v := by
  intro e
  induction e with
  | pair a b iha ihb =>
    intro d j t v h hr
    simp only [cells, app_eq] at h ⊢
    have hl : (cells .ro a d.1).length = (cells .bo a d.1).length := by rw [length_cells, length_cells]
    by_cases hj : j < (cells .ro a d.1).length
    · rw [List.getElem?_append_left hj] at h
      obtain ⟨t', h1, h2⟩ := iha d.1 j t v h hr
      exact ⟨t', by rw [List.getElem?_append_left (by omega)]; exact h1, h2⟩
    · rw [List.getElem?_append_right (by omega)] at h
      obtain ⟨t', h1, h2⟩ := ihb d.2 _ t v h hr
      exact ⟨t', by rw [List.getElem?_append_right (by omega), ← hl]; exact h1, h2⟩
  | sl e ih =>
    intro xs j t v h hr
    cases j with
    | succ j => simp [cells] at h
    | zero =>
      simp only [cells, List.getElem?_cons_zero, Option.some.injEq] at h
      subst h
      refine ⟨.sl .bo e xs, rfl, ?_⟩
      exact weakSl0 hrb ih hr
  | ptr e ih =>
    intro d j t v h hr
    cases j with
    | succ j => simp [cells] at h
    | zero =>
      simp only [cells, List.getElem?_cons_zero, Option.some.injEq] at h
      subst h
      exact ⟨.pt .bo e d, rfl, weakPt0 hrb ih hr⟩
  | _ => intro d j t v h hr; exact ⟨t, h, hr⟩

theorem weakSl {w : World} {S : Fl → Nat → Prop} (hrb : ∀ b, S .ro b → S .bo b) {e : Ty} {xs : List (den e)} {v : Value} (h : RepR w S (.sl .ro e xs) v) : RepR w S (.sl .bo e xs) v := by
  obtain ⟨t', h1, h2⟩ := weakCells hrb (.sl e) xs 0 (.sl .ro e xs) v rfl h
  simp only [cells, List.getElem?_cons_zero, Option.some.injEq] at h1
  subst h1
  exact h2

theorem weakPt {w : World} {S : Fl → Nat → Prop} (hrb : ∀ b, S .ro b → S .bo b) {e : Ty} {d : den e} {v : Value} (h : RepR w S (.pt .ro e d) v) : RepR w S (.pt .bo e d) v := by
  obtain ⟨t', h1, h2⟩ := weakCells hrb (.ptr e) d 0 (.pt .ro e d) v rfl h
  simp only [cells, List.getElem?_cons_zero, Option.some.injEq] at h1
  subst h1
  exact h2

/-! ### lending -/
def isBo : Fl → Bool
  | .bo => true
  | _ => false

/-- A cell, as the one who is called sees it. -/
def lendCK (x : X) (f : Fl) (hint : Option Ty) (y : C) (K : T → Option α) : Option α := match y with
  | .k t => match t with
    | .sl f' e xs => match flEq f' f with
      | true => match flEq f .own with
        | true => none
        | false => K (.sl f' e xs)
      | false => match and (flEq f' .ro) (isBo f) with
        | true => K (.sl .bo e xs)
        | false => none
    | .pt f' e d => match flEq f' f with
      | true => match flEq f .own with
        | true => none
        | false => K (.pt f' e d)
      | false => match and (flEq f' .ro) (isBo f) with
        | true => K (.pt .bo e d)
        | false => none
    | .v v => K (.v v)
    | _ => none
  | .nil => match flEq f .own with
    | true => none
    | false => hint.bind fun e => K (.sl f e [])
  | .own r p _ => match isBo f with
    | true => atK x r p fun t => match t with
      | .sl .own e xs => K (.sl .bo e xs)
      | _ => none
    | false => none
  | .sub r p lo n e0 => match isBo f with
    | true => atK x r p fun t => match t with
      | .sl .own e xs => match Nat.beq e.size e0.size with
        | true => K (.sl .bo e (midL xs lo n))
        | false => none
      | _ => none
    | false => none
  | .pt r p i j _ => match and (isBo f) (and (Nat.beq i 0) (Nat.beq j 0)) with
    | true => atK x r p fun t => match t with
      | .pt .own e d => K (.pt .bo e d)
      | _ => none
    | false => none
  | _ => none

def lendCsK (x : X) (f : Fl) : List (Option Ty) → List C → (List T → Option α) → Option α
  | _, [], K => K []
  | h :: hs, y :: ys, K => lendCK x f h y fun t => lendCsK x f hs ys fun ts => K (t :: ts)
  | [], y :: ys, K => lendCK x f none y fun t => lendCsK x f [] ys fun ts => K (t :: ts)

/-- What may be read while somebody is called: what was to be read before, and all that is owned. -/
def lent (s : Sit) : Fl → Nat → Prop := fun f b => s.S f b ∨ (f = .bo ∧ ∃ r p y, s.Φ r p = some y ∧ blkOf y = some b)

section
variable {c : Ctx} {B : Base} {s : Sit} {x : X} {a : Act} {w : World}

theorem lent_rb (h : RelW B s x a w) : ∀ b, lent s .ro b → lent s .bo b := by
  intro b hb
  rcases hb with hb | ⟨e, _⟩
  · exact .inl (h.srb b hb)
  · cases e

theorem lend_own (h : RelW B s x a w) {r : Nat} {p : Path} {t : T} (hp : x.at r p = some t) : ∃ y, RepO w s.S t y ((s.Φ r).under p) ∧ RepR w (lent s) t.lend y := by
  obtain ⟨row, k1, k2⟩ := Option.bind_eq_some_iff.mp hp
  obtain ⟨y0, hy0⟩ := h.roots r row k1
  obtain ⟨y, hy⟩ := getT_own p hy0 k2
  exact ⟨y, hy, hy.toR (fun f b hS => .inl hS) (fun q z b e1 e2 => .inr ⟨rfl, r, p ++ q, z, e1, e2⟩)⟩

theorem lendC_sound (h : RelW B s x a w) {f : Fl} {hint : Option Ty} {y : C} {v : Value} (hy : RepC w s y v) {K : T → Option α} {q : α} (he : lendCK x f hint y K = some q) :
    ∃ t, K t = some q ∧ RepR w (lent s) t v := by
  have mon : ∀ {t : T}, RepR w s.S t v → RepR w (lent s) t v := fun h => h.mono (fun _ _ _ => rfl) (fun f b hS => .inl hS)
  unfold lendCK at he
  split at he
  · cases hy with
    | k t _ hr =>
      split at he
      · rename_i f' e xs
        split at he
        · split at he
          · cases he
          · exact ⟨_, he, mon hr⟩
        · split at he
          · rename_i hb
            simp only [Bool.and_eq_true] at hb
            have hf := flEq_eq hb.1
            subst hf
            exact ⟨_, he, weakSl (lent_rb h) (mon hr)⟩
          · cases he
      · rename_i f' e d
        split at he
        · split at he
          · cases he
          · exact ⟨_, he, mon hr⟩
        · split at he
          · rename_i hb
            simp only [Bool.and_eq_true] at hb
            have hf := flEq_eq hb.1
            subst hf
            exact ⟨_, he, weakPt (lent_rb h) (mon hr)⟩
          · cases he
      · exact ⟨_, he, mon hr⟩
      · cases he
  · split at he
    · cases he
    · obtain ⟨e, h1, he⟩ := Option.bind_eq_some_iff.mp he
      cases hy with
      | nil ad => exact ⟨_, he, .nil f e ad 0⟩
  · rename_i r p e0
    split at he
    · obtain ⟨t, h1, he⟩ := atK_some he
      split at he
      · rename_i e xs
        cases hy with
        | own _ _ _ _ hΦ =>
          obtain ⟨y, g1, g2⟩ := lend_own h h1
          have : y = v := by
            have h3 := sl_lay g1
            rw [Lay.under_apply_nil, hΦ, Option.some.injEq] at h3
            exact h3.symm
          subst this
          exact ⟨_, he, g2⟩
      · cases he
    · cases he
  · rename_i r p lo n e0
    split at he
    · obtain ⟨t, h1, he⟩ := atK_some he
      split at he
      · rename_i e xs
        split at he
        · rename_i hsz
          have hsz := Nat.eq_of_beq_eq_true hsz
          cases hy with
          | sub _ _ _ _ _ a1 a' n0 cap cap' hΦ hle hcap hcn hcc h0 hn =>
            obtain ⟨y, g1, g2⟩ := lend_own h h1
            have hyv : y = .slice a1 n0 cap := by
              have h3 := sl_lay g1
              rw [Lay.under_apply_nil, hΦ, Option.some.injEq] at h3
              exact h3.symm
            subst hyv
            obtain ⟨ψ, m1, m2⟩ := mid_rep (a' := a') g1 hle hcn hcc (fun hc0 => by
              obtain ⟨b, off, f1, f2⟩ := hn hc0
              exact ⟨b, off, f1, by rw [f2, hsz]⟩)
            refine ⟨_, he, ?_⟩
            exact m1.toR (t := .sl .own e (midL xs lo n)) (fun f b hS => .inl hS) (fun q z b e1 e2 => by
              obtain ⟨q', y', k1, k2, _⟩ := m2 q z b e1 e2
              exact .inr ⟨rfl, r, p ++ q', y', k1, k2⟩)
        · cases he
      · cases he
    · cases he
  · rename_i r p i j sz
    split at he
    · rename_i hb
      simp only [Bool.and_eq_true] at hb
      have hi := Nat.eq_of_beq_eq_true hb.2.1
      have hj := Nat.eq_of_beq_eq_true hb.2.2
      subst hi hj
      obtain ⟨t, h1, he⟩ := atK_some he
      split at he
      · rename_i e d
        obtain ⟨y, g1, g2⟩ := lend_own h h1
        cases hy with
        | pt _ _ _ _ _ z b hΦ hb2 =>
          refine ⟨_, he, ?_⟩
          have : y = .pointer (some ⟨b, offOf z + (0 * sz + 0), none⟩) := by
            have h4 : ((s.Φ r).under p) [] = some z := by rw [Lay.under_apply_nil]; exact hΦ
            generalize (s.Φ r).under p = φ at g1 h4
            cases g1 with
            | sh _ _ _ ht => simp [T.isSh] at ht
            | box _ cs ht b' arr el vs φ hb' hsz hc hr h0 hn =>
              rw [h0, Option.some.injEq] at h4
              subst h4
              simp only [blkOf, Option.some.injEq] at hb2
              subst hb2
              simp [offOf]
          rw [← this]
          exact g2
      · cases he
    · cases he
  · cases he

theorem lendCs_sound (h : RelW B s x a w) {f : Fl} : ∀ {ys : List C} {hs : List (Option Ty)} {vals : List Value} {K : List T → Option α} {q : α},
    (∀ (j : Nat) y, ys[j]? = some y → ∃ u, vals[j]? = some u ∧ RepC w s y u) → lendCsK x f hs ys K = some q →
    ∃ ts, K ts = some q ∧ ts.length = ys.length ∧ ∀ (j : Nat) t, ts[j]? = some t → ∃ u, vals[j]? = some u ∧ RepR w (lent s) t u := by
  intro ys
  induction ys with
  | nil =>
    intro hs vals K q _ he
    have he : K [] = some q := by cases hs <;> exact he
    exact ⟨[], he, rfl, fun j t e => by simp at e⟩
  | cons y ys ih =>
    intro hs vals K q hv he
    obtain ⟨u0, g1, g2⟩ := hv 0 y rfl
    have step : ∀ {hint : Option Ty} {hs' : List (Option Ty)}, (lendCK x f hint y fun t => lendCsK x f hs' ys fun ts => K (t :: ts)) = some q →
        ∃ ts, K ts = some q ∧ ts.length = (y :: ys).length ∧ ∀ (j : Nat) t, ts[j]? = some t → ∃ u, vals[j]? = some u ∧ RepR w (lent s) t u := by
      intro hint hs' he
      obtain ⟨t, k1, k2⟩ := lendC_sound h g2 he
      obtain ⟨ts, m1, m2, m3⟩ := ih (vals := vals.tail) (fun j y' e => by
        obtain ⟨u, f1, f2⟩ := hv (j + 1) y' (by simpa using e)
        exact ⟨u, by simpa using f1, f2⟩) k1
      refine ⟨t :: ts, m1, by simp [m2], fun j t' e => ?_⟩
      cases j with
      | zero => simp only [List.getElem?_cons_zero, Option.some.injEq] at e; subst e; exact ⟨u0, g1, k2⟩
      | succ j =>
        obtain ⟨u, f1, f2⟩ := m3 j t' (by simpa using e)
        exact ⟨u, by simpa using f1, f2⟩
    cases hs with
    | nil => exact step he
    | cons h0 hs => exact step he

end
end Go.V

/-! Calls of functions whose meaning is known. -/
namespace Go.V
open Go.RowKit

variable {α : Type}

structure PS where
  agg : Bool
  f : Fl
  e : Ty

structure RS where
  agg : Bool
  g : Fl
  e : Ty

structure Sig where
  ps : List PS
  rs : List RS

def argTy : List PS → Ty
  | [] => .unit
  | [p] => p.e
  | p :: q :: l => .pair p.e (argTy (q :: l))

def resTy : List RS → Ty
  | [] => .unit
  | [p] => p.e
  | p :: q :: l => .pair p.e (resTy (q :: l))

def hintsOf : Ty → List (Option Ty)
  | .sl e => [some e]
  | .rsl e => [some e]
  | .pair a b => app (hintsOf a) (hintsOf b)
  | .unit => []
  | _ => [none]

def oneT (ts : List T) : T := match ts with
  | [t] => t
  | _ => .dead

def paramD (p : PS) (d : den p.e) : D := match p.agg with
  | true => .v (.ag (mapL C.k (cells p.f p.e d)))
  | false => .v (.c (.k (oneT (cells p.f p.e d))))

def paramsD : (l : List PS) → den (argTy l) → List D
  | [], _ => []
  | [p], d => [paramD p d]
  | p :: q :: l, d => paramD p d.1 :: paramsD (q :: l) d.2

def viewV (k off : Nat) (agg : Bool) (ts : List T) : V := match agg with
  | true => .ag (viewsFrom k [] 0 off ts)
  | false => .c (viewC k [(0, off)] (oneT ts))

def resRow : (l : List RS) → den (resTy l) → List T
  | [], _ => []
  | [r], d => cells r.g r.e d
  | r :: q :: l, d => app (cells r.g r.e d.1) (resRow (q :: l) d.2)

def resViews (k : Nat) : Nat → (l : List RS) → den (resTy l) → List V
  | _, [], _ => []
  | off, [r], d => [viewV k off r.agg (cells r.g r.e d)]
  | off, r :: q :: l, d => viewV k off r.agg (cells r.g r.e d.1) :: resViews k (off + r.e.size) (q :: l) d.2

def tupOf : List V → D
  | [v] => .v v
  | l => .tup l

def resD (k : Nat) (l : List RS) (d : den (resTy l)) : D := tupOf (resViews k 0 l d)

/-- Shared blocks, and no others. -/
def roS (ro : Nat → Prop) : Fl → Nat → Prop := fun f b => (f = .ro ∨ f = .bo) ∧ ro b

/-- What a call leaves. -/
structure Left (base : Nat) (s : Sit) (w' : World) (ro : Nat → Prop) (row : List T) (φ : Lay) : Prop where
  ro0 : ∀ b, s.S .ro b → ro b
  ro1 : ∀ b, ro b → s.S .ro b ∨ (base ≤ b ∧ b < w'.heap.size)
  rep : ∃ u, RepO w' (roS ro) (.vr row) u φ
  inj : Inj φ
  own : ∀ q y b, φ q = some y → blkOf y = some b → base ≤ b ∧ b < w'.heap.size ∧ ¬ ro b

/-- A call of a function, at whatever data of these types, hands back what is said; nothing that was there turns. -/
def SoundF (P : Program) (G : List (Nat × T)) (f : FuncId) (sg : Sig) (sem : den (argTy sg.ps) → Option (den (resTy sg.rs))) : Prop :=
  ∀ (w : World) (s : Sit) (vs : List Value) (d : den (argTy sg.ps)) (r : den (resTy sg.rs)), (∀ k, s.Φ k = noLay) → (∀ f b, s.S f b → b < w.heap.size) → (∀ b, ¬ s.S .own b) → (∀ b, s.S .ro b → s.S .bo b) →
    (∀ g t, look G g = some t → RepR w s.S t (.pointer (some ⟨g, 0, none⟩))) → vs.length = sg.ps.length →
    (∀ (j : Nat) D, (paramsD sg.ps d)[j]? = some D → ∃ v, vs[j]? = some v ∧ RepD w s D v) → sem d = some r →
    Calls P f vs.toArray w fun e w' => ∃ v ro φ, e = .returned v ∧ Below w.heap.size w w' ∧ Left w.heap.size s w' ro (resRow sg.rs r) φ ∧
      ∀ s' k, s'.S = roS ro → s'.Φ k = φ → RepD w' s' (resD k sg.rs r) v

structure Fn where
  sg : Sig
  sem : den (argTy sg.ps) → Option (den (resTy sg.rs))

def cellsOf (agg : Bool) (d : D) : Option (List C) := match agg with
  | true => d.agg?
  | false => (d.one).map fun y => [y]

def argK (cx : Ctx) (x : X) (p : PS) (o : Operand) (K : den p.e → Option α) : Option α := (evalD cx x o).bind fun d => (cellsOf p.agg d).bind fun ys =>
  lendCsK x p.f (hintsOf p.e) ys fun ts => (packAll p.f p.e ts).bind K

def argsK (cx : Ctx) (x : X) : (l : List PS) → List Operand → (den (argTy l) → Option α) → Option α
  | [], os, K => match os with
    | [] => K ()
    | _ :: _ => none
  | [p], os, K => (one? os).bind fun o => argK cx x p o K
  | p :: q :: l, os, K => match os with
    | o :: os => argK cx x p o fun d => argsK cx x (q :: l) os fun e => K (d, e)
    | [] => none

def callK (cx : Ctx) (nt : Fr) (F : Fn) (x : X) (args : List Operand) (k : Nat) (K : X → Option α) : Option α :=
  argsK cx x F.sg.ps args fun d => (F.sem d).bind fun r => (x.hang k (resRow F.sg.rs r)).bind fun x1 => putK nt x1 k (resD k F.sg.rs r) K

section
variable {c : Ctx} {B : Base} {s : Sit} {x : X} {a : Act} {w : World} {nt : Fr}

def lentSit (s : Sit) : Sit := { S := lent s, Φ := fun _ => noLay, F := s.F }

theorem arg_sound (hG : Fit B c) (h : RelW B s x a w) {p : PS} {o : Operand} {K : den p.e → Option α} {q : α} (he : argK c x p o K = some q) :
    ∃ d, K d = some q ∧ RepD w (lentSit s) (paramD p d) (a.eval o) := by
  unfold argK at he
  obtain ⟨d0, h1, he0⟩ := Option.bind_eq_some_iff.mp he
  obtain ⟨ys, h2, he1⟩ := Option.bind_eq_some_iff.mp he0
  clear he he0
  have hr := evalD_sound hG h h1
  unfold cellsOf at h2
  unfold paramD
  cases hagg : p.agg with
  | true =>
    rw [hagg] at h2
    have h2 := D.agg?_some h2
    subst h2
    generalize a.eval o = v at hr
    cases hr with
    | v _ _ hr => cases hr with
      | ag _ arr hs hc =>
        obtain ⟨ts, k1, k2, k3⟩ := lendCs_sound h (vals := arr.toList) (fun j y e => by
          obtain ⟨u, g1, g2⟩ := hc j y e
          exact ⟨u, by simpa using g1, g2⟩) he1
        obtain ⟨d, k4, k5⟩ := Option.bind_eq_some_iff.mp k1
        have k4 := packAll_some k4
        refine ⟨d, k5, .v _ _ (.ag _ arr (by rw [mapL_eq, List.length_map, ← k4, k2, hs]) (fun j y e => ?_))⟩
        rw [mapL_eq, List.getElem?_map, ← k4] at e
        obtain ⟨t, e1, rfl⟩ := Option.map_eq_some_iff.mp e
        obtain ⟨u, g1, g2⟩ := k3 j t e1
        exact ⟨u, by simpa using g1, .k _ _ g2⟩
  | false =>
    rw [hagg] at h2
    obtain ⟨y, h3, rfl⟩ := Option.map_eq_some_iff.mp h2
    have h3 := D.one_some h3
    subst h3
    generalize a.eval o = v at hr
    cases hr with
    | v _ _ hr => cases hr with
      | c _ _ hr =>
        obtain ⟨ts, k1, k2, k3⟩ := lendCs_sound h (vals := [v]) (fun j y' e => by
          cases j with
          | zero => simp only [List.getElem?_cons_zero, Option.some.injEq] at e; subst e; exact ⟨v, rfl, hr⟩
          | succ j => simp at e) he1
        obtain ⟨d, k4, k5⟩ := Option.bind_eq_some_iff.mp k1
        have k4 := packAll_some k4
        refine ⟨d, k5, .v _ _ (.c _ _ (.k _ _ ?_))⟩
        rw [← k4]
        match ts, k2 with
        | [t], _ =>
          obtain ⟨u, g1, g2⟩ := k3 0 t rfl
          simp only [List.getElem?_cons_zero, Option.some.injEq] at g1
          subst g1
          exact g2

theorem args_sound (hG : Fit B c) (h : RelW B s x a w) : ∀ (l : List PS) {os : List Operand} {K : den (argTy l) → Option α} {q : α}, argsK c x l os K = some q →
    ∃ d, K d = some q ∧ os.length = l.length ∧ ∀ (j : Nat) D, (paramsD l d)[j]? = some D → ∃ v, (os.map a.eval)[j]? = some v ∧ RepD w (lentSit s) D v
  | [], os, K, q, he => by
    cases os with
    | nil => exact ⟨(), he, rfl, fun j D e => by simp [paramsD] at e⟩
    | cons => cases he
  | [p], os, K, q, he => by
    obtain ⟨o, h1, he⟩ := Option.bind_eq_some_iff.mp he
    have h1 := one?_some h1
    subst h1
    obtain ⟨d, k1, k2⟩ := arg_sound hG h he
    refine ⟨d, k1, rfl, fun j D e => ?_⟩
    have e : [paramD p d][j]? = some D := e
    cases j with
    | zero => simp only [List.getElem?_cons_zero, Option.some.injEq] at e; subst e; exact ⟨_, rfl, k2⟩
    | succ j => simp at e
  | p :: q' :: l, os, K, q, he => by
    cases os with
    | nil => cases he
    | cons o os =>
      obtain ⟨d, k1, k2⟩ := arg_sound hG h (K := fun d => argsK c x (q' :: l) os fun e => K (d, e)) he
      obtain ⟨e, m1, m2, m3⟩ := args_sound hG h (q' :: l) k1
      refine ⟨(d, e), m1, by simp [m2], fun j D hD => ?_⟩
      have hD : (paramD p d :: paramsD (q' :: l) e)[j]? = some D := hD
      cases j with
      | zero => simp only [List.getElem?_cons_zero, Option.some.injEq] at hD; subst hD; exact ⟨_, rfl, k2⟩
      | succ j =>
        obtain ⟨v, f1, f2⟩ := m3 j D (by simpa using hD)
        exact ⟨v, by simpa using f1, f2⟩

/-- After a call. -/
theorem RelW.called (h : RelW B s x a w) {w' : World} (hb : Below w.heap.size w w') {ro : Nat → Prop} {row : List T} {φ : Lay} (hl : Left w.heap.size (lentSit s) w' ro row φ) {k : Nat} {x1 : X} (hx : x.hang k row = some x1) :
    ∃ s', RelW B s' x1 a w' ∧ s'.Φ k = φ ∧ ∀ f b, roS ro f b → s'.S f b := by
  have hro : ∀ b, ro b → s.S .ro b ∨ (w.heap.size ≤ b ∧ b < w'.heap.size) := by
    intro b hb'
    rcases hl.ro1 b hb' with (h1 | ⟨e, _⟩) | h1
    · exact .inl h1
    · cases e
    · exact .inr h1
  have h1 := h.world (w' := w') (fun b hlt => hb.block b hlt) hb.size hb.os hb.tape hb.output
  let s1 : Sit := { s with S := fun f b => s.S f b ∨ roS ro f b }
  have h2 : RelW B s1 x a w' := { h1 with
    env := fun k d e => by
      obtain ⟨v, g1, g2⟩ := h1.env k d e
      exact ⟨v, g1, g2.mono (fun _ _ _ => rfl) (fun f b hS => .inl hS) rfl (fun _ _ => rfl)⟩
    roots := fun r row e => by
      obtain ⟨y, hy⟩ := h1.roots r row e
      exact ⟨y, hy.mono (fun _ _ _ => rfl) (fun f b hS => .inl hS) (fun _ _ _ _ _ => rfl)⟩
    own := fun r p y b e1 e2 => by
      have := h1.own r p y b e1 e2
      refine ⟨fun f hS => ?_, this.2⟩
      rcases hS with hS | ⟨_, hr⟩
      · exact this.1 f hS
      · rcases hro b hr with hr | hr
        · exact this.1 .ro hr
        · have := (h.own r p y b e1 e2).2.1; omega
    slt := fun f b hS => by
      rcases hS with hS | ⟨_, hr⟩
      · exact h1.slt f b hS
      · rcases hro b hr with hr | hr
        · exact h1.slt .ro b hr
        · exact hr.2
    sown := fun b hS => by
      rcases hS with hS | ⟨e, _⟩
      · exact h1.sown b hS
      · simp at e
    sro := fun b hR => .inl (h1.sro b hR)
    srn := fun b hS => by
      rcases hS with hS | ⟨_, hr⟩
      · exact h1.srn b hS
      · rcases hro b hr with hr | hr
        · exact h1.srn b hr
        · exact .inr (.inr (Nat.le_trans h.grow hr.1))
    sbo := fun b hB => .inl (h1.sbo b hB)
    srb := fun b hS => by
      rcases hS with hS | ⟨_, e⟩
      · exact .inl (h1.srb b hS)
      · exact .inr ⟨.inr rfl, e⟩
    sbn := fun b hS => by
      rcases hS with hS | ⟨_, e⟩
      · exact (h1.sbn b hS).imp id .inl
      · exact .inr (.inr ⟨.inl rfl, e⟩)
    glob := fun g t e => (h1.glob g t e).mono (fun _ _ _ => rfl) (fun f b hS => .inl hS) }
  obtain ⟨u, hu⟩ := hl.rep
  have hu' := hu.mono (w' := w') (S' := s1.S) (fun _ _ _ => rfl) (fun f b hS => .inr hS) (fun _ _ _ _ _ => rfl)
  have hout : OwnOut B s1 w' φ := ⟨hl.inj, fun q y b e1 e2 => by
      have := hl.own q y b e1 e2
      refine ⟨fun f hS => ?_, this.2.1, .inr (Nat.le_trans h.grow this.1)⟩
      rcases hS with hS | ⟨_, hr⟩
      · have := h.slt f b hS; omega
      · exact this.2.2 hr,
    fun q y b e1 e2 r p z e3 e4 => by
      have h3 := hl.own q y b e1 e2
      have h4 := (h.own r p z b e3 e4).2.1
      omega⟩
  exact ⟨_, h2.hang hu' hout hx, by rw [setΦ_same], fun f b hS => .inr hS⟩

theorem call_sound (hG : Fit B c) (hnt : B.nt = nt) (h : RelW B s x a w) {f : FuncId} {F : Fn} (hF : SoundF c.P c.G f F.sg F.sem) {args : Array Operand} {k : Nat} {K : X → Option α} {q : α}
    (he : callK c nt F x args.toList k K = some q) {Kp : Act → World → Prop} (hK : ∀ x' s' v w', K x' = some q → RelW B s' x' (a.gput B k v) w' → Kp (a.gput B k v) w') :
    Calls c.P f (args.map a.eval) w fun e w' => match e with
      | .returned v => Kp (a.gput B k v) w'
      | _ => False := by
  unfold callK at he
  obtain ⟨d, h2, h3, h4⟩ := args_sound hG h F.sg.ps he
  obtain ⟨r, h5, h6⟩ := Option.bind_eq_some_iff.mp h2
  obtain ⟨x1, h7, h8⟩ := Option.bind_eq_some_iff.mp h6
  have hcall := hF w (lentSit s) (args.toList.map a.eval) d r (fun _ => rfl) (fun f b hS => by
      rcases hS with hS | ⟨_, r, p, y, e1, e2⟩
      · exact h.slt f b hS
      · exact (h.own r p y b e1 e2).2.1) (fun b hS => by
      rcases hS with hS | ⟨e, _⟩
      · exact h.sown b hS
      · cases e) (lent_rb h) (fun g t hg => (h.glob g t (by rw [hG.g]; exact hg)).mono (fun _ _ _ => rfl) (fun f b hS => .inl hS)) (by simpa using h3) h4 h5
  have harr : (args.toList.map a.eval).toArray = args.map a.eval := by apply Array.ext'; simp
  rw [harr] at hcall
  refine hcall.mono (fun e w' he => ?_)
  obtain ⟨v, ro, φ, rfl, hbel, hl, hrep⟩ := he
  obtain ⟨s', g1, g2, g3⟩ := h.called hbel hl h7
  have hrep' := hrep { s' with S := roS ro } k rfl g2
  obtain ⟨x', k1, k2⟩ := put_sound hnt g1 h8 (hrep'.mono (s' := s') (fun _ _ _ => rfl) g3 rfl (fun _ _ => rfl))
  exact hK x' s' v w' k1 k2

end
end Go.V

/-! Calls that write through what they are handed: what is known of such a function. -/
namespace Go.V
open Go.RowKit

variable {α : Type}

def keysOf {β : Type} : List (Nat × β) → List Nat
  | [] => []
  | e :: l => e.1 :: keysOf l

theorem keysOf_look {β : Type} {l : List (Nat × β)} {k : Nat} : k ∈ keysOf l ↔ ∃ x, look l k = some x := by
  induction l with
  | nil => simp [keysOf, look]
  | cons e l ih =>
    obtain ⟨k0, x0⟩ := e
    simp only [keysOf, List.mem_cons, look_cons]
    by_cases h : k = k0
    · subst h; simp
    · rw [if_neg h]; simp [h, ih]

/-- What speaks of no other roots than these. -/
def limD (keys : List Nat) (d : D) : D := match atsIn keys d with
  | true => d
  | false => .v (.c (.k .dead))


section
variable {c : Ctx} {B : Base} {s : Sit} {x y : X} {a : Act} {w : World}

theorem RepC.somewhere {y : C} {v : Value} (h : RepC w s y v) : ∀ rp ∈ y.ats, ∃ z, s.Φ rp.1 rp.2 = some z := by
  intro rp hrp
  cases h with
  | own r p e v h => simp only [C.ats, List.mem_singleton] at hrp; subst hrp; exact ⟨_, h⟩
  | sub r p lo n e a a' n0 cap cap' h => simp only [C.ats, List.mem_singleton] at hrp; subst hrp; exact ⟨_, h⟩
  | pt r p i j sz x b h => simp only [C.ats, List.mem_singleton] at hrp; subst hrp; exact ⟨_, h⟩
  | fnp f caps cap hs hc =>
    obtain ⟨m, hm⟩ := List.getElem?_of_mem hrp
    obtain ⟨b, h1, -⟩ := hc m rp.1 rp.2 hm
    exact ⟨_, h1⟩
  | _ => simp [C.ats] at hrp

theorem RepV.somewhere {y : V} {v : Value} (h : RepV w s y v) : ∀ rp ∈ y.ats, ∃ z, s.Φ rp.1 rp.2 = some z := by
  intro rp hrp
  cases h with
  | c x v h => exact h.somewhere rp hrp
  | ag cs arr hs h =>
    simp only [V.ats, List.mem_flatMap] at hrp
    obtain ⟨c0, h1, h2⟩ := hrp
    obtain ⟨j, hj⟩ := List.getElem?_of_mem h1
    obtain ⟨v, -, h3⟩ := h j c0 hj
    exact h3.somewhere rp h2

theorem RepD.somewhere {y : D} {v : Value} (h : RepD w s y v) : ∀ rp ∈ y.ats, ∃ z, s.Φ rp.1 rp.2 = some z := by
  intro rp hrp
  cases h with
  | v x v h => exact h.somewhere rp hrp
  | tup cs arr hs h =>
    simp only [D.ats, List.mem_flatMap] at hrp
    obtain ⟨c0, h1, h2⟩ := hrp
    obtain ⟨j, hj⟩ := List.getElem?_of_mem h1
    obtain ⟨v, -, h3⟩ := h j c0 hj
    exact h3.somewhere rp h2

def hideS (s : Sit) (Rt : List (Nat × List T)) : Sit := { s with Φ := fun r => if (look Rt r).isSome = true then s.Φ r else noLay }

theorem hide_some {s : Sit} {Rt : List (Nat × List T)} {r : Nat} {p : Path} {z : Value} (h : (hideS s Rt).Φ r p = some z) : (look Rt r).isSome = true ∧ s.Φ r p = some z := by
  simp only [hideS] at h
  split at h
  · rename_i e; exact ⟨e, h⟩
  · cases h

theorem hide_in {s : Sit} {Rt : List (Nat × List T)} {r : Nat} (h : (look Rt r).isSome = true) : (hideS s Rt).Φ r = s.Φ r := by
  simp only [hideS]; rw [if_pos h]

end

/-- A parameter that is written through: a pointer to a box. -/
def isMut (p : PS) : Bool := match p.f with
  | .own => true
  | _ => false

def hasMut (l : List PS) : Bool := anyL isMut l

def mutJs : Nat → List PS → List Nat
  | _, [] => []
  | j, p :: l => match isMut p with
    | true => j :: mutJs (j + 1) l
    | false => mutJs (j + 1) l

def mparD (j : Nat) (p : PS) (d : den p.e) : D := match isMut p with
  | true => .v (.c (.pt j [(0, 0)] 0 0 0))
  | false => paramD p d

def mparsD : Nat → (l : List PS) → den (argTy l) → List D
  | _, [], _ => []
  | j, [p], d => [mparD j p d]
  | j, p :: q :: l, d => mparD j p d.1 :: mparsD (j + 1) (q :: l) d.2

/-- A box by its cells. -/
def unT : T → T
  | .pt .own e d => .pp .own (cells .own e d)
  | t => t

theorem unT_rep {w : World} {S : Fl → Nat → Prop} {t : T} {v : Value} {φ : Lay} (hr : RepO w S t v φ) : RepO w S (unT t) v φ := by
  unfold unT
  split
  · rename_i e d
    cases hr with
    | sh _ _ _ ht => simp [T.isSh] at ht
    | box _ cs' ht b arr el vs φ hb hsz hc hr h0 hn =>
      simp only [T.box?, Option.some.injEq] at ht
      subst ht
      exact .box _ _ rfl b arr el vs φ hb hsz hc hr h0 hn
  · exact hr

def mrow (j : Nat) (p : PS) (d : den p.e) : List (Nat × List T) := match isMut p with
  | true => [(j, mapL unT (cells .own p.e d))]
  | false => []

def mrows : Nat → (l : List PS) → den (argTy l) → List (Nat × List T)
  | _, [], _ => []
  | j, [p], d => mrow j p d
  | j, p :: q :: l, d => app (mrow j p d.1) (mrows (j + 1) (q :: l) d.2)

def szRs : List RS → Nat
  | [] => 0
  | r :: l => r.e.size + szRs l

theorem length_resRow : ∀ (l : List RS) (d : den (resTy l)), (resRow l d).length = szRs l
  | [], _ => rfl
  | [r], d => (length_cells r.g r.e d : (cells r.g r.e d).length = r.e.size)
  | r :: q :: l, d => by
    show (app (cells r.g r.e d.1) (resRow (q :: l) d.2)).length = r.e.size + szRs (q :: l)
    rw [app_eq, List.length_append, length_cells, length_resRow (q :: l) d.2]

/-- At which cell of the results the boxes begin. -/
def offM (sg : Sig) : Nat := Nat.sub (szRs sg.rs) (mutJs 0 sg.ps).length

def resDM (k : Nat) (sg : Sig) (d : den (resTy sg.rs)) : D := tupOf ((resViews k 0 sg.rs d).take (Nat.sub sg.rs.length (mutJs 0 sg.ps).length))

def Handed (s : Sit) (b : Nat) : Prop := ∃ r p y, s.Φ r p = some y ∧ blkOf y = some b

structure Given (G : List (Nat × T)) (w : World) (s : Sit) (rows : List (Nat × List T)) : Prop where
  rootn : ∀ r, look rows r = none → s.Φ r = noLay
  roots : ∀ r row, look rows r = some row → ∃ y, RepO w s.S (.vr row) y (s.Φ r)
  inj : ∀ r p y r' p' y' b, s.Φ r p = some y → blkOf y = some b → s.Φ r' p' = some y' → blkOf y' = some b → r = r' ∧ p = p'
  own : ∀ r p y b, s.Φ r p = some y → blkOf y = some b → (∀ f, ¬ s.S f b) ∧ b < w.heap.size
  slt : ∀ f b, s.S f b → b < w.heap.size
  sown : ∀ b, ¬ s.S .own b
  srb : ∀ b, s.S .ro b → s.S .bo b
  glob : ∀ g t, look G g = some t → RepR w s.S t (.pointer (some ⟨g, 0, none⟩))

structure LeftM (w : World) (s : Sit) (w' : World) (ro : Nat → Prop) (row : List T) (φ : Lay) : Prop where
  os : w'.os = w.os
  tape : w'.tape = w.tape
  output : w'.output = w.output
  size : w.heap.size ≤ w'.heap.size
  kept : ∀ b, b < w.heap.size → ¬ Handed s b → w'.heap[b]? = w.heap[b]?
  ro0 : ∀ b, s.S .ro b → ro b
  ro1 : ∀ b, ro b → s.S .ro b ∨ Handed s b ∨ w.heap.size ≤ b
  rolt : ∀ b, ro b → b < w'.heap.size
  rep : ∃ u, RepO w' (roS ro) (.vr row) u φ
  inj : Inj φ
  own : ∀ q y b, φ q = some y → blkOf y = some b → (Handed s b ∨ w.heap.size ≤ b) ∧ b < w'.heap.size ∧ ¬ ro b

/-- A call of a function: the boxes handed in hold then what is said, and nothing else turns. -/
def SoundM (P : Program) (G : List (Nat × T)) (f : FuncId) (sg : Sig) (sem : den (argTy sg.ps) → Option (den (resTy sg.rs))) : Prop :=
  ∀ (w : World) (s : Sit) (vs : List Value) (d : den (argTy sg.ps)) (r : den (resTy sg.rs)), Given G w s (mrows 0 sg.ps d) → vs.length = sg.ps.length →
    (∀ (j : Nat) D, (mparsD 0 sg.ps d)[j]? = some D → ∃ v, vs[j]? = some v ∧ RepD w s D v) → sem d = some r →
    Calls P f vs.toArray w fun e w' => ∃ v ro φ, e = .returned v ∧ LeftM w s w' ro (resRow sg.rs r) φ ∧
      (∀ i j, (mutJs 0 sg.ps)[i]? = some j → ∃ v, vs[j]? = some v ∧ φ [(0, offM sg + i)] = some v) ∧
      ∀ s' k, s'.S = roS ro → s'.Φ k = φ → RepD w' s' (resDM k sg r) v

/-- A slice is taken in, and another handed back. -/
def isMove (sg : Sig) : Bool := match sg.ps with
  | p :: _ :: _ => match sg.rs with
    | _ :: [] => match p.f with
      | .own => match p.e with
        | .sl _ => true
        | _ => false
      | _ => false
    | _ => false
  | _ => false

structure LeftD (w : World) (S : Fl → Nat → Prop) (ψ : Lay) (w' : World) (e : Ty) (r : List (den e)) (v' : Value) (ψ' : Lay) : Prop where
  os : w'.os = w.os
  tape : w'.tape = w.tape
  output : w'.output = w.output
  size : w.heap.size ≤ w'.heap.size
  kept : ∀ b, b < w.heap.size → (∀ q y, ψ q = some y → blkOf y ≠ some b) → w'.heap[b]? = w.heap[b]?
  rep : RepO w' S (.sl .own e r) v' ψ'
  top : ψ' [] = some v'
  inj : Inj ψ'
  own : ∀ q y b, ψ' q = some y → blkOf y = some b → b < w'.heap.size ∧ (w.heap.size ≤ b ∨ ∃ q0 y0, ψ q0 = some y0 ∧ blkOf y0 = some b)

/-- A call of a function: what slice was handed in is gone, and the one handed back holds what is said. -/
def SoundD (P : Program) (f : FuncId) : (sg : Sig) → (den (argTy sg.ps) → Option (den (resTy sg.rs))) → Prop
  | ⟨⟨_, _, .sl e⟩ :: p :: l, ⟨_, _, .sl e'⟩ :: []⟩, sem =>
    ∀ (w : World) (S : Fl → Nat → Prop) (s : Sit) (v : Value) (ψ : Lay) (vs : List Value) (xs : List (den e)) (d : den (argTy (p :: l))) (r : List (den e')),
      RepO w S (.sl .own e xs) v ψ → ψ [] = some v → Inj ψ → (∀ b, ¬ S .own b) → (∀ b, S .ro b → S .bo b) → (∀ b, s.S .ro b → S .ro b) → (∀ q y b, ψ q = some y → blkOf y = some b → (∀ f, ¬ S f b) ∧ (∀ f, ¬ s.S f b) ∧ b < w.heap.size) → (∀ f b, S f b → s.S f b) → (∀ f b, s.S f b → b < w.heap.size) →
      vs.length = (p :: l).length → (∀ (j : Nat) D, (paramsD (p :: l) d)[j]? = some D → ∃ v, vs[j]? = some v ∧ RepD w s D v) → sem (xs, d) = some r →
      Calls P f (v :: vs).toArray w fun ex w' => ∃ v' ψ', ex = .returned v' ∧ LeftD w S ψ w' e' r v' ψ'
  | _, _ => False

inductive Kind where
  | plain
  | moves
  | writes

def kindOf (sg : Sig) : Kind := match isMove sg with
  | true => .moves
  | false => match hasMut sg.ps with
    | true => .writes
    | false => .plain

def SoundA (P : Program) (G : List (Nat × T)) (f : FuncId) (sg : Sig) (sem : den (argTy sg.ps) → Option (den (resTy sg.rs))) : Prop := match kindOf sg with
  | .writes => SoundM P G f sg sem
  | .moves => SoundD P f sg sem
  | .plain => SoundF P G f sg sem

section
variable {c : Ctx} {B : Base} {s : Sit} {x : X} {a : Act} {w : World}

/-! ### some roots are out of sight -/
def X.hide (x : X) (rs : List Nat) : X := { x with env := mapS (limD (keysOf (onlyS (fun r => !(mem rs r)) x.roots))) x.env, roots := onlyS (fun r => !(mem rs r)) x.roots, dirt := dirtAll [] rs x.dirt }

theorem look_hide {rs : List Nat} {r : Nat} : look (x.hide rs).roots r = if r ∈ rs then none else look x.roots r := by
  simp only [X.hide, look_onlyS]
  by_cases h : r ∈ rs
  · rw [if_pos h, (mem_iff _ _).2 h]; rfl
  · rw [if_neg h]
    cases e : mem rs r with
    | true => exact absurd ((mem_iff _ _).1 e) h
    | false => rfl

theorem RelW.hide (h : RelW B s x a w) {rs : List Nat} (hl : allB (fun r => lockOk x r []) rs = true) : RelW B (hideS s (x.hide rs).roots) (x.hide rs) a w := by
  have hsub : ∀ r row, look (x.hide rs).roots r = some row → r ∉ rs ∧ look x.roots r = some row := by
    intro r row hr
    rw [look_hide] at hr
    split at hr
    · cases hr
    · rename_i e; exact ⟨e, hr⟩
  exact { h with
    env := fun k d hd => by
      have hd : look (mapS (limD (keysOf (x.hide rs).roots)) x.env) k = some d := hd
      rw [look_mapS] at hd
      obtain ⟨d0, h1, rfl⟩ := Option.map_eq_some_iff.mp hd
      obtain ⟨v, g1, g2⟩ := h.env k d0 h1
      refine ⟨v, g1, ?_⟩
      unfold limD
      split
      · rename_i e
        refine g2.mono (fun _ _ _ => rfl) (fun _ _ h => h) rfl (fun rp hrp => congrFun (hide_in ?_) rp.2)
        obtain ⟨row, hrow⟩ := keysOf_look.1 (atsIn_spec e rp hrp)
        rw [hrow]; rfl
      · exact .v _ _ (.c _ _ (.k _ _ (.dead v)))
    roots := fun r row hr => by
      obtain ⟨z, hz⟩ := h.roots r row (hsub r row hr).2
      exact ⟨z, by rw [hide_in (by rw [hr]; rfl)]; exact hz⟩
    rootn := fun r hr => by simp only [hideS, hr]; rfl
    inj := fun r p z r' p' z' b e1 e2 e3 e4 => h.inj _ _ _ _ _ _ _ (hide_some e1).2 e2 (hide_some e3).2 e4
    own := fun r p z b e1 e2 => h.own r p z b (hide_some e1).2 e2
    locks := fun r d hd => by
      have hr : r ∉ rs := by
        intro e
        have := lockOk_spec ((allB_iff _ _).1 hl r e) hd
        simp [pc, pre] at this
      obtain ⟨e1, e2⟩ := h.locks r d hd
      have hlk : look (x.hide rs).roots r = look x.roots r := by rw [look_hide, if_neg hr]
      refine ⟨by rw [← e1]; simp only [X.at, hlk], ?_⟩
      rw [← e2]
      cases e3 : look x.roots r with
      | none =>
        rw [h.rootn r e3]
        simp only [hideS, hlk, e3]; rfl
      | some row => rw [hide_in (by rw [hlk, e3]; rfl)]
    dirt := fun r hr p hp => by
      have hm := dirtAll_mem (kr := []) (l := x.dirt) (mu := rs)
      have hrr : r ∉ rs := by
        intro e
        have := hp [] (hm.1 r e (by simp))
        simp [pre] at this
      have hlk : look (x.hide rs).roots r = look x.roots r := by rw [look_hide, if_neg hrr]
      rw [← h.dirt r hr p (fun d hd => hp d (hm.2 _ hd))]
      cases e3 : look x.roots r with
      | none =>
        rw [h.rootn r e3]
        simp only [hideS, hlk, e3]; rfl
      | some row => rw [hide_in (by rw [hlk, e3]; rfl)] }

theorem RelW.calledM (h : RelW B s x a w) {sc : Sit} (hS : sc.S = lent s) (hO : ∀ b, Handed sc b → (∀ f, ¬ s.S f b) ∧ (∀ r p y, s.Φ r p = some y → blkOf y ≠ some b) ∧ (B.O0 b ∨ B.w0.heap.size ≤ b))
    {w' : World} {ro : Nat → Prop} {row : List T} {φ : Lay} (hl : LeftM w sc w' ro row φ) {k : Nat} {x1 : X} (hx : x.hang k row = some x1) :
    ∃ s', RelW B s' x1 a w' ∧ s'.Φ k = φ ∧ ∀ f b, roS ro f b → s'.S f b := by
  have hro : ∀ b, ro b → s.S .ro b ∨ Handed sc b ∨ w.heap.size ≤ b := by
    intro b hb'
    rcases hl.ro1 b hb' with h1 | h1
    · rw [hS] at h1
      rcases h1 with h1 | ⟨e, _⟩
      · exact .inl h1
      · cases e
    · exact .inr h1
  have h1 := h.worldO (w' := w') hO hl.kept hl.size hl.os hl.tape hl.output
  let s1 : Sit := { s with S := fun f b => s.S f b ∨ roS ro f b }
  have h2 : RelW B s1 x a w' := { h1 with
    env := fun k d e => by
      obtain ⟨v, g1, g2⟩ := h1.env k d e
      exact ⟨v, g1, g2.mono (fun _ _ _ => rfl) (fun f b hS => .inl hS) rfl (fun _ _ => rfl)⟩
    roots := fun r row e => by
      obtain ⟨y, hy⟩ := h1.roots r row e
      exact ⟨y, hy.mono (fun _ _ _ => rfl) (fun f b hS => .inl hS) (fun _ _ _ _ _ => rfl)⟩
    own := fun r p y b e1 e2 => by
      have := h1.own r p y b e1 e2
      refine ⟨fun f hS => ?_, this.2⟩
      rcases hS with hS | ⟨_, hr⟩
      · exact this.1 f hS
      · rcases hro b hr with hr | hr | hr
        · exact this.1 .ro hr
        · exact (hO b hr).2.1 _ _ _ e1 e2
        · have := (h.own r p y b e1 e2).2.1; omega
    slt := fun f b hS => by
      rcases hS with hS | ⟨_, hr⟩
      · exact h1.slt f b hS
      · exact hl.rolt b hr
    sown := fun b hS => by
      rcases hS with hS | ⟨e, _⟩
      · exact h1.sown b hS
      · simp at e
    sro := fun b hR => .inl (h1.sro b hR)
    srn := fun b hS => by
      rcases hS with hS | ⟨_, hr⟩
      · exact h1.srn b hS
      · rcases hro b hr with hr | hr | hr
        · exact h1.srn b hr
        · exact .inr (hO b hr).2.2
        · exact .inr (.inr (Nat.le_trans h.grow hr))
    sbo := fun b hB => .inl (h1.sbo b hB)
    srb := fun b hS => by
      rcases hS with hS | ⟨_, e⟩
      · exact .inl (h1.srb b hS)
      · exact .inr ⟨.inr rfl, e⟩
    sbn := fun b hS => by
      rcases hS with hS | ⟨_, e⟩
      · exact (h1.sbn b hS).imp id .inl
      · exact .inr (.inr ⟨.inl rfl, e⟩)
    glob := fun g t e => (h1.glob g t e).mono (fun _ _ _ => rfl) (fun f b hS => .inl hS) }
  obtain ⟨u, hu⟩ := hl.rep
  have hu' := hu.mono (w' := w') (S' := s1.S) (fun _ _ _ => rfl) (fun f b hS => .inr hS) (fun _ _ _ _ _ => rfl)
  have hout : OwnOut B s1 w' φ := ⟨hl.inj, fun q y b e1 e2 => by
      have := hl.own q y b e1 e2
      refine ⟨fun f hS => ?_, this.2.1, ?_⟩
      · rcases hS with hS | ⟨_, hr⟩
        · rcases this.1 with g | g
          · exact (hO b g).1 f hS
          · have := h.slt f b hS; omega
        · exact this.2.2 hr
      · rcases this.1 with g | g
        · exact (hO b g).2.2
        · exact .inr (Nat.le_trans h.grow g),
    fun q y b e1 e2 r p z e3 e4 => by
      rcases (hl.own q y b e1 e2).1 with g | g
      · exact (hO b g).2.1 _ _ _ e3 e4
      · have h4 := (h.own r p z b e3 e4).2.1
        omega⟩
  exact ⟨_, h2.hang hu' hout hx, by rw [setΦ_same], fun f b hS => .inr hS⟩

end
end Go.V
