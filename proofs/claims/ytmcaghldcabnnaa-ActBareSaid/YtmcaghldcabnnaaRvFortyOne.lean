/- Calls that write through what they are handed: what is known of such a function. -/
import Derived.Test.YtmcaghldcabnnaaRvTwentyFive
namespace Go.V
open Go.RowKit

variable {α : Type}

def keysOf {β : Type} : List (Nat × β) → List Nat
  | [] => []
  | e :: l => e.1 :: keysOf l

theorem keysOf_look {β : Type} {l : List (Nat × β)} {k : Nat} : k ∈ keysOf l ↔ ∃ x, look l k = some x := by
  induction l with
  | nil => simp [keysOf, look]
  | cons e l ih =>
    obtain ⟨k0, x0⟩ := e
    simp only [keysOf, List.mem_cons, look_cons]
    by_cases h : k = k0
    · subst h; simp
    · rw [if_neg h]; simp [h, ih]

/-- What speaks of no other roots than these. -/
def limD (keys : List Nat) (d : D) : D := match atsIn keys d with
  | true => d
  | false => .v (.c (.k .dead))


section
variable {c : Ctx} {B : Base} {s : Sit} {x y : X} {a : Act} {w : World}

theorem RepC.somewhere {y : C} {v : Value} (h : RepC w s y v) : ∀ rp ∈ y.ats, ∃ z, s.Φ rp.1 rp.2 = some z := by
  intro rp hrp
  cases h with
  | own r p e v h => simp only [C.ats, List.mem_singleton] at hrp; subst hrp; exact ⟨_, h⟩
  | sub r p lo n e a a' n0 cap cap' h => simp only [C.ats, List.mem_singleton] at hrp; subst hrp; exact ⟨_, h⟩
  | pt r p i j sz x b h => simp only [C.ats, List.mem_singleton] at hrp; subst hrp; exact ⟨_, h⟩
  | fnp f caps cap hs hc =>
    obtain ⟨m, hm⟩ := List.getElem?_of_mem hrp
    obtain ⟨b, h1, -⟩ := hc m rp.1 rp.2 hm
    exact ⟨_, h1⟩
  | _ => simp [C.ats] at hrp

theorem RepV.somewhere {y : V} {v : Value} (h : RepV w s y v) : ∀ rp ∈ y.ats, ∃ z, s.Φ rp.1 rp.2 = some z := by
  intro rp hrp
  cases h with
  | c x v h => exact h.somewhere rp hrp
  | ag cs arr hs h =>
    simp only [V.ats, List.mem_flatMap] at hrp
    obtain ⟨c0, h1, h2⟩ := hrp
    obtain ⟨j, hj⟩ := List.getElem?_of_mem h1
    obtain ⟨v, -, h3⟩ := h j c0 hj
    exact h3.somewhere rp h2

theorem RepD.somewhere {y : D} {v : Value} (h : RepD w s y v) : ∀ rp ∈ y.ats, ∃ z, s.Φ rp.1 rp.2 = some z := by
  intro rp hrp
  cases h with
  | v x v h => exact h.somewhere rp hrp
  | tup cs arr hs h =>
    simp only [D.ats, List.mem_flatMap] at hrp
    obtain ⟨c0, h1, h2⟩ := hrp
    obtain ⟨j, hj⟩ := List.getElem?_of_mem h1
    obtain ⟨v, -, h3⟩ := h j c0 hj
    exact h3.somewhere rp h2

def hideS (s : Sit) (Rt : List (Nat × List T)) : Sit := { s with Φ := fun r => if (look Rt r).isSome = true then s.Φ r else noLay }

theorem hide_some {s : Sit} {Rt : List (Nat × List T)} {r : Nat} {p : Path} {z : Value} (h : (hideS s Rt).Φ r p = some z) : (look Rt r).isSome = true ∧ s.Φ r p = some z := by
  simp only [hideS] at h
  split at h
  · rename_i e; exact ⟨e, h⟩
  · cases h

theorem hide_in {s : Sit} {Rt : List (Nat × List T)} {r : Nat} (h : (look Rt r).isSome = true) : (hideS s Rt).Φ r = s.Φ r := by
  simp only [hideS]; rw [if_pos h]

end

/-- A parameter that is written through: a pointer to a box. -/
def isMut (p : PS) : Bool := match p.f with
  | .own => true
  | _ => false

def hasMut (l : List PS) : Bool := anyL isMut l

def mutJs : Nat → List PS → List Nat
  | _, [] => []
  | j, p :: l => match isMut p with
    | true => j :: mutJs (j + 1) l
    | false => mutJs (j + 1) l

def mparD (j : Nat) (p : PS) (d : den p.e) : D := match isMut p with
  | true => .v (.c (.pt j [(0, 0)] 0 0 0))
  | false => paramD p d

def mparsD : Nat → (l : List PS) → den (argTy l) → List D
  | _, [], _ => []
  | j, [p], d => [mparD j p d]
  | j, p :: q :: l, d => mparD j p d.1 :: mparsD (j + 1) (q :: l) d.2

/-- A box by its cells. -/
def unT : T → T
  | .pt .own e d => .pp .own (cells .own e d)
  | t => t

theorem unT_rep {w : World} {S : Fl → Nat → Prop} {t : T} {v : Value} {φ : Lay} (hr : RepO w S t v φ) : RepO w S (unT t) v φ := by
  unfold unT
  split
  · rename_i e d
    cases hr with
    | sh _ _ _ ht => simp [T.isSh] at ht
    | box _ cs' ht b arr el vs φ hb hsz hc hr h0 hn =>
      simp only [T.box?, Option.some.injEq] at ht
      subst ht
      exact .box _ _ rfl b arr el vs φ hb hsz hc hr h0 hn
  · exact hr

def mrow (j : Nat) (p : PS) (d : den p.e) : List (Nat × List T) := match isMut p with
  | true => [(j, mapL unT (cells .own p.e d))]
  | false => []

def mrows : Nat → (l : List PS) → den (argTy l) → List (Nat × List T)
  | _, [], _ => []
  | j, [p], d => mrow j p d
  | j, p :: q :: l, d => app (mrow j p d.1) (mrows (j + 1) (q :: l) d.2)

def szRs : List RS → Nat
  | [] => 0
  | r :: l => r.e.size + szRs l

theorem length_resRow : ∀ (l : List RS) (d : den (resTy l)), (resRow l d).length = szRs l
  | [], _ => rfl
  | [r], d => (length_cells r.g r.e d : (cells r.g r.e d).length = r.e.size)
  | r :: q :: l, d => by
    show (app (cells r.g r.e d.1) (resRow (q :: l) d.2)).length = r.e.size + szRs (q :: l)
    rw [app_eq, List.length_append, length_cells, length_resRow (q :: l) d.2]

/-- At which cell of the results the boxes begin. -/
def offM (sg : Sig) : Nat := Nat.sub (szRs sg.rs) (mutJs 0 sg.ps).length

def resDM (k : Nat) (sg : Sig) (d : den (resTy sg.rs)) : D := tupOf ((resViews k 0 sg.rs d).take (Nat.sub sg.rs.length (mutJs 0 sg.ps).length))

def Handed (s : Sit) (b : Nat) : Prop := ∃ r p y, s.Φ r p = some y ∧ blkOf y = some b

structure Given (G : List (Nat × T)) (w : World) (s : Sit) (rows : List (Nat × List T)) : Prop where
  rootn : ∀ r, look rows r = none → s.Φ r = noLay
  roots : ∀ r row, look rows r = some row → ∃ y, RepO w s.S (.vr row) y (s.Φ r)
  inj : ∀ r p y r' p' y' b, s.Φ r p = some y → blkOf y = some b → s.Φ r' p' = some y' → blkOf y' = some b → r = r' ∧ p = p'
  own : ∀ r p y b, s.Φ r p = some y → blkOf y = some b → (∀ f, ¬ s.S f b) ∧ b < w.heap.size
  slt : ∀ f b, s.S f b → b < w.heap.size
  sown : ∀ b, ¬ s.S .own b
  srb : ∀ b, s.S .ro b → s.S .bo b
  glob : ∀ g t, look G g = some t → RepR w s.S t (.pointer (some ⟨g, 0, none⟩))

structure LeftM (w : World) (s : Sit) (w' : World) (ro : Nat → Prop) (row : List T) (φ : Lay) : Prop where
  os : w'.os = w.os
  tape : w'.tape = w.tape
  output : w'.output = w.output
  size : w.heap.size ≤ w'.heap.size
  kept : ∀ b, b < w.heap.size → ¬ Handed s b → w'.heap[b]? = w.heap[b]?
  ro0 : ∀ b, s.S .ro b → ro b
  ro1 : ∀ b, ro b → s.S .ro b ∨ Handed s b ∨ w.heap.size ≤ b
  rolt : ∀ b, ro b → b < w'.heap.size
  rep : ∃ u, RepO w' (roS ro) (.vr row) u φ
  inj : Inj φ
  own : ∀ q y b, φ q = some y → blkOf y = some b → (Handed s b ∨ w.heap.size ≤ b) ∧ b < w'.heap.size ∧ ¬ ro b

/-- A call of a function: the boxes handed in hold then what is said, and nothing else turns. -/
def SoundM (P : Program) (G : List (Nat × T)) (f : FuncId) (sg : Sig) (sem : den (argTy sg.ps) → Option (den (resTy sg.rs))) : Prop :=
  ∀ (w : World) (s : Sit) (vs : List Value) (d : den (argTy sg.ps)) (r : den (resTy sg.rs)), Given G w s (mrows 0 sg.ps d) → vs.length = sg.ps.length →
    (∀ (j : Nat) D, (mparsD 0 sg.ps d)[j]? = some D → ∃ v, vs[j]? = some v ∧ RepD w s D v) → sem d = some r →
    Calls P f vs.toArray w fun e w' => ∃ v ro φ, e = .returned v ∧ LeftM w s w' ro (resRow sg.rs r) φ ∧
      (∀ i j, (mutJs 0 sg.ps)[i]? = some j → ∃ v, vs[j]? = some v ∧ φ [(0, offM sg + i)] = some v) ∧
      ∀ s' k, s'.S = roS ro → s'.Φ k = φ → RepD w' s' (resDM k sg r) v

def SoundA (P : Program) (G : List (Nat × T)) (f : FuncId) (sg : Sig) (sem : den (argTy sg.ps) → Option (den (resTy sg.rs))) : Prop := match hasMut sg.ps with
  | true => SoundM P G f sg sem
  | false => SoundF P G f sg sem

section
variable {c : Ctx} {B : Base} {s : Sit} {x : X} {a : Act} {w : World}

/-! ### some roots are out of sight -/
def X.hide (x : X) (rs : List Nat) : X := { x with env := mapS (limD (keysOf (onlyS (fun r => !(mem rs r)) x.roots))) x.env, roots := onlyS (fun r => !(mem rs r)) x.roots, dirt := dirtAll [] rs x.dirt }

theorem look_hide {rs : List Nat} {r : Nat} : look (x.hide rs).roots r = if r ∈ rs then none else look x.roots r := by
  simp only [X.hide, look_onlyS]
  by_cases h : r ∈ rs
  · rw [if_pos h, (mem_iff _ _).2 h]; rfl
  · rw [if_neg h]
    cases e : mem rs r with
    | true => exact absurd ((mem_iff _ _).1 e) h
    | false => rfl

theorem RelW.hide (h : RelW B s x a w) {rs : List Nat} (hl : allB (fun r => lockOk x r []) rs = true) : RelW B (hideS s (x.hide rs).roots) (x.hide rs) a w := by
  have hsub : ∀ r row, look (x.hide rs).roots r = some row → r ∉ rs ∧ look x.roots r = some row := by
    intro r row hr
    rw [look_hide] at hr
    split at hr
    · cases hr
    · rename_i e; exact ⟨e, hr⟩
  exact { h with
    env := fun k d hd => by
      have hd : look (mapS (limD (keysOf (x.hide rs).roots)) x.env) k = some d := hd
      rw [look_mapS] at hd
      obtain ⟨d0, h1, rfl⟩ := Option.map_eq_some_iff.mp hd
      obtain ⟨v, g1, g2⟩ := h.env k d0 h1
      refine ⟨v, g1, ?_⟩
      unfold limD
      split
      · rename_i e
        refine g2.mono (fun _ _ _ => rfl) (fun _ _ h => h) rfl (fun rp hrp => congrFun (hide_in ?_) rp.2)
        obtain ⟨row, hrow⟩ := keysOf_look.1 (atsIn_spec e rp hrp)
        rw [hrow]; rfl
      · exact .v _ _ (.c _ _ (.k _ _ (.dead v)))
    roots := fun r row hr => by
      obtain ⟨z, hz⟩ := h.roots r row (hsub r row hr).2
      exact ⟨z, by rw [hide_in (by rw [hr]; rfl)]; exact hz⟩
    rootn := fun r hr => by simp only [hideS, hr]; rfl
    inj := fun r p z r' p' z' b e1 e2 e3 e4 => h.inj _ _ _ _ _ _ _ (hide_some e1).2 e2 (hide_some e3).2 e4
    own := fun r p z b e1 e2 => h.own r p z b (hide_some e1).2 e2
    locks := fun r d hd => by
      have hr : r ∉ rs := by
        intro e
        have := lockOk_spec ((allB_iff _ _).1 hl r e) hd
        simp [pc, pre] at this
      obtain ⟨e1, e2⟩ := h.locks r d hd
      have hlk : look (x.hide rs).roots r = look x.roots r := by rw [look_hide, if_neg hr]
      refine ⟨by rw [← e1]; simp only [X.at, hlk], ?_⟩
      rw [← e2]
      cases e3 : look x.roots r with
      | none =>
        rw [h.rootn r e3]
        simp only [hideS, hlk, e3]; rfl
      | some row => rw [hide_in (by rw [hlk, e3]; rfl)]
    dirt := fun r hr p hp => by
      have hm := dirtAll_mem (kr := []) (l := x.dirt) (mu := rs)
      have hrr : r ∉ rs := by
        intro e
        have := hp [] (hm.1 r e (by simp))
        simp [pre] at this
      have hlk : look (x.hide rs).roots r = look x.roots r := by rw [look_hide, if_neg hrr]
      rw [← h.dirt r hr p (fun d hd => hp d (hm.2 _ hd))]
      cases e3 : look x.roots r with
      | none =>
        rw [h.rootn r e3]
        simp only [hideS, hlk, e3]; rfl
      | some row => rw [hide_in (by rw [hlk, e3]; rfl)] }

/-- Another world: turned is only what nobody here speaks of. -/
theorem RelW.worldO (h : RelW B s x a w) {w' : World} {O : Nat → Prop} (hO : ∀ b, O b → (∀ f, ¬ s.S f b) ∧ (∀ r p y, s.Φ r p = some y → blkOf y ≠ some b) ∧ (B.O0 b ∨ B.w0.heap.size ≤ b))
    (hb : ∀ b, b < w.heap.size → ¬ O b → w'.heap[b]? = w.heap[b]?) (hs : w.heap.size ≤ w'.heap.size) (h1 : w'.os = w.os) (h2 : w'.tape = w.tape) (h3 : w'.output = w.output) : RelW B s x a w' :=
  have hS : ∀ f b, s.S f b → w'.heap[b]? = w.heap[b]? := fun f b hR => hb b (h.slt f b hR) (fun e => (hO b e).1 f hR)
  { h with
    env := fun k d hd => by
      obtain ⟨v, e1, e2⟩ := h.env k d hd
      exact ⟨v, e1, e2.mono hS (fun _ _ h => h) rfl (fun _ _ => rfl)⟩
    roots := fun r t hr => by
      obtain ⟨y, hy⟩ := h.roots r t hr
      exact ⟨y, hy.mono hS (fun _ _ h => h) (fun p z b hz hbz => hb b (h.own _ _ _ _ hz hbz).2.1 (fun e => (hO b e).2.1 _ _ _ hz hbz))⟩
    own := fun r p y b e1 e2 => by
      have := h.own r p y b e1 e2
      exact ⟨this.1, by omega, this.2.2⟩
    slt := fun f b hR => by have := h.slt f b hR; omega
    os := h1.trans h.os
    tape := h2.trans h.tape
    output := h3.trans h.output
    grow := by have := h.grow; omega
    kept := fun b e1 e2 => by
      rw [hb b (by have := h.grow; omega) (fun e => by
        rcases (hO b e).2.2 with g | g
        · exact e2 g
        · omega)]
      exact h.kept b e1 e2
    glob := fun g t hg => (h.glob g t hg).mono hS (fun _ _ h => h) }

theorem RelW.calledM (h : RelW B s x a w) {sc : Sit} (hS : sc.S = lent s) (hO : ∀ b, Handed sc b → (∀ f, ¬ s.S f b) ∧ (∀ r p y, s.Φ r p = some y → blkOf y ≠ some b) ∧ (B.O0 b ∨ B.w0.heap.size ≤ b))
    {w' : World} {ro : Nat → Prop} {row : List T} {φ : Lay} (hl : LeftM w sc w' ro row φ) {k : Nat} {x1 : X} (hx : x.hang k row = some x1) :
    ∃ s', RelW B s' x1 a w' ∧ s'.Φ k = φ ∧ ∀ f b, roS ro f b → s'.S f b := by
  have hro : ∀ b, ro b → s.S .ro b ∨ Handed sc b ∨ w.heap.size ≤ b := by
    intro b hb'
    rcases hl.ro1 b hb' with h1 | h1
    · rw [hS] at h1
      rcases h1 with h1 | ⟨e, _⟩
      · exact .inl h1
      · cases e
    · exact .inr h1
  have h1 := h.worldO (w' := w') hO hl.kept hl.size hl.os hl.tape hl.output
  let s1 : Sit := { s with S := fun f b => s.S f b ∨ roS ro f b }
  have h2 : RelW B s1 x a w' := { h1 with
    env := fun k d e => by
      obtain ⟨v, g1, g2⟩ := h1.env k d e
      exact ⟨v, g1, g2.mono (fun _ _ _ => rfl) (fun f b hS => .inl hS) rfl (fun _ _ => rfl)⟩
    roots := fun r row e => by
      obtain ⟨y, hy⟩ := h1.roots r row e
      exact ⟨y, hy.mono (fun _ _ _ => rfl) (fun f b hS => .inl hS) (fun _ _ _ _ _ => rfl)⟩
    own := fun r p y b e1 e2 => by
      have := h1.own r p y b e1 e2
      refine ⟨fun f hS => ?_, this.2⟩
      rcases hS with hS | ⟨_, hr⟩
      · exact this.1 f hS
      · rcases hro b hr with hr | hr | hr
        · exact this.1 .ro hr
        · exact (hO b hr).2.1 _ _ _ e1 e2
        · have := (h.own r p y b e1 e2).2.1; omega
    slt := fun f b hS => by
      rcases hS with hS | ⟨_, hr⟩
      · exact h1.slt f b hS
      · exact hl.rolt b hr
    sown := fun b hS => by
      rcases hS with hS | ⟨e, _⟩
      · exact h1.sown b hS
      · simp at e
    sro := fun b hR => .inl (h1.sro b hR)
    srn := fun b hS => by
      rcases hS with hS | ⟨_, hr⟩
      · exact h1.srn b hS
      · rcases hro b hr with hr | hr | hr
        · exact h1.srn b hr
        · exact .inr (hO b hr).2.2
        · exact .inr (.inr (Nat.le_trans h.grow hr))
    sbo := fun b hB => .inl (h1.sbo b hB)
    srb := fun b hS => by
      rcases hS with hS | ⟨_, e⟩
      · exact .inl (h1.srb b hS)
      · exact .inr ⟨.inr rfl, e⟩
    sbn := fun b hS => by
      rcases hS with hS | ⟨_, e⟩
      · exact (h1.sbn b hS).imp id .inl
      · exact .inr (.inr ⟨.inl rfl, e⟩)
    glob := fun g t e => (h1.glob g t e).mono (fun _ _ _ => rfl) (fun f b hS => .inl hS) }
  obtain ⟨u, hu⟩ := hl.rep
  have hu' := hu.mono (w' := w') (S' := s1.S) (fun _ _ _ => rfl) (fun f b hS => .inr hS) (fun _ _ _ _ _ => rfl)
  have hout : OwnOut B s1 w' φ := ⟨hl.inj, fun q y b e1 e2 => by
      have := hl.own q y b e1 e2
      refine ⟨fun f hS => ?_, this.2.1, ?_⟩
      · rcases hS with hS | ⟨_, hr⟩
        · rcases this.1 with g | g
          · exact (hO b g).1 f hS
          · have := h.slt f b hS; omega
        · exact this.2.2 hr
      · rcases this.1 with g | g
        · exact (hO b g).2.2
        · exact .inr (Nat.le_trans h.grow g),
    fun q y b e1 e2 r p z e3 e4 => by
      rcases (hl.own q y b e1 e2).1 with g | g
      · exact (hO b g).2.1 _ _ _ e3 e4
      · have h4 := (h.own r p z b e3 e4).2.1
        omega⟩
  exact ⟨_, h2.hang hu' hout hx, by rw [setΦ_same], fun f b hS => .inr hS⟩

end
end Go.V
