/- Calls of functions whose meaning is known. -/
import Derived.Test.YtmcaghldcabnnaaRvTwentyFour
import Derived.Calls
namespace Go.V
open Go.RowKit

variable {α : Type}

structure PS where
  agg : Bool
  f : Fl
  e : Ty

structure RS where
  agg : Bool
  g : Fl
  e : Ty

structure Sig where
  ps : List PS
  rs : List RS

def argTy : List PS → Ty
  | [] => .unit
  | [p] => p.e
  | p :: q :: l => .pair p.e (argTy (q :: l))

def resTy : List RS → Ty
  | [] => .unit
  | [p] => p.e
  | p :: q :: l => .pair p.e (resTy (q :: l))

def hintsOf : Ty → List (Option Ty)
  | .sl e => [some e]
  | .rsl e => [some e]
  | .pair a b => app (hintsOf a) (hintsOf b)
  | .unit => []
  | _ => [none]

def oneT (ts : List T) : T := match ts with
  | [t] => t
  | _ => .dead

def paramD (p : PS) (d : den p.e) : D := match p.agg with
  | true => .v (.ag (mapL C.k (cells p.f p.e d)))
  | false => .v (.c (.k (oneT (cells p.f p.e d))))

def paramsD : (l : List PS) → den (argTy l) → List D
  | [], _ => []
  | [p], d => [paramD p d]
  | p :: q :: l, d => paramD p d.1 :: paramsD (q :: l) d.2

def viewV (k off : Nat) (agg : Bool) (ts : List T) : V := match agg with
  | true => .ag (viewsFrom k [] 0 off ts)
  | false => .c (viewC k [(0, off)] (oneT ts))

def resRow : (l : List RS) → den (resTy l) → List T
  | [], _ => []
  | [r], d => cells r.g r.e d
  | r :: q :: l, d => app (cells r.g r.e d.1) (resRow (q :: l) d.2)

def resViews (k : Nat) : Nat → (l : List RS) → den (resTy l) → List V
  | _, [], _ => []
  | off, [r], d => [viewV k off r.agg (cells r.g r.e d)]
  | off, r :: q :: l, d => viewV k off r.agg (cells r.g r.e d.1) :: resViews k (off + r.e.size) (q :: l) d.2

def tupOf : List V → D
  | [v] => .v v
  | l => .tup l

def resD (k : Nat) (l : List RS) (d : den (resTy l)) : D := tupOf (resViews k 0 l d)

/-- Shared blocks, and no others. -/
def roS (ro : Nat → Prop) : Fl → Nat → Prop := fun f b => (f = .ro ∨ f = .bo) ∧ ro b

/-- What a call leaves. -/
structure Left (base : Nat) (s : Sit) (w' : World) (ro : Nat → Prop) (row : List T) (φ : Lay) : Prop where
  ro0 : ∀ b, s.S .ro b → ro b
  ro1 : ∀ b, ro b → s.S .ro b ∨ (base ≤ b ∧ b < w'.heap.size)
  rep : ∃ u, RepO w' (roS ro) (.vr row) u φ
  inj : Inj φ
  own : ∀ q y b, φ q = some y → blkOf y = some b → base ≤ b ∧ b < w'.heap.size ∧ ¬ ro b

/-- A call of a function, at whatever data of these types, hands back what is said; nothing that was there turns. -/
def SoundF (P : Program) (G : List (Nat × T)) (f : FuncId) (sg : Sig) (sem : den (argTy sg.ps) → Option (den (resTy sg.rs))) : Prop :=
  ∀ (w : World) (s : Sit) (vs : List Value) (d : den (argTy sg.ps)) (r : den (resTy sg.rs)), (∀ k, s.Φ k = noLay) → (∀ f b, s.S f b → b < w.heap.size) → (∀ b, ¬ s.S .own b) → (∀ b, s.S .ro b → s.S .bo b) →
    (∀ g t, look G g = some t → RepR w s.S t (.pointer (some ⟨g, 0, none⟩))) → vs.length = sg.ps.length →
    (∀ (j : Nat) D, (paramsD sg.ps d)[j]? = some D → ∃ v, vs[j]? = some v ∧ RepD w s D v) → sem d = some r →
    Calls P f vs.toArray w fun e w' => ∃ v ro φ, e = .returned v ∧ Below w.heap.size w w' ∧ Left w.heap.size s w' ro (resRow sg.rs r) φ ∧
      ∀ s' k, s'.S = roS ro → s'.Φ k = φ → RepD w' s' (resD k sg.rs r) v

structure Fn where
  sg : Sig
  sem : den (argTy sg.ps) → Option (den (resTy sg.rs))

def cellsOf (agg : Bool) (d : D) : Option (List C) := match agg with
  | true => d.agg?
  | false => (d.one).map fun y => [y]

def argK (cx : Ctx) (x : X) (p : PS) (o : Operand) (K : den p.e → Option α) : Option α := (evalD cx x o).bind fun d => (cellsOf p.agg d).bind fun ys =>
  lendCsK x p.f (hintsOf p.e) ys fun ts => (packAll p.f p.e ts).bind K

def argsK (cx : Ctx) (x : X) : (l : List PS) → List Operand → (den (argTy l) → Option α) → Option α
  | [], os, K => match os with
    | [] => K ()
    | _ :: _ => none
  | [p], os, K => (one? os).bind fun o => argK cx x p o K
  | p :: q :: l, os, K => match os with
    | o :: os => argK cx x p o fun d => argsK cx x (q :: l) os fun e => K (d, e)
    | [] => none

def callK (cx : Ctx) (nt : Fr) (F : Fn) (x : X) (args : List Operand) (k : Nat) (K : X → Option α) : Option α :=
  argsK cx x F.sg.ps args fun d => (F.sem d).bind fun r => (x.hang k (resRow F.sg.rs r)).bind fun x1 => putK nt x1 k (resD k F.sg.rs r) K

section
variable {c : Ctx} {B : Base} {s : Sit} {x : X} {a : Act} {w : World} {nt : Fr}

def lentSit (s : Sit) : Sit := { S := lent s, Φ := fun _ => noLay, F := s.F }

theorem arg_sound (hG : Fit B c) (h : RelW B s x a w) {p : PS} {o : Operand} {K : den p.e → Option α} {q : α} (he : argK c x p o K = some q) :
    ∃ d, K d = some q ∧ RepD w (lentSit s) (paramD p d) (a.eval o) := by
  unfold argK at he
  obtain ⟨d0, h1, he0⟩ := Option.bind_eq_some_iff.mp he
  obtain ⟨ys, h2, he1⟩ := Option.bind_eq_some_iff.mp he0
  clear he he0
  have hr := evalD_sound hG h h1
  unfold cellsOf at h2
  unfold paramD
  cases hagg : p.agg with
  | true =>
    rw [hagg] at h2
    have h2 := D.agg?_some h2
    subst h2
    generalize a.eval o = v at hr
    cases hr with
    | v _ _ hr => cases hr with
      | ag _ arr hs hc =>
        obtain ⟨ts, k1, k2, k3⟩ := lendCs_sound h (vals := arr.toList) (fun j y e => by
          obtain ⟨u, g1, g2⟩ := hc j y e
          exact ⟨u, by simpa using g1, g2⟩) he1
        obtain ⟨d, k4, k5⟩ := Option.bind_eq_some_iff.mp k1
        have k4 := packAll_some k4
        refine ⟨d, k5, .v _ _ (.ag _ arr (by rw [mapL_eq, List.length_map, ← k4, k2, hs]) (fun j y e => ?_))⟩
        rw [mapL_eq, List.getElem?_map, ← k4] at e
        obtain ⟨t, e1, rfl⟩ := Option.map_eq_some_iff.mp e
        obtain ⟨u, g1, g2⟩ := k3 j t e1
        exact ⟨u, by simpa using g1, .k _ _ g2⟩
  | false =>
    rw [hagg] at h2
    obtain ⟨y, h3, rfl⟩ := Option.map_eq_some_iff.mp h2
    have h3 := D.one_some h3
    subst h3
    generalize a.eval o = v at hr
    cases hr with
    | v _ _ hr => cases hr with
      | c _ _ hr =>
        obtain ⟨ts, k1, k2, k3⟩ := lendCs_sound h (vals := [v]) (fun j y' e => by
          cases j with
          | zero => simp only [List.getElem?_cons_zero, Option.some.injEq] at e; subst e; exact ⟨v, rfl, hr⟩
          | succ j => simp at e) he1
        obtain ⟨d, k4, k5⟩ := Option.bind_eq_some_iff.mp k1
        have k4 := packAll_some k4
        refine ⟨d, k5, .v _ _ (.c _ _ (.k _ _ ?_))⟩
        rw [← k4]
        match ts, k2 with
        | [t], _ =>
          obtain ⟨u, g1, g2⟩ := k3 0 t rfl
          simp only [List.getElem?_cons_zero, Option.some.injEq] at g1
          subst g1
          exact g2

theorem args_sound (hG : Fit B c) (h : RelW B s x a w) : ∀ (l : List PS) {os : List Operand} {K : den (argTy l) → Option α} {q : α}, argsK c x l os K = some q →
    ∃ d, K d = some q ∧ os.length = l.length ∧ ∀ (j : Nat) D, (paramsD l d)[j]? = some D → ∃ v, (os.map a.eval)[j]? = some v ∧ RepD w (lentSit s) D v
  | [], os, K, q, he => by
    cases os with
    | nil => exact ⟨(), he, rfl, fun j D e => by simp [paramsD] at e⟩
    | cons => cases he
  | [p], os, K, q, he => by
    obtain ⟨o, h1, he⟩ := Option.bind_eq_some_iff.mp he
    have h1 := one?_some h1
    subst h1
    obtain ⟨d, k1, k2⟩ := arg_sound hG h he
    refine ⟨d, k1, rfl, fun j D e => ?_⟩
    have e : [paramD p d][j]? = some D := e
    cases j with
    | zero => simp only [List.getElem?_cons_zero, Option.some.injEq] at e; subst e; exact ⟨_, rfl, k2⟩
    | succ j => simp at e
  | p :: q' :: l, os, K, q, he => by
    cases os with
    | nil => cases he
    | cons o os =>
      obtain ⟨d, k1, k2⟩ := arg_sound hG h (K := fun d => argsK c x (q' :: l) os fun e => K (d, e)) he
      obtain ⟨e, m1, m2, m3⟩ := args_sound hG h (q' :: l) k1
      refine ⟨(d, e), m1, by simp [m2], fun j D hD => ?_⟩
      have hD : (paramD p d :: paramsD (q' :: l) e)[j]? = some D := hD
      cases j with
      | zero => simp only [List.getElem?_cons_zero, Option.some.injEq] at hD; subst hD; exact ⟨_, rfl, k2⟩
      | succ j =>
        obtain ⟨v, f1, f2⟩ := m3 j D (by simpa using hD)
        exact ⟨v, by simpa using f1, f2⟩

/-- After a call. -/
theorem RelW.called (h : RelW B s x a w) {w' : World} (hb : Below w.heap.size w w') {ro : Nat → Prop} {row : List T} {φ : Lay} (hl : Left w.heap.size (lentSit s) w' ro row φ) {k : Nat} {x1 : X} (hx : x.hang k row = some x1) :
    ∃ s', RelW B s' x1 a w' ∧ s'.Φ k = φ ∧ ∀ f b, roS ro f b → s'.S f b := by
  have hro : ∀ b, ro b → s.S .ro b ∨ (w.heap.size ≤ b ∧ b < w'.heap.size) := by
    intro b hb'
    rcases hl.ro1 b hb' with (h1 | ⟨e, _⟩) | h1
    · exact .inl h1
    · cases e
    · exact .inr h1
  have h1 := h.world (w' := w') (fun b hlt => hb.block b hlt) hb.size hb.os hb.tape hb.output
  let s1 : Sit := { s with S := fun f b => s.S f b ∨ roS ro f b }
  have h2 : RelW B s1 x a w' := { h1 with
    env := fun k d e => by
      obtain ⟨v, g1, g2⟩ := h1.env k d e
      exact ⟨v, g1, g2.mono (fun _ _ _ => rfl) (fun f b hS => .inl hS) rfl (fun _ _ => rfl)⟩
    roots := fun r row e => by
      obtain ⟨y, hy⟩ := h1.roots r row e
      exact ⟨y, hy.mono (fun _ _ _ => rfl) (fun f b hS => .inl hS) (fun _ _ _ _ _ => rfl)⟩
    own := fun r p y b e1 e2 => by
      have := h1.own r p y b e1 e2
      refine ⟨fun f hS => ?_, this.2⟩
      rcases hS with hS | ⟨_, hr⟩
      · exact this.1 f hS
      · rcases hro b hr with hr | hr
        · exact this.1 .ro hr
        · have := (h.own r p y b e1 e2).2.1; omega
    slt := fun f b hS => by
      rcases hS with hS | ⟨_, hr⟩
      · exact h1.slt f b hS
      · rcases hro b hr with hr | hr
        · exact h1.slt .ro b hr
        · exact hr.2
    sown := fun b hS => by
      rcases hS with hS | ⟨e, _⟩
      · exact h1.sown b hS
      · simp at e
    sro := fun b hR => .inl (h1.sro b hR)
    srn := fun b hS => by
      rcases hS with hS | ⟨_, hr⟩
      · exact h1.srn b hS
      · rcases hro b hr with hr | hr
        · exact h1.srn b hr
        · exact .inr (.inr (Nat.le_trans h.grow hr.1))
    sbo := fun b hB => .inl (h1.sbo b hB)
    srb := fun b hS => by
      rcases hS with hS | ⟨_, e⟩
      · exact .inl (h1.srb b hS)
      · exact .inr ⟨.inr rfl, e⟩
    sbn := fun b hS => by
      rcases hS with hS | ⟨_, e⟩
      · exact (h1.sbn b hS).imp id .inl
      · exact .inr (.inr ⟨.inl rfl, e⟩)
    glob := fun g t e => (h1.glob g t e).mono (fun _ _ _ => rfl) (fun f b hS => .inl hS) }
  obtain ⟨u, hu⟩ := hl.rep
  have hu' := hu.mono (w' := w') (S' := s1.S) (fun _ _ _ => rfl) (fun f b hS => .inr hS) (fun _ _ _ _ _ => rfl)
  have hout : OwnOut B s1 w' φ := ⟨hl.inj, fun q y b e1 e2 => by
      have := hl.own q y b e1 e2
      refine ⟨fun f hS => ?_, this.2.1, .inr (Nat.le_trans h.grow this.1)⟩
      rcases hS with hS | ⟨_, hr⟩
      · have := h.slt f b hS; omega
      · exact this.2.2 hr,
    fun q y b e1 e2 r p z e3 e4 => by
      have h3 := hl.own q y b e1 e2
      have h4 := (h.own r p z b e3 e4).2.1
      omega⟩
  exact ⟨_, h2.hang hu' hout hx, by rw [setΦ_same], fun f b hS => .inr hS⟩

theorem call_sound (hG : Fit B c) (hnt : B.nt = nt) (h : RelW B s x a w) {f : FuncId} {F : Fn} (hF : SoundF c.P c.G f F.sg F.sem) {args : Array Operand} {k : Nat} {K : X → Option α} {q : α}
    (he : callK c nt F x args.toList k K = some q) {Kp : Act → World → Prop} (hK : ∀ x' s' v w', K x' = some q → RelW B s' x' (a.gput B k v) w' → Kp (a.gput B k v) w') :
    Calls c.P f (args.map a.eval) w fun e w' => match e with
      | .returned v => Kp (a.gput B k v) w'
      | _ => False := by
  unfold callK at he
  obtain ⟨d, h2, h3, h4⟩ := args_sound hG h F.sg.ps he
  obtain ⟨r, h5, h6⟩ := Option.bind_eq_some_iff.mp h2
  obtain ⟨x1, h7, h8⟩ := Option.bind_eq_some_iff.mp h6
  have hcall := hF w (lentSit s) (args.toList.map a.eval) d r (fun _ => rfl) (fun f b hS => by
      rcases hS with hS | ⟨_, r, p, y, e1, e2⟩
      · exact h.slt f b hS
      · exact (h.own r p y b e1 e2).2.1) (fun b hS => by
      rcases hS with hS | ⟨e, _⟩
      · exact h.sown b hS
      · cases e) (lent_rb h) (fun g t hg => (h.glob g t (by rw [hG.g]; exact hg)).mono (fun _ _ _ => rfl) (fun f b hS => .inl hS)) (by simpa using h3) h4 h5
  have harr : (args.toList.map a.eval).toArray = args.map a.eval := by apply Array.ext'; simp
  rw [harr] at hcall
  refine hcall.mono (fun e w' he => ?_)
  obtain ⟨v, ro, φ, rfl, hbel, hl, hrep⟩ := he
  obtain ⟨s', g1, g2, g3⟩ := h.called hbel hl h7
  have hrep' := hrep { s' with S := roS ro } k rfl g2
  obtain ⟨x', k1, k2⟩ := put_sound hnt g1 h8 (hrep'.mono (s' := s') (fun _ _ _ => rfl) g3 rfl (fun _ _ => rfl))
  exact hK x' s' v w' k1 k2

end
end Go.V
