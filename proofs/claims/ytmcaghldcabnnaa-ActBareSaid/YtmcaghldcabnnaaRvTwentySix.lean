/- Regions in their order. -/
import Derived.Test.YtmcaghldcabnnaaRvThirtyEight
namespace Go.V
open Go.RowKit

variable {α : Type}

/-! ### regions in their order -/
/-- A guard's value: a truth value, or none at all. -/
def gd (nt : Fr) (o : Oper) : Option Nat := match o.dst with
  | some k => some (nt.off + k)
  | none => none

theorem gd_some {nt : Fr} {o : Oper} {k : Nat} (h : gd nt o = some k) : ∃ k0, o.dst = some k0 ∧ k = nt.off + k0 := by
  unfold gd at h
  split at h
  · rename_i k0 e
    simp only [Option.some.injEq] at h
    exact ⟨k0, e, h.symm⟩
  · cases h

theorem gd_put {B : Base} {o : Oper} {k : Nat} (h : gd B.nt o = some k) (a : Act) (v : Value) : a.put o.dst v = a.gput B k v := by
  obtain ⟨k0, h1, rfl⟩ := gd_some h
  rw [gput_local, h1]

theorem gd_tv {B : Base} {l : List Oper} {j k : Nat} (h : (nth l j).bind (gd B.nt) = some k) {a : Act} {v : Value} (hv : B.tv a k = some v) : ∃ k0, (nth l j).bind (·.dst) = some k0 ∧ a.tmps[k0]? = some v := by
  obtain ⟨o, h1, h2⟩ := Option.bind_eq_some_iff.mp h
  obtain ⟨k0, h3, rfl⟩ := gd_some h2
  exact ⟨k0, by rw [h1]; exact h3, by rwa [tv_local] at hv⟩

def guardD (nt : Fr) (ops : List Oper) (x : X) (j : Nat) : Option (Nat × D) := ((nth ops j).bind (gd nt)).bind fun k => (look x.env k).map fun d => (k, d)

def isSlT (cx : Ctx) (t : TypeId) : Bool := match look cx.Ty t with
  | some i => match i.d with
    | .sl _ => true
    | _ => false
  | none => false

def stepO (cx : Ctx) (nt : Fr) (Δ : List (Nat × Fn)) (x : X) (o : Oper) (K : X → Option α) : Option α := match o.op with
  | .call cl => match cl.callee with
    | .value (.func f) => match o.dst with
      | some k => callAK cx nt Δ x f cl.args.toList (nt.off + k) K
      | none => none
    | _ => oneK cx nt x o K
  | .convert t1 t2 p => match isSlT cx t1 with
    | true => match o.dst with
      | some k => strK cx nt x t1 t2 p (nt.off + k) K
      | none => none
    | false => oneK cx nt x o K
  | _ => oneK cx nt x o K

/-- Outside of draws: what hangs on a thing that is not known here, too. -/
noncomputable def stepN (cx : Ctx) (nt : Fr) (Δ : List (Nat × Fn)) (x : X) (o : Oper) (K : X → Option α) : Option α := match nilCmp o with
  | some (t, (p, neg)) => match o.dst with
    | some k => nilK cx nt x t p neg (nt.off + k) K
    | none => none
  | none => stepO cx nt Δ x o K

def skipK (nt : Fr) (x : X) (o : Oper) (K : X → Option α) : Option α := match o.dst with
  | some k => putK nt x (nt.off + k) (.tup []) K
  | none => K x

def eqB (b c : Bool) : Bool := match c with
  | true => b
  | false => !b

def asB : D → Option Bool
  | .v (.c (.k (.v (.bool b)))) => some b
  | _ => none

def isUndef : D → Bool
  | .tup [] => true
  | _ => false

/-- The guard is known from here on. -/
def known (x : X) (k : Nat) (b : Bool) : X := { x with env := (k, scal (.bool b)) :: x.env }

noncomputable def opsK (cx : Ctx) (nt : Fr) (Δ : List (Nat × Fn)) (all : List Oper) : List Oper → X → (X → Option α) → Option α
  | [], x, K => K x
  | o :: rest, x, K => match o.guard with
    | none => stepN cx nt Δ x o fun x' => opsK cx nt Δ all rest x' K
    | some (j, want) => (guardD nt all x j).bind fun kd => match asB kd.2 with
      | some b => cond (eqB b want) (stepN cx nt Δ (known x kd.1 want) o fun x' => opsK cx nt Δ all rest x' K) (skipK nt (known x kd.1 (!want)) o fun x' => opsK cx nt Δ all rest x' K)
      | none => match isUndef kd.2 with
        | true => skipK nt x o fun x' => opsK cx nt Δ all rest x' K
        | false => none

section
variable {c : Ctx} {nt : Fr} {Δ : List (Nat × Fn)}

theorem stepO_sound (hΔ : Known c.P c.G Δ) {B : Base} (hG : Fit B c) (hnt : B.nt = nt) {s : Sit} {x : X} {a : Act} {w : World} (h : RelW B s x a w) {o : Oper} {K : X → Option α} {q : α} (he : stepO c nt Δ x o K = some q)
    {Kp : Act → World → Prop} {Q : Exit → Act → World → Prop} (hK : ∀ x' s' a' w', K x' = some q → RelW B s' x' a' w' → Kp a' w') : o.wp c.P a w Kp Q := by
  have one : oneK c nt x o K = some q → o.wp c.P a w Kp Q := by
    intro he
    obtain ⟨x', s', k1, n, w', hr, hcase⟩ := one_sound hG hnt h he
    unfold Oper.wp
    rw [hr]
    rcases hcase with ⟨v, rfl, hrel⟩ | ⟨rfl, hrel⟩
    · exact hK _ _ _ _ k1 hrel
    · exact hK _ _ _ _ k1 hrel
  unfold stepO at he
  split at he
  · rename_i cl hop
    split at he
    · rename_i f hcal
      split at he
      · rename_i k hk
        have hF : ∃ F, look Δ f = some F := by
          unfold callAK at he
          obtain ⟨F, h1, _⟩ := Option.bind_eq_some_iff.mp he
          exact ⟨F, h1⟩
        obtain ⟨F, hF⟩ := hF
        obtain ⟨-, fn, hf, hb, hname⟩ := hΔ f F hF
        have hcall := callA_sound hΔ hG hnt h he (Kp := Kp) (fun x' s' v w' e1 e2 => hK x' s' _ w' e1 e2)
        have hrun : (execOp a.eval o).run c.P w = .ok (.enter f (cl.args.map a.eval)) w := by
          have hbn : ¬ fn.body = none := by intro e; rw [e] at hb; simp at hb
          have hname' : ¬ fn.name = "runtime.NumGoroutine" := by simpa using hname
          obtain ⟨callee, args, ats⟩ := cl
          simp only at hcal
          subst hcal
          simp [execOp, hop, resolve, Act.eval, Deferred.ofValue, invoke, callFunc, hf, hname', hbn]
        unfold Oper.wp
        rw [hrun, Oper.upon_enter]
        refine hcall.mono (fun e w' he => ?_)
        cases e with
        | returned v =>
          show Kp (a.put o.dst v) w'
          rw [hk]
          have he : Kp (a.gput B (nt.off + k) v) w' := he
          rwa [← hnt, gput_local] at he
        | _ => exact he.elim
      · cases he
    · exact one he
  · rename_i t1 t2 p hop
    split at he
    · split at he
      · rename_i k hk
        obtain ⟨x', v, k1, k2, k3⟩ := str_sound hG hnt h he
        unfold Oper.wp
        have : (execOp a.eval o).run c.P w = .ok (.value v) w := by
          simp only [execOp, hop, Sem.run_bind, k2]; rfl
        rw [this]
        rw [← hnt, gput_local, ← hk] at k3
        exact hK _ _ _ _ k1 k3
      · cases he
    · exact one he
  · exact one he

theorem stepN_sound (hΔ : Known c.P c.G Δ) {B : Base} (hG : Fit B c) (hnt : B.nt = nt) {s : Sit} {x : X} {a : Act} {w : World} (h : RelW B s x a w) {o : Oper} {K : X → Option α} {q : α} (he : stepN c nt Δ x o K = some q)
    {Kp : Act → World → Prop} {Q : Exit → Act → World → Prop} (hK : ∀ x' s' a' w', K x' = some q → RelW B s' x' a' w' → Kp a' w') : o.wp c.P a w Kp Q := by
  unfold stepN at he
  split at he
  · rename_i t p neg ho
    split at he
    · rename_i k hk
      obtain ⟨x', v, k1, k2, k3⟩ := nil_sound hG hnt h ho he
      unfold Oper.wp
      rw [k2]
      rw [← hnt, gput_local, ← hk] at k3
      exact hK _ _ _ _ k1 k3
    · cases he
  · exact stepO_sound hΔ hG hnt h he hK

theorem skip_sound {B : Base} (hnt : B.nt = nt) {s : Sit} {x : X} {a : Act} {w : World} (h : RelW B s x a w) {o : Oper} {K : X → Option α} {q : α} (he : skipK nt x o K = some q) :
    ∃ x', K x' = some q ∧ RelW B s x' (a.put o.dst undef) w := by
  unfold skipK at he
  split at he
  · rename_i k hk
    rw [hk]
    obtain ⟨x', k1, k2⟩ := put_sound hnt h he (.tup [] #[] rfl (fun j x e => by simp at e))
    rw [← hnt, gput_local] at k2
    exact ⟨x', k1, k2⟩
  · rename_i hk
    rw [hk]
    exact ⟨x, he, h⟩

theorem asB_some {d : D} {b : Bool} (h : asB d = some b) : d = scal (.bool b) := by
  unfold asB at h
  split at h
  · simp only [Option.some.injEq] at h; subst h; rfl
  · cases h

theorem asB_sound {w : World} {s : Sit} {d : D} {v : Value} (h : RepD w s d v) {b : Bool} (hd : asB d = some b) : v = .bool b := by
  rw [asB_some hd] at h
  exact (D.val_sound h rfl).1

theorem isUndef_eq {d : D} (h : isUndef d = true) : d = .tup [] := by
  cases d with
  | v x => cases h
  | tup xs => cases xs with
    | nil => rfl
    | cons => cases h

theorem ops_sound_to (hΔ : Known c.P c.G Δ) {B : Base} (hG : Fit B c) (hnt : B.nt = nt) {ops : Array Oper} {Q : Exit → Act → World → Prop} {K : X → Option α} {q : α} {l2 : List Oper}
    (hK : ∀ x s a w, RelW B s x a w → K x = some q → wpList c.P ops Q l2 a w) :
    ∀ (l : List Oper) (x : X) (s : Sit) (a : Act) (w : World), RelW B s x a w → opsK c nt Δ ops.toList l x K = some q → wpList c.P ops Q (l ++ l2) a w := by
  intro l
  induction l with
  | nil => intro x s a w h he; exact hK x s a w h he
  | cons o l ih =>
    intro x s a w h he
    rw [List.cons_append]
    refine wpList_step (fun K' hK' => ?_)
    have hnext : ∀ x' s' a' w', opsK c nt Δ ops.toList l x' K = some q → RelW B s' x' a' w' → K' a' w' := fun x' s' a' w' e1 e2 => hK' a' w' (ih x' s' a' w' e2 e1)
    unfold opsK at he
    split at he
    · rename_i hg
      rw [if_pos (by simp [Region.wanted, hg])]
      exact stepN_sound hΔ hG hnt h he hnext
    · rename_i j want hg
      obtain ⟨⟨k, d⟩, h1, he1⟩ := Option.bind_eq_some_iff.mp he
      obtain ⟨k', h2, h3⟩ := Option.bind_eq_some_iff.mp h1
      obtain ⟨d', h4, h5⟩ := Option.map_eq_some_iff.mp h3
      simp only [Prod.mk.injEq] at h5
      obtain ⟨rfl, rfl⟩ := h5
      obtain ⟨v, h6', h7⟩ := h.env _ _ h4
      rw [← hnt] at h2
      obtain ⟨k0, h2', h6⟩ := gd_tv h2 h6'
      have hk' : (ops[j]?).bind (·.dst) = some k0 := by rw [nth_eq] at h2'; simpa using h2'
      split at he1
      · rename_i b hb
        have hv := asB_sound h7 hb
        subst hv
        have hy : yielded ops a.tmps j = some b := by simp [yielded, hk', h6]
        have hkn : ∀ b', b' = b → RelW B s (known x k' b') a w := fun b' e => by subst e; exact h.reput h6' (scal_rep _ rfl)
        rcases cond_some he1 with ⟨hbw, he2⟩ | ⟨hbw, he2⟩
        · have hbe : want = b := by cases want <;> cases b <;> simp [eqB] at hbw ⊢
          rw [if_pos (by simp [Region.wanted, hg, hy, hbe])]
          exact stepN_sound hΔ hG hnt (hkn want hbe) he2 hnext
        · have hbe : (!want) = b := by cases want <;> cases b <;> simp [eqB] at hbw ⊢
          rw [if_neg (by subst hbe; cases want <;> simp [Region.wanted, hg, hy])]
          obtain ⟨x', k1, k2⟩ := skip_sound hnt (hkn _ hbe) he2
          exact hnext _ _ _ _ k1 k2
      · split at he1
        · rename_i hu
          have hd := isUndef_eq hu
          simp only at hd
          subst hd
          have hv : v = .tuple #[] := by
            cases h7 with
            | tup _ arr hs _ => have : arr = #[] := by apply Array.eq_empty_of_size_eq_zero; simpa using hs
                                rw [this]
          subst hv
          have hy : yielded ops a.tmps j = none := by simp [yielded, hk', h6]
          rw [if_neg (by simp [Region.wanted, hg, hy])]
          obtain ⟨x', k1, k2⟩ := skip_sound hnt h he1
          exact hnext _ _ _ _ k1 k2
        · cases he1


theorem ops_sound (hΔ : Known c.P c.G Δ) {B : Base} (hG : Fit B c) (hnt : B.nt = nt) {ops : Array Oper} {Q : Exit → Act → World → Prop} {K : X → Option α} {q : α}
    (hK : ∀ x s a w, RelW B s x a w → K x = some q → Q .normal a w) (l : List Oper) (x : X) (s : Sit) (a : Act) (w : World) (h : RelW B s x a w) (he : opsK c nt Δ ops.toList l x K = some q) : wpList c.P ops Q l a w := by
  have := ops_sound_to hΔ hG hnt (l2 := []) (ops := ops) (Q := Q) (fun x s a w hr hk => (hK x s a w hr hk : wpList c.P ops Q [] a w)) l x s a w h he
  rwa [List.append_nil] at this

end
end Go.V
