/- Every operation has one answer, and what is done with it hangs on it alone. -/
import Derived.Test.YtmcaghldcabnnaaRvTwentySix
namespace Go.V
open Go.RowKit

section
variable {c : Ctx} {nt : Fr} {Δ : List (Nat × Fn)}

theorem Lawful.put (nt : Fr) (x : X) (k : Nat) (d : D) : Lawful fun _ K => putK nt x k d K := by
  unfold putK
  split
  · split
    · exact .none
    · exact .pure _
  · exact .none

theorem Lawful.new (nt : Fr) (x : X) (k : Nat) (t : T) (y : C) : Lawful fun _ K => newK nt x k t y K := by
  unfold newK
  exact .bind _ fun x' => .put _ _ _ _

theorem Lawful.upd (p : Path) (t n : T) : Lawful fun _ (K : T × T → _) => updK p t n fun old t' => K (old, t') := by
  intro α K
  exact updK_law p t n fun old t' => K (old, t')

theorem Lawful.setAt (x : X) (r : Nat) (p : Path) (n : T) : Lawful fun _ K => setAtK x r p n fun t x' => K (t, x') := by
  unfold setAtK
  split
  · exact .none
  · refine .bind _ fun row => ?_
    refine (Lawful.upd p (.vr row) n).comp (g := fun ot α K => match ot.2 with
      | .vr row' => K (ot.1, x.turned r p row' (and ot.1.isSh n.isSh))
      | _ => Option.none) fun ot => ?_
    obtain ⟨old, t'⟩ := ot
    simp only
    split
    · exact .pure (old, _)
    · exact .none

theorem Lawful.setAt2 (x : X) (r : Nat) (p : Path) (n : T) {β : Type} {g : T → X → (α : Type) → (β → Option α) → Option α} (hg : ∀ t x', Lawful (g t x')) : Lawful fun α K => setAtK x r p n fun t x' => g t x' α K :=
  (Lawful.setAt x r p n).comp (g := fun tx => g tx.1 tx.2) fun tx => hg tx.1 tx.2

theorem Lawful.takeC (x : X) (hint : Option Ty) (y : C) : Lawful fun _ K => takeCK x hint y fun t x' => K (t, x') := by
  unfold takeCK
  split
  · split
    · exact .pure (_, x)
    · exact .none
  · split
    · exact .pure (_, x)
    · exact .none
  · split
    · exact .none
    · refine .setAt2 _ _ _ _ fun t x' => ?_
      split
      · exact .pure (_, x')
      · exact .none
  · split
    · exact .none
    · refine .setAt2 _ _ _ _ fun t x' => ?_
      split
      · split
        · exact .pure (_, x')
        · exact .none
      · exact .none
  · split
    · exact .none
    · split
      · split
        · refine .setAt2 _ _ _ _ fun t x' => ?_
          split
          · exact .pure (_, x')
          · exact .pure (_, x')
          · exact .none
        · exact .none
      · exact .none
  · exact .none

theorem Lawful.takeC2 (x : X) (hint : Option Ty) (y : C) {β : Type} {g : T → X → (α : Type) → (β → Option α) → Option α} (hg : ∀ t x', Lawful (g t x')) : Lawful fun α K => takeCK x hint y fun t x' => g t x' α K :=
  (Lawful.takeC x hint y).comp (g := fun tx => g tx.1 tx.2) fun tx => hg tx.1 tx.2

theorem Lawful.takeCs {β : Type} : ∀ (n : Nat) (hs : List (Option Ty)) (ys : List C) (x : X) {g : List T → X → (α : Type) → (β → Option α) → Option α} (_ : ∀ t x', Lawful (g t x')), Lawful fun α K => takeCsK hs ys n x fun t x' => g t x' α K
  | 0, hs, ys, x, g, hg => hg [] x
  | n + 1, hs, [], x, g, hg => hg [] x
  | n + 1, hs, y :: ys, x, g, hg => by
    unfold takeCsK
    simp only
    split
    · exact .takeC2 _ _ _ fun t x1 => .takeCs n _ _ _ fun ts x2 => hg _ x2
    · exact .none

theorem Lawful.freeze (x : X) (r : Nat) (p : Path) {β : Type} {g : T → X → (α : Type) → (β → Option α) → Option α} (hg : ∀ t x', Lawful (g t x')) : Lawful fun α K => freezeK x r p fun t x' => g t x' α K := by
  unfold freezeK
  split
  · exact .none
  · refine .setAt2 _ _ _ _ fun t x' => ?_
    split
    · exact .setAt2 _ _ _ _ fun t x' => hg _ _
    · exact .none

theorem Lawful.prep {β : Type} {g : List C → X → (α : Type) → (β → Option α) → Option α} (hg : ∀ t x', Lawful (g t x')) : ∀ (fs : List (Option Ty)) (acc ys : List C) (x : X), Lawful fun α K => prepK fs acc ys x fun t x' => g t x' α K
  | [], acc, ys, x => by cases ys <;> exact hg _ x
  | fr :: fs, acc, [], x => hg acc x
  | fr :: fs, acc, y :: ys, x => by
    unfold prepK
    split
    · split
      · exact .freeze _ _ _ fun t x1 => .prep hg fs _ _ _
      · exact .prep hg fs _ _ _
      · exact .prep hg fs _ _ _
    · exact .prep hg fs _ _ _

theorem Lawful.takeAll (i : TyInfo) (vd : D) (x : X) {β : Type} {g : List T → X → (α : Type) → (β → Option α) → Option α} (hg : ∀ t x', Lawful (g t x')) : Lawful fun α K => takeAllK i vd x fun t x' => g t x' α K := by
  unfold takeAllK
  split
  · exact .prep (fun ys x1 => .takeCs _ _ _ _ hg) _ _ _ _
  · exact .none

theorem Lawful.src (x : X) (e : Ty) (z : C) {β : Type} {g : List (den e) → X → (α : Type) → (β → Option α) → Option α} (hg : ∀ t x', Lawful (g t x')) : Lawful fun α K => srcK x e z fun t x' => g t x' α K := by
  unfold srcK
  split
  · split
    · exact .none
    · split
      · exact .bind _ fun ys => hg _ _
      · exact .none
    · exact .bind _ fun ys => hg _ _
    · exact .none
  · exact hg _ _
  · split
    · refine .comp (.at _ _ _) fun t => ?_
      split
      · exact .bind _ fun ys => hg _ _
      · exact .none
    · refine .takeC2 _ _ _ fun t x1 => ?_
      split
      · exact .bind _ fun ys => hg _ _
      · exact .none
  · split
    · refine .comp (.at _ _ _) fun t => ?_
      split
      · split
        · exact .bind _ fun ys => hg _ _
        · exact .none
      · exact .none
    · exact .none
  · exact .none

theorem Lawful.append (cx : Ctx) (nt : Fr) (x : X) (ats : Array TypeId) (d1 d2 : D) (k : Nat) : Lawful fun _ K => appendK cx nt x ats d1 d2 k K := by
  unfold appendK
  refine .bind _ fun st => .bind _ fun xt => .bind _ fun i => .bind _ fun xi => ?_
  split
  · refine .bind _ fun ei => .bind _ fun y => .bind _ fun z => ?_
    split
    · refine .takeC2 _ _ _ fun t x1 => ?_
      split
      · exact .bind _ fun xs => .src _ _ _ fun ys x2 => .cond _ (.new _ _ _ _ _) .none
      · exact .none
    · exact .none
  · exact .none

theorem Lawful.alloc (cx : Ctx) (nt : Fr) (x : X) (t : TypeId) (k : Nat) : Lawful fun _ K => allocK cx nt x t k K := by
  unfold allocK
  refine .bind _ fun i => ?_
  split
  · exact .new _ _ _ _ _
  · exact .none

theorem Lawful.box (cx : Ctx) (nt : Fr) (x : X) (t : TypeId) (vd : D) (k : Nat) : Lawful fun _ K => boxK cx nt x t vd k K := by
  unfold boxK
  exact .bind _ fun i => .takeAll _ _ _ fun ts x1 => .new _ _ _ _ _

theorem Lawful.buildSlice (cx : Ctx) (nt : Fr) (x : X) (t : TypeId) (len : Nat) (parts : Array (Nat × Operand)) (k : Nat) : Lawful fun _ K => buildSliceK cx nt x t len parts k K := by
  unfold buildSliceK
  refine .bind _ fun i => ?_
  split
  · refine .bind _ fun ei => ?_
    split
    · exact .bind _ fun ys => .prep (fun ys x0 => .takeCs _ _ _ _ fun ts x1 => .bind _ fun xs => .new _ _ _ _ _) _ _ _ _
    · exact .none
  · exact .none

theorem Lawful.makeSlice (cx : Ctx) (nt : Fr) (x : X) (t : TypeId) (ld cd : D) (k : Nat) : Lawful fun _ K => makeSliceK cx nt x t ld cd k K := by
  unfold makeSliceK
  refine .bind _ fun i => ?_
  split
  · refine .bind _ fun ei => .bind _ fun lv => .bind _ fun cv => ?_
    split
    · split
      · split
        · exact .bind _ fun z0 => .cond _ (.new _ _ _ _ _) .none
        · exact .none
      · exact .none
    · exact .none
  · exact .none

theorem Lawful.grow (cx : Ctx) (nt : Fr) (x : X) (op : Op) (k : Nat) : Lawful fun _ K => growK cx nt x op k K := by
  unfold growK
  split
  · exact .alloc _ _ _ _ _
  · exact .bind _ fun d => .box _ _ _ _ _ _
  · exact .buildSlice _ _ _ _ _ _ _
  · exact .bind _ fun d => .bind _ fun d' => .makeSlice _ _ _ _ _ _ _
  · split
    · exact .bind _ fun pq => .bind _ fun d => .bind _ fun d' => .append _ _ _ _ _ _ _
    · exact .none
  · exact .none

theorem Lawful.one (cx : Ctx) (nt : Fr) (x : X) (o : Oper) (h : o.dst.isSome = true) : Lawful fun _ K => oneK cx nt x o K := by
  unfold oneK
  split
  · split
    · rename_i e; rw [e] at h; simp at h
    · exact .none
  · split
    · exact .none
    · split
      · exact .grow _ _ _ _ _
      · exact (Lawful.read cx x o.op).comp fun d => .put _ _ _ _

theorem Lawful.lendC (x : X) (f : Fl) (hint : Option Ty) (y : C) : Lawful fun _ K => lendCK x f hint y K := by
  unfold lendCK
  split
  · split
    · split
      · split
        · exact .none
        · exact .pure _
      · split
        · exact .pure _
        · exact .none
    · split
      · split
        · exact .none
        · exact .pure _
      · split
        · exact .pure _
        · exact .none
    · exact .pure _
    · exact .none
  · split
    · exact .none
    · exact .bind _ fun e => .pure _
  · split
    · refine .comp (.at _ _ _) fun t => ?_
      split
      · exact .pure _
      · exact .none
    · exact .none
  · split
    · refine .comp (.at _ _ _) fun t => ?_
      split
      · split
        · exact .pure _
        · exact .none
      · exact .none
    · exact .none
  · split
    · refine .comp (.at _ _ _) fun t => ?_
      split
      · exact .pure _
      · exact .none
    · exact .none
  · exact .none

theorem Lawful.lendCs (x : X) (f : Fl) : ∀ (hs : List (Option Ty)) (ys : List C), Lawful fun _ K => lendCsK x f hs ys K
  | _, [] => .pure []
  | h :: hs, y :: ys => (Lawful.lendC x f h y).comp fun t => (Lawful.lendCs x f hs ys).comp fun ts => .pure _
  | [], y :: ys => (Lawful.lendC x f Option.none y).comp fun t => (Lawful.lendCs x f [] ys).comp fun ts => .pure _

theorem Lawful.arg (cx : Ctx) (x : X) (p : PS) (o : Operand) : Lawful fun _ K => argK cx x p o K := by
  unfold argK
  exact .bind _ fun d => .bind _ fun ys => (Lawful.lendCs _ _ _ _).comp fun ts => .bind _ fun d => .pure _

theorem Lawful.args (cx : Ctx) (x : X) : ∀ (l : List PS) (os : List Operand), Lawful fun _ K => argsK cx x l os K
  | [], [] => .pure ()
  | [], _ :: _ => .none
  | [p], os => .bind (one? os) fun o => .arg _ _ _ _
  | p :: q :: l, [] => .none
  | p :: q :: l, o :: os => (Lawful.arg cx x p o).comp fun d => (Lawful.args cx x (q :: l) os).comp fun e => .pure (d, e)

theorem Lawful.argM (cx : Ctx) (x0 x : X) (p : PS) (o : Operand) : Lawful fun _ K => argMK cx x0 x p o K := by
  unfold argMK
  split
  · exact .bind _ fun r => .bind _ fun d => .pure _
  · exact .arg _ _ _ _

theorem Lawful.argsM (cx : Ctx) (x0 x : X) : ∀ (l : List PS) (os : List Operand), Lawful fun _ K => argsMK cx x0 x l os K
  | [], [] => .pure ()
  | [], _ :: _ => .none
  | [p], os => .bind (one? os) fun o => .argM _ _ _ _ _
  | p :: q :: l, [] => .none
  | p :: q :: l, o :: os => (Lawful.argM cx x0 x p o).comp fun d => (Lawful.argsM cx x0 x (q :: l) os).comp fun e => .pure (d, e)

theorem Lawful.giveBack (k : Nat) : ∀ (rs : List Nat) (n : Nat) (x : X), Lawful fun _ K => giveBackK k n rs x K
  | [], n, x => .pure x
  | r :: rs, n, x => by
    unfold giveBackK
    refine .takeC2 _ _ _ fun t x1 => ?_
    split
    · exact .bind _ fun x2 => .giveBack k rs _ _
    · exact .none

theorem Lawful.call (cx : Ctx) (nt : Fr) (Δ : List (Nat × Fn)) (x : X) (f : FuncId) (args : List Operand) (k : Nat) : Lawful fun _ K => callAK cx nt Δ x f args k K := by
  unfold callAK
  refine .bind _ fun F => ?_
  split
  · unfold callMK
    refine .bind _ fun pr => ?_
    unfold callRsK
    split
    · exact (Lawful.argsM cx _ x F.sg.ps args).comp fun d => .bind _ fun r => .bind _ fun x1 => (Lawful.put _ _ _ _).comp fun x2 => (Lawful.giveBack _ _ _ _).comp fun x3 => .pure _
    · exact .none
  · unfold callK
    exact (Lawful.args cx x F.sg.ps args).comp fun d => .bind _ fun r => .bind _ fun x1 => .put _ _ _ _

theorem Lawful.str (cx : Ctx) (nt : Fr) (x : X) (t1 t2 : TypeId) (p : Operand) (k : Nat) : Lawful fun _ K => strK cx nt x t1 t2 p k K := by
  unfold strK
  refine .bind _ fun j => .bind _ fun i => ?_
  split
  · refine .bind _ fun ei => ?_
    split
    · exact .bind _ fun y => (Lawful.lendC _ _ _ _).comp fun tt => .bind _ fun xs => .put _ _ _ _
    · exact .none
  · exact .none

theorem Lawful.step (cx : Ctx) (nt : Fr) (Δ : List (Nat × Fn)) (x : X) (o : Oper) (h : o.dst.isSome = true) : Lawful fun _ K => stepO cx nt Δ x o K := by
  unfold stepO
  split
  · split
    · split
      · exact .call _ _ _ _ _ _ _
      · exact .none
    · exact .one _ _ _ _ h
  · split
    · split
      · exact .str _ _ _ _ _ _ _
      · exact .none
    · exact .one _ _ _ _ h
  · exact .one _ _ _ _ h

theorem step_some {α : Type} {x : X} {o : Oper} (ho : o.dst.isSome = true) {K : X → Option α} {q : α} (h : stepO c nt Δ x o K = some q) : ∃ x', stepO c nt Δ x o some = some x' ∧ K x' = some q := by
  have e : stepO c nt Δ x o K = (stepO c nt Δ x o some).bind K := Lawful.step c nt Δ x o ho α K
  rw [e] at h
  exact Option.bind_eq_some_iff.mp h

/-- The same as stepO_sound, with the temporary told that is written. -/
theorem step_sound (hΔ : Known c.P c.G Δ) {B : Base} (hG : Fit B c) (hnt : B.nt = nt) {s : Sit} {x : X} {a : Act} {w : World} (h : RelW B s x a w) {o : Oper} {x' : X} (he : stepO c nt Δ x o some = some x')
    {Kp : Act → World → Prop} {Q : Exit → Act → World → Prop} (hK : ∀ s' v w', RelW B s' x' (a.put o.dst v) w' → Kp (a.put o.dst v) w') : o.wp c.P a w Kp Q := by
  have one : oneK c nt x o some = some x' → o.wp c.P a w Kp Q := by
    intro he
    obtain ⟨x2, s', k1, n, w', hr, hcase⟩ := one_sound hG hnt h he
    simp only [Option.some.injEq] at k1
    subst k1
    unfold Oper.wp
    rw [hr]
    rcases hcase with ⟨v, rfl, hrel⟩ | ⟨rfl, hrel⟩
    · exact hK _ _ _ hrel
    · exact hK _ _ _ hrel
  unfold stepO at he
  split at he
  · rename_i cl hop
    split at he
    · rename_i f hcal
      split at he
      · rename_i k hk
        have hF : ∃ F, look Δ f = some F := by
          unfold callAK at he
          obtain ⟨F, h1, _⟩ := Option.bind_eq_some_iff.mp he
          exact ⟨F, h1⟩
        obtain ⟨F, hF⟩ := hF
        obtain ⟨-, fn, hf, hb, hname⟩ := hΔ f F hF
        have hcall := callA_sound hΔ hG hnt h he (Kp := Kp) (fun x2 s' v w' e1 e2 => by
          simp only [Option.some.injEq] at e1
          subst e1
          rw [hk] at hK
          rw [← hnt, gput_local] at e2 ⊢
          exact hK s' v w' e2)
        have hrun : (execOp a.eval o).run c.P w = .ok (.enter f (cl.args.map a.eval)) w := by
          have hbn : ¬ fn.body = none := by intro e; rw [e] at hb; simp at hb
          have hname' : ¬ fn.name = "runtime.NumGoroutine" := by simpa using hname
          obtain ⟨callee, args, ats⟩ := cl
          simp only at hcal
          subst hcal
          simp [execOp, hop, resolve, Act.eval, Deferred.ofValue, invoke, callFunc, hf, hname', hbn]
        unfold Oper.wp
        rw [hrun, Oper.upon_enter]
        refine hcall.mono (fun e w' he => ?_)
        cases e with
        | returned v =>
          show Kp (a.put o.dst v) w'
          rw [hk]
          have he : Kp (a.gput B (nt.off + k) v) w' := he
          rwa [← hnt, gput_local] at he
        | _ => exact he.elim
      · cases he
    · exact one he
  · rename_i t1 t2 p hop
    split at he
    · split at he
      · rename_i k hk
        obtain ⟨x2, v, k1, k2, k3⟩ := str_sound hG hnt h he
        simp only [Option.some.injEq] at k1
        subst k1
        unfold Oper.wp
        have : (execOp a.eval o).run c.P w = .ok (.value v) w := by
          simp only [execOp, hop, Sem.run_bind, k2]; rfl
        rw [this]
        rw [← hnt, gput_local, ← hk] at k3
        exact hK _ _ _ k3
      · cases he
    · exact one he
  · exact one he

end
end Go.V
