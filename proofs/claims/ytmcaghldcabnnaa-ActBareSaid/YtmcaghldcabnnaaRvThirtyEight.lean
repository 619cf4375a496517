/- Bytes as a text; is a slice nil? -/
import Derived.Test.YtmcaghldcabnnaaRvFortyTwo
import Derived.Laws.BytesArg
import Derived.Laws.Cover3
namespace Go.V
open Go.RowKit

variable {α : Type}

def byte8 (n : Int) : UInt8 := UInt8.ofNat n.toNat

def bytesT (t : T) : Option (List Int) := match t with
  | .sl _ e xs => cast? (.sl e) (.sl (.int .u8)) xs
  | _ => none

def isByte : TyI → Bool
  | .int .u8 => true
  | _ => false

def isStrTy : TyI → Bool
  | .str => true
  | _ => false

def strK (cx : Ctx) (nt : Fr) (x : X) (s t : TypeId) (p : Operand) (k : Nat) (K : X → Option α) : Option α :=
  (look cx.Ty s).bind fun j => (look cx.Ty t).bind fun i => match j.d with
    | .sl e => (look cx.Ty e).bind fun ei => match and (isByte ei.d) (isStrTy i.d) with
      | true => ((evalD cx x p).bind D.one).bind fun y => lendCK x .bo (some (.int .u8)) y fun tt => (bytesT tt).bind fun xs => putK nt x k (scal (.string ⟨⟨xs.map byte8⟩⟩)) K
      | false => none
    | _ => none

open Classical in
/-- What comes to the same whichever it is. -/
noncomputable def bothR (f : Bool → Option α) : Option α := if f true = f false then f true else none

theorem bothR_some {f : Bool → Option α} {q : α} (h : bothR f = some q) (b : Bool) : f b = some q := by
  unfold bothR at h
  split at h
  · rename_i e
    cases b with
    | true => exact h
    | false => rw [← e]; exact h
  · cases h

theorem bothR_eq {f : Bool → Option α} {q : α} (h1 : f true = some q) (h2 : f false = some q) : bothR f = some q := by
  unfold bothR
  rw [if_pos (h1.trans h2.symm)]
  exact h1

/-- A slice that holds something isn't nil; one that holds nothing may be. -/
noncomputable def nilR {β : Type} (xs : List β) (f : Bool → Option α) : Option α := match xs with
  | [] => bothR f
  | _ :: _ => f false

theorem nilR_eq {β : Type} {xs : List β} {f : Bool → Option α} {q : α} (h1 : xs = [] → f true = some q) (h2 : f false = some q) : nilR xs f = some q := by
  cases xs with
  | nil => exact bothR_eq (h1 rfl) h2
  | cons => exact h2

def xorN (neg b : Bool) : Bool := match neg with
  | true => !b
  | false => b

def nilCmp (o : Oper) : Option (TypeId × (Operand × Bool)) := match o.op with
  | .binOp .eql t p (.const v) _ => match isNilS v with
    | true => some (t, (p, false))
    | false => none
  | .binOp .neq t p (.const v) _ => match isNilS v with
    | true => some (t, (p, true))
    | false => none
  | _ => none

noncomputable def nilK (cx : Ctx) (nt : Fr) (x : X) (t : TypeId) (p : Operand) (neg : Bool) (k : Nat) (K : X → Option α) : Option α :=
  (look cx.Ty t).bind fun i => match i.d with
    | .sl e => (look cx.Ty e).bind fun ei => ((evalD cx x p).bind D.one).bind fun y => lendCK x .bo (some ei.ty) y fun tt => match tt with
      | .sl _ _ xs => nilR xs fun b => putK nt x k (scal (.bool (xorN neg b))) K
      | _ => none
    | _ => none

section
variable {c : Ctx} {B : Base} {s : Sit} {x : X} {a : Act} {w : World} {nt : Fr}

theorem D.one_is {d : D} {y : C} (h : d.one = some y) : d = .v (.c y) := by
  unfold D.one at h
  split at h
  · simp only [Option.some.injEq] at h; rw [h]
  · cases h

theorem cellOf_of {d : D} {v : Value} {y : C} (hr : RepD w s d v) (h : d.one = some y) : RepC w s y v := by
  have := D.one_is h
  subst this
  cases hr with
  | v _ _ hr => cases hr with
    | c _ _ hr => exact hr

theorem bytesT_some {t : T} {xs : List Int} (h : bytesT t = some xs) : ∃ f, t = .sl f (.int .u8) xs := by
  cases t with
  | sl f e ys =>
    have h : cast? (.sl e) (.sl (.int .u8)) ys = some xs := h
    obtain ⟨hee, hcast⟩ := cast?_some h
    cases hee
    have hcast : ys = xs := hcast
    subst hcast
    exact ⟨f, rfl⟩
  | _ => cases h

theorem byte_cell {f : Fl} {xs : List Int} {i : Nat} (hi : i < xs.length) : cellOf (rows f (.int .u8) xs) i 0 = some (.v (.int .u8 (List.getD (α := Int) xs i 0))) := by
  have := cellOf_rows (f := f) (e := .int .u8) (xs := xs) (i := i) (j := 0)
  refine this.trans ?_
  show ((xs : List Int)[i]?).bind (fun x => nth [T.v (.int .u8 x)] 0) = _
  rw [List.getElem?_eq_getElem hi]
  simp [nth, List.getD, List.getElem?_eq_getElem hi]

theorem nilR_some {β : Type} {xs : List β} {f : Bool → Option α} {q : α} (h : nilR xs f = some q) (b : Bool) (hb : xs ≠ [] → b = false) : f b = some q := by
  cases xs with
  | nil => exact bothR_some h b
  | cons z zs => rw [hb (by simp)]; exact h

theorem str_sound (hG : Fit B c) (hnt : B.nt = nt) (h : RelW B s x a w) {t1 t2 : TypeId} {p : Operand} {k : Nat} {K : X → Option α} {q : α} (he : strK c nt x t1 t2 p k K = some q) :
    ∃ x' v, K x' = some q ∧ (convert t1 t2 (a.eval p)).run c.P w = .ok v w ∧ RelW B s x' (a.gput B k v) w := by
  unfold strK at he
  obtain ⟨j, hj, he1⟩ := Option.bind_eq_some_iff.mp he
  obtain ⟨i, hi, he2⟩ := Option.bind_eq_some_iff.mp he1
  clear he he1
  have hokj := c.hTy t1 j hj
  have hoki := c.hTy t2 i hi
  split at he2
  rotate_left
  · cases he2
  rename_i e hje
  obtain ⟨ei, hei, he3⟩ := Option.bind_eq_some_iff.mp he2
  clear he2
  have hoke := c.hTy e ei hei
  split at he3
  rotate_left
  · cases he3
  rename_i hb
  simp only [Bool.and_eq_true] at hb
  obtain ⟨y, h1, he4⟩ := Option.bind_eq_some_iff.mp he3
  obtain ⟨d, h2, h3⟩ := Option.bind_eq_some_iff.mp h1
  clear he3
  have hv := cellOf_of (evalD_sound hG h h2) h3
  obtain ⟨tt, he5, hr⟩ := lendC_sound h hv he4
  obtain ⟨xs, h4, he6⟩ := Option.bind_eq_some_iff.mp he5
  have us : ∃ sd, c.P.underlying t1 = some sd ∧ descI sd = .sl e := by
    have := hokj.under
    rw [hje] at this
    exact Option.map_eq_some_iff.mp this
  have ut : ∃ sd, c.P.underlying t2 = some sd ∧ descI sd = i.d := Option.map_eq_some_iff.mp hoki.under
  have ue : ∃ sd, c.P.underlying e = some sd ∧ descI sd = ei.d := Option.map_eq_some_iff.mp hoke.under
  obtain ⟨d1, u1, u1'⟩ := us
  obtain ⟨d2, u2, u2'⟩ := ut
  obtain ⟨d3, u3, u3'⟩ := ue
  have e1 : d1 = .slice e := by cases d1 <;> simp [descI] at u1'; rw [u1']
  have e2 : d2 = .string := by
    have := hb.2
    rw [← u2'] at this
    cases d2 <;> simp [descI, isStrTy] at this; rfl
  have e3 : d3 = .int .u8 := by
    have := hb.1
    rw [← u3'] at this
    cases d3 with
    | int k => cases k <;> simp [descI, isByte] at this; rfl
    | _ => simp [descI, isByte] at this
  subst e1 e2 e3
  generalize a.eval p = v at hr
  have key : ∃ v', (convert t1 t2 v).run c.P w = .ok v' w ∧ v' = .string ⟨⟨xs.map byte8⟩⟩ := by
    obtain ⟨f, rfl⟩ := bytesT_some h4
    cases hr with
    | nil _ _ ad cap =>
      cases ad with
      | none => exact ⟨_, run_convert_bytes_nil w t1 e u1 u3 0 cap t2 u2, rfl⟩
      | some ad =>
        refine ⟨_, ?_, rfl⟩
        rw [run_convert_bytes_string w t1 t2 e _ 0 cap u1 u3 u2, run_bytesToString w ad 0 cap [] (by simp [loadCells, loadCellsFrom])]
        rfl
    | sl _ _ _ b off cap vs hR hcap hc hr =>
      refine ⟨_, run_convert_bytes_arg w t1 e u1 u3 b off xs.length cap xs rfl (fun i hi => ?_) t2 u2, rfl⟩
      have ht := byte_cell (f := f) hi
      have g1 := hc i 0 _ ht
      have g2 := hr i 0 _ ht
      have hsz : Ty.size (.int .u8) = 1 := rfl
      rw [hsz, Nat.mul_one, Nat.add_zero] at g1
      rw [g1]
      generalize vs i 0 = z at g2
      cases g2 with
      | v _ _ => rfl
      | box _ _ _ hb' => simp [T.shBox?] at hb'
    | box _ _ _ hb' => simp [T.shBox?] at hb'
  obtain ⟨v', k1, rfl⟩ := key
  obtain ⟨x', k2, k3⟩ := put_sound hnt h he6 (scal_rep (.string ⟨⟨xs.map byte8⟩⟩) rfl)
  exact ⟨x', _, k2, k1, k3⟩

theorem nilCmp_some {o : Oper} {t : TypeId} {p : Operand} {neg : Bool} (h : nilCmp o = some (t, (p, neg))) : ∃ yt, o.op = .binOp (match neg with | true => .neq | false => .eql) t p (.const (.slice none 0 0)) yt := by
  unfold nilCmp at h
  split at h
  · rename_i t' p' v yt hop
    split at h
    · rename_i hn
      simp only [Option.some.injEq, Prod.mk.injEq] at h
      obtain ⟨rfl, rfl, rfl⟩ := h
      exact ⟨yt, by rw [hop, isNilS_eq hn]⟩
    · cases h
  · rename_i t' p' v yt hop
    split at h
    · rename_i hn
      simp only [Option.some.injEq, Prod.mk.injEq] at h
      obtain ⟨rfl, rfl, rfl⟩ := h
      exact ⟨yt, by rw [hop, isNilS_eq hn]⟩
    · cases h
  · cases h

theorem nil_sound (hG : Fit B c) (hnt : B.nt = nt) (h : RelW B s x a w) {o : Oper} {t : TypeId} {p : Operand} {neg : Bool} (ho : nilCmp o = some (t, (p, neg))) {k : Nat} {K : X → Option α} {q : α} (he : nilK c nt x t p neg k K = some q) :
    ∃ x' v, K x' = some q ∧ (execOp a.eval o).run c.P w = .ok (.value v) w ∧ RelW B s x' (a.gput B k v) w := by
  unfold nilK at he
  obtain ⟨i, hi, he1⟩ := Option.bind_eq_some_iff.mp he
  clear he
  have hoki := c.hTy t i hi
  split at he1
  rotate_left
  · cases he1
  rename_i e hie
  obtain ⟨ei, hei, he2⟩ := Option.bind_eq_some_iff.mp he1
  obtain ⟨y, h1, he3⟩ := Option.bind_eq_some_iff.mp he2
  obtain ⟨d, h2, h3⟩ := Option.bind_eq_some_iff.mp h1
  clear he1 he2
  have hv := cellOf_of (evalD_sound hG h h2) h3
  obtain ⟨tt, he4, hr⟩ := lendC_sound h hv he3
  obtain ⟨d1, u1, u1'⟩ : ∃ sd, c.P.underlying t = some sd ∧ descI sd = .sl e := by
    have := hoki.under
    rw [hie] at this
    exact Option.map_eq_some_iff.mp this
  have e1 : d1 = .slice e := by cases d1 <;> simp [descI] at u1'; rw [u1']
  subst e1
  obtain ⟨yt, hop⟩ := nilCmp_some ho
  split at he4
  rotate_left
  · cases he4
  rename_i f e' xs
  -- the slice that it is
  obtain ⟨ad, n, cap, hval, hnn⟩ : ∃ ad n cap, a.eval p = .slice ad n cap ∧ (xs ≠ [] → ad ≠ none) := by
    generalize a.eval p = v at hr
    cases hr with
    | nil _ _ ad cap => exact ⟨ad, 0, cap, rfl, fun h => absurd rfl h⟩
    | sl _ _ _ b off cap vs => exact ⟨_, _, _, rfl, fun _ h => by cases h⟩
    | box _ _ _ hb' => simp [T.shBox?] at hb'
  have hcho := nilR_some he4 ad.isNone (fun h => by
    cases ad with
    | none => exact absurd rfl (hnn h)
    | some _ => rfl)
  have hrun : (execOp a.eval o).run c.P w = .ok (.value (.bool (xorN neg ad.isNone))) w := by
    have hce : a.eval (.const (.slice none 0 0)) = .slice none 0 0 := rfl
    cases neg with
    | false =>
      have e1 := run_equal_slice_nil (P := c.P) w t e ad n cap u1
      have e2 : binOp .eql t (.slice ad n cap) (.slice none 0 0) = (do pure (.bool (← Op.equal t (.slice ad n cap) (.slice none 0 0)))) := rfl
      simp only [execOp, hop, hval, hce, e2]
      simp [eqGuard, e1, xorN]
    | true =>
      have e1 := run_neq_slice_nil (P := c.P) w t e ad n cap u1
      simp only [execOp, hop, hval, hce]
      simp [eqGuard, e1, xorN]
  obtain ⟨x', k2, k3⟩ := put_sound hnt h hcho (scal_rep (.bool _) rfl)
  exact ⟨x', _, k2, hrun, k3⟩

end
end Go.V
