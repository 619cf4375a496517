/- Parts of slices and texts. -/
import Derived.Test.YtmcaghldcabnnaaRvSeven
import Derived.Laws.Strings2
namespace Go.V
open Go.RowKit

variable {α : Type}

def okB (l h m : Option Int) (n : Nat) : Bool := match l with
  | none => match h with
    | none => match m with
      | none => true
      | some _ => false
    | some h => match m with
      | none => and (decide (0 ≤ h)) (decide (h ≤ n))
      | some m => and (decide (0 ≤ h)) (and (decide (h ≤ m)) (decide (m ≤ n)))
  | some l => match h with
    | none => match m with
      | none => and (decide (0 ≤ l)) (decide (l ≤ n))
      | some _ => false
    | some h => match m with
      | none => and (decide (0 ≤ l)) (and (decide (l ≤ h)) (decide (h ≤ n)))
      | some m => and (decide (0 ≤ l)) (and (decide (l ≤ h)) (and (decide (h ≤ m)) (decide (m ≤ n))))

def loN (l : Option Int) : Nat := match l with | none => 0 | some l => l.toNat
def hiN (h : Option Int) (n : Nat) : Nat := match h with | none => n | some h => h.toNat
def lenN (l h : Option Int) (n : Nat) : Nat := match l with
  | none => match h with
    | none => n
    | some h => h.toNat
  | some l => match h with
    | none => n - l.toNat
    | some h => h.toNat - l.toNat

theorem lenN_eq (l h : Option Int) (n : Nat) : lenN l h n = hiN h n - loN l := by
  cases l <;> cases h <;> rfl

theorem okB_spec {l h m : Option Int} {n : Nat} (hb : okB l h m n = true) :
    (∀ i, l = some i → 0 ≤ i) ∧ (∀ i, h = some i → 0 ≤ i) ∧ (∀ i, m = some i → 0 ≤ i) ∧ loN l ≤ hiN h n ∧ hiN h n ≤ n ∧ (∀ i, m = some i → hiN h n ≤ i.toNat ∧ i.toNat ≤ n ∧ h.isSome = true) := by
  cases l <;> cases h <;> cases m <;> simp only [okB, Bool.and_eq_true, decide_eq_true_eq, Bool.false_eq_true] at hb <;>
    simp only [loN, hiN, reduceCtorEq, false_implies, implies_true, Option.some.injEq, forall_eq', true_and, and_true, Option.isSome_some, Nat.zero_le, Nat.le_refl] <;> try omega

def cutL {β : Type} (xs : List β) (l h : Option Int) : List β := match l with
  | none => match h with
    | none => xs
    | some h => xs.take h.toNat
  | some l => match h with
    | none => xs.drop l.toNat
    | some h => (xs.take h.toNat).drop l.toNat

theorem cutL_eq {β : Type} {xs : List β} {l h m : Option Int} (hb : okB l h m xs.length = true) : cutL xs l h = (xs.take (hiN h xs.length)).drop (loN l) := by
  cases l <;> cases h <;> simp [cutL, loN, hiN]

def cutK (x : X) (y : C) (l h m : Option Int) (K : C → Option α) : Option α := match y with
  | .own r p e => atK x r p fun t => (slN t).bind fun en => cond (okB l h m en.2) (K (match l with
      | none => match h with
        | none => .own r p e
        | some _ => .sub r p (loN l) (lenN l h en.2) e
      | some _ => .sub r p (loN l) (lenN l h en.2) e)) none
  | .sub r p lo n e => cond (okB l h m n) (K (.sub r p (lo + loN l) (lenN l h n) e)) none
  | .k t => match t with
    | .sl .own _ _ => none
    | .sl f e xs => cond (okB l h m xs.length) (K (.k (.sl f e (cutL xs l h)))) none
    | _ => none
  | .nil => cond (okB l h m 0) (K .nil) none
  | .ra e xs => match m with
    | none => cond (okB l h m xs.length) (K (.k (.sl .ro e (cutL xs l h)))) none
    | some _ => none
  | _ => none

/-- A part that has no room behind it, and is nothing: s[:0:0]. -/
def cut0K (x : X) (y : C) (l h : Option Int) (K : C → Option α) : Option α := lenCK x y fun n => cond (okB l h (some 0) n) (K .nil) none

def boundD (c : Ctx) (x : X) (o : Operand) : Option Int := (evalD c x o).bind fun d => (d.val).bind fun v => match v with
  | .int .i64 n => some n
  | _ => none

def boundO (c : Ctx) (x : X) (o : Option Operand) : Option (Option Int) := match o with
  | none => some none
  | some o => (boundD c x o).map some

def isZero (o : Option Operand) : Bool := match o with
  | some (.const (.int .i64 (.ofNat 0))) => true
  | _ => false

def szC (y : C) (sz : Nat) : Bool := match y with
  | .own _ _ e => Nat.beq e.size sz
  | .sub _ _ _ _ e => Nat.beq e.size sz
  | .k (.sl _ e _) => Nat.beq e.size sz
  | .nil => true
  | .ra e _ => Nat.beq e.size sz
  | _ => false

def sliceK (c : Ctx) (x : X) (t : TypeId) (d : D) (lo hi mx : Option Operand) (K : D → Option α) : Option α :=
  (look c.Ty t).bind fun i => (boundO c x lo).bind fun l => (boundO c x hi).bind fun h => (boundO c x mx).bind fun m => match i.d with
    | .sl e => (look c.Ty e).bind fun ei => match d with
      | .v (.c y) => match szC y ei.size with
        | true => match isZero mx with
          | true => cut0K x y l h fun z => K (.v (.c z))
          | false => match y with
            | .ra _ _ => none
            | y => cutK x y l h m fun z => K (.v (.c z))
        | false => none
      | _ => none
    | .str => (d.val).bind fun v => match v with
      | .string s => match m with
        | none => cond (okB l h m s.data.toList.length) (K (scal (.string ⟨⟨cutL s.data.toList l h⟩⟩))) none
        | some _ => none
      | _ => none
    | _ => none

theorem Lawful.cut (x : X) (y : C) (l h m : Option Int) : Lawful fun _ K => cutK x y l h m K := by
  unfold cutK
  split
  · exact .comp (.at _ _ _) fun t => .bind _ fun en => .cond _ (.pure _) .none
  · exact .cond _ (.pure _) .none
  · split
    · exact .none
    · exact .cond _ (.pure _) .none
    · exact .none
  · exact .cond _ (.pure _) .none
  · split
    · exact .cond _ (.pure _) .none
    · exact .none
  · exact .none

theorem Lawful.cut0 (x : X) (y : C) (l h : Option Int) : Lawful fun _ K => cut0K x y l h K :=
  .comp (.lenC _ _) fun _ => .cond _ (.pure _) .none

theorem Lawful.slice (c : Ctx) (x : X) (t : TypeId) (d : D) (lo hi mx : Option Operand) : Lawful fun _ K => sliceK c x t d lo hi mx K := by
  unfold sliceK
  refine .bind _ fun i => .bind _ fun l => .bind _ fun h => .bind _ fun m => ?_
  split
  · refine .bind _ fun ei => ?_
    split
    · split
      · split
        · exact .comp (.cut0 _ _ _ _) fun _ => .pure _
        · split
          · exact .none
          · exact .comp (.cut _ _ _ _ _) fun _ => .pure _
      · exact .none
    · exact .none
  · refine .bind _ fun v => ?_
    split
    · split
      · exact .cond _ (.pure _) .none
      · exact .none
    · exact .none
  · exact .none

section ops
variable {c : Ctx} {B : Base} {s : Sit} {x : X} {a : Act} {w : World}

theorem boundD_sound (hG : Fit B c) (h : RelW B s x a w) {o : Operand} {n : Int} (he : boundD c x o = some n) : a.eval o = .int .i64 n := by
  unfold boundD at he
  obtain ⟨d, h1, he⟩ := Option.bind_eq_some_iff.mp he
  obtain ⟨v, h2, he⟩ := Option.bind_eq_some_iff.mp he
  obtain ⟨h3, -⟩ := D.val_sound (evalD_sound hG h h1) h2
  split at he
  · simp only [Option.some.injEq] at he; subst he; exact h3
  · cases he

theorem boundO_sound (hG : Fit B c) (h : RelW B s x a w) {o : Option Operand} {n : Option Int} (he : boundO c x o = some n) :
    (o = none ∧ n = none) ∨ ∃ o' n', o = some o' ∧ n = some n' ∧ a.eval o' = .int .i64 n' := by
  cases o with
  | none => simp only [boundO, Option.some.injEq] at he; exact .inl ⟨rfl, he.symm⟩
  | some o =>
    obtain ⟨n', h1, rfl⟩ := Option.map_eq_some_iff.mp he
    exact .inr ⟨o, n', rfl, rfl, boundD_sound hG h h1⟩

def mxN (m : Option Int) (cap : Nat) : Nat := match m with | none => cap | some m => m.toNat

/-- The bounds of a slice expression, as the machine finds them. -/
theorem bounds_run {w1 : World} {P : Program} {isS : Bool} {lo hi mx : Option Operand} {l h m : Option Int} {len cap : Nat}
    (hl : (lo = none ∧ l = none) ∨ ∃ o' n', lo = some o' ∧ l = some n' ∧ a.eval o' = .int .i64 n')
    (hh : (hi = none ∧ h = none) ∨ ∃ o' n', hi = some o' ∧ h = some n' ∧ a.eval o' = .int .i64 n')
    (hm : (mx = none ∧ m = none) ∨ ∃ o' n', mx = some o' ∧ m = some n' ∧ a.eval o' = .int .i64 n') (hb : okB l h m len = true) (hc : len ≤ cap) :
    (Instr.sliceBounds isS len cap (lo.map a.eval) (hi.map a.eval) (mx.map a.eval)).run P w1 = .ok (loN l, hiN h len, mxN m cap) w1 := by
  obtain ⟨p1, p2, p3, p4, p5, p6⟩ := okB_spec hb
  have sb : ∀ (o : Operand) (n : Int) (y : Nat) (code : BoundsCode), a.eval o = .int .i64 n → 0 ≤ n → n.toNat ≤ y → (Instr.sliceBound (a.eval o) y code).run P w1 = .ok n.toNat w1 := by
    intro o n y code ho h0 hle
    rw [ho]
    have h1 : n ≤ (y : Int) := by omega
    simp [Instr.sliceBound, asIntOf, h0, h1]
  rcases hl with ⟨rfl, rfl⟩ | ⟨lo, l, rfl, rfl, el⟩ <;> rcases hh with ⟨rfl, rfl⟩ | ⟨hi, h, rfl, rfl, eh⟩ <;> rcases hm with ⟨rfl, rfl⟩ | ⟨mx, m, rfl, rfl, em⟩ <;>
    simp only [loN, hiN, mxN] at p4 p5 p6 ⊢
  · simp [Instr.sliceBounds]
  · cases hb
  · have e1 := fun code => sb hi h cap code eh (p2 _ rfl) (by omega)
    simp [Instr.sliceBounds, e1]
  · have hq := p6 _ rfl
    have e0 := fun code => sb mx m cap code em (p3 _ rfl) (by omega)
    have e1 := fun code => sb hi h m.toNat code eh (p2 _ rfl) (by omega)
    simp [Instr.sliceBounds, e0, e1]
  · have e1 := fun code => sb lo l len code el (p1 _ rfl) (by omega)
    simp [Instr.sliceBounds, e1]
  · cases hb
  · have e1 := fun code => sb hi h cap code eh (p2 _ rfl) (by omega)
    have e2 := fun code => sb lo l h.toNat code el (p1 _ rfl) (by omega)
    simp [Instr.sliceBounds, e1, e2]
  · have hq := p6 _ rfl
    have e0 := fun code => sb mx m cap code em (p3 _ rfl) (by omega)
    have e1 := fun code => sb hi h m.toNat code eh (p2 _ rfl) (by omega)
    have e2 := fun code => sb lo l h.toNat code el (p1 _ rfl) (by omega)
    simp [Instr.sliceBounds, e0, e1, e2]

/-- A shared slice's part. -/
theorem shared_cut {f : Fl} {e : Ty} {xs : List (den e)} {ad : Option Addr} {n cap : Nat} (hv : RepR w s.S (.sl f e xs) (.slice ad n cap)) {l h m : Option Int} (hb : okB l h m xs.length = true) (mc : Nat)
    (hmc : (m = none ∧ mc = cap) ∨ m = some (mc : Int)) :
    n = xs.length ∧ n ≤ cap ∧ RepR w s.S (.sl f e (cutL xs l h)) (.slice (if mc = loN l then ad else ad.map (·.add (loN l * e.size))) (hiN h xs.length - loN l) (mc - loN l)) := by
  rw [cutL_eq hb]
  obtain ⟨p1, p2, p3, p4, p5, p6⟩ := okB_spec hb
  generalize hval : Value.slice ad n cap = v at hv
  cases hv with
  | nil =>
    simp only [Value.slice.injEq] at hval
    obtain ⟨rfl, rfl, rfl⟩ := hval
    simp only [List.length_nil] at p5 p4 ⊢
    refine ⟨by simp, by simp, ?_⟩
    have e1 : hiN h 0 = 0 := by omega
    have e2 : loN l = 0 := by omega
    rw [e1, e2]
    exact .nil f e _ _
  | sl _ _ _ b off cap' vs hR hcap hc hr =>
    simp only [Value.slice.injEq] at hval
    obtain ⟨rfl, rfl, rfl⟩ := hval
    refine ⟨rfl, hcap, ?_⟩
    have hmc' : hiN h xs.length ≤ mc ∧ mc ≤ cap := by
      rcases hmc with ⟨_, rfl⟩ | rfl
      · exact ⟨by omega, Nat.le_refl _⟩
      · have := p6 _ rfl; omega
    have hlen : ((xs.take (hiN h xs.length)).drop (loN l)).length = hiN h xs.length - loN l := by simp; omega
    by_cases he : hiN h xs.length - loN l = 0
    · have : (xs.take (hiN h xs.length)).drop (loN l) = [] := List.length_eq_zero_iff.mp (by omega)
      rw [this, he]
      exact .nil f e _ _
    · rw [if_neg (by omega)]
      have hcell : ∀ i j t, cellOf (rows f e ((xs.take (hiN h xs.length)).drop (loN l))) i j = some t → cellOf (rows f e xs) (loN l + i) j = some t := by
        intro i j t e'
        rw [cellOf_rows] at e' ⊢
        rw [List.getElem?_drop, List.getElem?_take] at e'
        split at e'
        · exact e'
        · simp at e'
      have := RepR.sl (w := w) (S := s.S) f e ((xs.take (hiN h xs.length)).drop (loN l)) b (off + loN l * e.size) (mc - loN l) (fun i j => vs (loN l + i) j) hR (by omega)
        (fun i j t e' => by rw [← hc _ j t (hcell i j t e')]; congr 2; rw [Nat.add_mul]; omega) (fun i j t e' => hr _ _ _ (hcell i j t e'))
      rw [hlen] at this
      simpa [addr_add] using this
  | box _ _ _ hb' => simp [T.shBox?] at hb'

theorem map_add (ad : Option Addr) (n : Nat) (b off : Nat) (h : ad = some ⟨b, off, none⟩) : ad.map (·.add n) = some ⟨b, off + n, none⟩ := by
  subst h; simp [addr_add]

theorem add_zero_addr (ad : Option Addr) : ad.map (·.add 0) = ad := by cases ad <;> simp [Addr.add]

theorem cut_sound (h : RelW B s x a w) {y : C} {v : Value} (hv : RepC w s y v) {sz : Nat} (hsz : szC y sz = true) (hra : ∀ e xs, y ≠ .ra e xs) {l hh m : Option Int} {K : C → Option α} {r : α} (hl : cutK x y l hh m K = some r) :
    ∃ q ad n cap, K q = some r ∧ v = .slice ad n cap ∧ n ≤ cap ∧ okB l hh m n = true ∧
      ∀ mc, ((m = none ∧ mc = cap) ∨ m = some (mc : Int)) → RepC w s q (.slice (if mc = loN l then ad else ad.map (·.add (loN l * sz))) (hiN hh n - loN l) (mc - loN l)) := by
  have range : ∀ {n cap mc : Nat}, n ≤ cap → okB l hh m n = true → ((m = none ∧ mc = cap) ∨ m = some (mc : Int)) → loN l ≤ hiN hh n ∧ hiN hh n ≤ n ∧ hiN hh n ≤ mc ∧ mc ≤ cap := by
    intro n cap mc hcap hb hmc
    obtain ⟨p1, p2, p3, p4, p5, p6⟩ := okB_spec hb
    rcases hmc with ⟨_, rfl⟩ | rfl
    · exact ⟨p4, p5, by omega, Nat.le_refl _⟩
    · have := p6 _ rfl; exact ⟨p4, p5, by omega, by omega⟩
  unfold cutK at hl
  split at hl
  · rename_i r0 p e0
    have hsz := Nat.eq_of_beq_eq_true hsz
    obtain ⟨t, h1, hl⟩ := atK_some hl
    obtain ⟨⟨e, nn⟩, hen, hl⟩ := Option.bind_eq_some_iff.mp hl
    obtain ⟨f, hX⟩ := slN_X hen
    simp only at hX hl
    rcases cond_some hl with ⟨hb, hl⟩ | ⟨_, hl⟩
    · cases hv with
      | own _ _ _ _ hΦ =>
        obtain ⟨ad, cap, rfl, hcap, hblk⟩ := place_slice h hX h1 hΦ
        refine ⟨_, ad, _, cap, hl, rfl, hcap, hb, fun mc hmc => ?_⟩
        obtain ⟨q1, q2, q3, q4⟩ := range hcap hb hmc
        have hsub : RepC w s (.sub r0 p (loN l) (lenN l hh nn) e0) (.slice (if mc = loN l then ad else ad.map (·.add (loN l * sz))) (hiN hh nn - loN l) (mc - loN l)) := by
          rw [lenN_eq]
          refine .sub r0 p _ _ e0 ad _ _ cap _ hΦ (by omega) hcap (by omega) (by omega) (fun e1 => ?_) (fun hne => ?_)
          · rw [e1, Nat.zero_mul, add_zero_addr]; split <;> rfl
          · obtain ⟨b, off, hb1, _⟩ := hblk (by omega)
            refine ⟨b, off, hb1, ?_⟩
            rw [if_neg (by omega), map_add ad _ b off hb1, hsz]
        cases l with
        | some l => exact hsub
        | none =>
          cases hh with
          | some hh => exact hsub
          | none =>
            cases m with
            | some m => simp [okB] at hb
            | none =>
              have hmc : mc = cap := by simpa using hmc
              subst hmc
              simp only [loN, hiN, Nat.zero_mul, Nat.sub_zero]
              have : (if mc = 0 then ad else ad.map (·.add 0)) = ad := by rw [add_zero_addr]; split <;> rfl
              rw [this]
              exact .own _ _ _ _ hΦ
    · cases hl
  · rename_i r0 p lo0 n0 e0
    have hsz := Nat.eq_of_beq_eq_true hsz
    rcases cond_some hl with ⟨hb, hl⟩ | ⟨_, hl⟩
    · cases hv with
      | sub _ _ _ _ _ ad a' nn cap cap' hΦ hle hcap hcn hcc h0 hn =>
        refine ⟨_, a', n0, cap', hl, rfl, hcn, hb, fun mc hmc => ?_⟩
        obtain ⟨q1, q2, q3, q4⟩ := range hcn hb hmc
        rw [lenN_eq]
        refine .sub r0 p _ _ e0 ad _ _ cap _ hΦ (by omega) hcap (by omega) (by omega) (fun e1 => ?_) (fun hne => ?_)
        · have e2 : lo0 = 0 := by omega
          have e3 : loN l = 0 := by omega
          rw [e3, Nat.zero_mul, add_zero_addr, h0 e2]; split <;> rfl
        · obtain ⟨b, off, hb1, hb2⟩ := hn (by omega)
          refine ⟨b, off, hb1, ?_⟩
          rw [if_neg (by omega), hb2, Option.map_some, addr_add, Nat.add_mul, hsz, Nat.add_assoc]
    · cases hl
  · split at hl
    · cases hl
    · rename_i t f e xs _
      have hsz := Nat.eq_of_beq_eq_true hsz
      rcases cond_some hl with ⟨hb, hl⟩ | ⟨_, hl⟩
      · cases hv with
        | k _ _ hv =>
          have hval : ∃ ad n cap, v = .slice ad n cap := by
            cases hv with
            | nil => exact ⟨_, _, _, rfl⟩
            | sl => exact ⟨_, _, _, rfl⟩
            | box _ _ _ hb' => simp [T.shBox?] at hb'
          obtain ⟨ad, n, cap, rfl⟩ := hval
          have hn0 := shared_cut hv hb (mxN m cap) (by
            cases m with
            | none => exact .inl ⟨rfl, rfl⟩
            | some m =>
              obtain ⟨p1, p2, p3, p4, p5, p6⟩ := okB_spec hb
              refine .inr ?_
              have := p3 m rfl
              simp only [Option.some.injEq, mxN]; omega)
          obtain ⟨rfl, hcap, _⟩ := hn0
          refine ⟨_, ad, _, cap, hl, rfl, hcap, hb, fun mc hmc => .k _ _ ?_⟩
          rw [← hsz]
          exact (shared_cut hv hb mc hmc).2.2
      · cases hl
    · cases hl
  · rcases cond_some hl with ⟨hb, hl⟩ | ⟨_, hl⟩
    · cases hv with
      | nil ad =>
        refine ⟨_, ad, 0, 0, hl, rfl, Nat.le_refl _, hb, fun mc hmc => ?_⟩
        obtain ⟨q1, q2, q3, q4⟩ := range (Nat.le_refl 0) hb hmc
        have e1 : hiN hh 0 = 0 := by omega
        have e2 : mc = 0 := by omega
        subst e2
        rw [e1]
        simp only [Nat.zero_sub]
        exact .nil _
    · cases hl
  · exact absurd rfl (hra _ _)
  · cases hl

theorem isZero_spec {o : Option Operand} (h : isZero o = true) : o = some (.const (.int .i64 0)) := by
  unfold isZero at h
  split at h
  · rfl
  · cases h

theorem slice_sound (hG : Fit B c) (h : RelW B s x a w) {t : TypeId} {d : D} {v : Value} {lo hi mx : Option Operand} (hv : RepD w s d v) {K : D → Option α} {r : α} (he : sliceK c x t d lo hi mx K = some r) :
    ∃ e u, K e = some r ∧ (∀ w', (Instr.sliceAt t v (lo.map a.eval) (hi.map a.eval) (mx.map a.eval)).run c.P w' = .ok u w') ∧ RepD w s e u := by
  unfold sliceK at he
  obtain ⟨i, e1, he⟩ := Option.bind_eq_some_iff.mp he
  obtain ⟨l, el, he⟩ := Option.bind_eq_some_iff.mp he
  obtain ⟨hh, eh, he⟩ := Option.bind_eq_some_iff.mp he
  obtain ⟨m, em, he⟩ := Option.bind_eq_some_iff.mp he
  have hl := boundO_sound hG h el
  have hhi := boundO_sound hG h eh
  have hm := boundO_sound hG h em
  have hok := c.hTy t i e1
  split at he
  · rename_i el0 hel
    have hu := hok.slice hel
    obtain ⟨ei, e2, he⟩ := Option.bind_eq_some_iff.mp he
    have hoke := c.hTy _ ei e2
    split at he
    · rename_i y
      cases hv with
      | v _ _ hv => cases hv with
        | c _ _ hv =>
          split at he
          · rename_i hsz
            have hmxN : ∀ {n cap : Nat}, okB l hh m n = true → ((m = none ∧ mxN m cap = cap) ∨ m = some ((mxN m cap : Nat) : Int)) := by
              intro n cap hb
              cases m with
              | none => exact .inl ⟨rfl, rfl⟩
              | some m =>
                obtain ⟨p1, p2, p3, p4, p5, p6⟩ := okB_spec hb
                have := p3 m rfl
                refine .inr ?_
                simp only [Option.some.injEq, mxN]; omega
            cases hz : isZero mx with
            | true =>
              rw [hz] at he
              have hz := isZero_spec hz
              obtain ⟨n, ad, cap, hK, rfl, hcap⟩ := lenC_sound h hv he
              rcases cond_some hK with ⟨hb, hK⟩ | ⟨_, hK⟩
              · have hm0 : m = some 0 := by
                  rcases hm with ⟨h1, _⟩ | ⟨o', n', h1, h3, h2⟩
                  · rw [hz] at h1; cases h1
                  · rw [hz, Option.some.injEq] at h1
                    subst h1
                    simp only [Act.eval, Value.int.injEq, true_and] at h2
                    rw [h3, h2]
                have hb' : okB l hh m n = true := by rw [hm0]; exact hb
                have hrun := fun w1 => bounds_run (w1 := w1) (P := c.P) (isS := true) hl hhi hm hb' hcap
                obtain ⟨p1, p2, p3, p4, p5, p6⟩ := okB_spec hb
                have h6 := p6 0 rfl
                have e1 : hiN hh n = 0 := by simp at h6; omega
                have e2 : loN l = 0 := by omega
                have e3 : mxN m cap = 0 := by rw [hm0]; rfl
                refine ⟨_, .slice (if mxN m cap = loN l then ad else ad.map (·.add (loN l * ei.size))) (hiN hh n - loN l) (mxN m cap - loN l), hK, ?_, .v _ _ (.c _ _ ?_)⟩
                · intro w'
                  simp only [Instr.sliceAt, Instr.slice, Sem.run_bind, run_underlying hu, Result.andThen_ok, hrun, hoke.run_sizeOf, Sem.run_pure]
                · rw [e1, e2, e3]; exact .nil _
              · cases hK
            | false =>
              rw [hz] at he
              simp only at he
              split at he
              · cases he
              · rename_i hra
                obtain ⟨q, ad, n, cap, hK, rfl, hcap, hb, hq⟩ := cut_sound h hv hsz (fun e xs e' => hra e xs e') he
                have hrun := fun w1 => bounds_run (w1 := w1) (P := c.P) (isS := true) hl hhi hm hb hcap
                refine ⟨_, _, hK, ?_, .v _ _ (.c _ _ (hq (mxN m cap) (hmxN hb)))⟩
                intro w'
                simp only [Instr.sliceAt, Instr.slice, Sem.run_bind, run_underlying hu, Result.andThen_ok, hrun, hoke.run_sizeOf, Sem.run_pure]
          · cases he
    · cases he
  · rename_i hs
    have hu := hok.string hs
    obtain ⟨v0, hv0, he⟩ := Option.bind_eq_some_iff.mp he
    split at he
    · rename_i st
      obtain ⟨rfl, -⟩ := D.val_sound hv hv0
      split at he
      · rcases cond_some he with ⟨hb, he⟩ | ⟨_, he⟩
        · have hmx : mx = none := by
            rcases hm with ⟨h1, _⟩ | ⟨o', n', h1, h2, _⟩
            · exact h1
            · cases h2
          have hrun := fun w1 => bounds_run (w1 := w1) (P := c.P) (isS := false) (cap := st.data.toList.length) hl hhi hm hb (Nat.le_refl _)
          refine ⟨_, .string (st.extract (loN l) (hiN hh st.data.toList.length)), he, ?_, ?_⟩
          · intro w'
            have hsz : st.size = st.data.toList.length := rfl
            rw [hmx] at hrun ⊢
            simp only [Option.map_none] at hrun ⊢
            simp only [Instr.sliceAt, Instr.slice, Sem.run_bind, run_underlying hu, Result.andThen_ok, hsz, hrun, Sem.run_pure, Option.isSome_none, Sem.run_ite, Bool.false_eq_true, if_false]
          · have : (⟨⟨cutL st.data.toList l hh⟩⟩ : ByteArray) = st.extract (loN l) (hiN hh st.data.toList.length) := by
              rw [cutL_eq hb, List.drop_take]
              exact (ByteArray.extract_mk st.data.toList _ _).symm
            rw [this]
            exact scal_rep _ rfl
        · cases he
      · cases he
    · cases he
  · cases he

end ops
end Go.V
