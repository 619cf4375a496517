/- Types; operations on numbers, texts and truth values. -/
import Derived.Test.YtmcaghldcabnnaaRvFour
import Derived.Laws.StructEq
import Derived.Laws.Cells
import Derived.Laws.CopyRow
namespace Go.V
open Go.RowKit

/-! ### types -/
inductive TyI where
  | int (k : IntKind)
  | bool
  | str
  | sl (e : TypeId)
  | st (fs : List (Nat × TypeId))
  | ptr
  | arr (n : Nat) (e : TypeId)
  | fn
  | iface
  | tup
  | other

/-- Of the last two nothing is asked: what a slice's elements are taken for, and this type's data. -/
structure TyInfo where
  d : TyI
  size : Nat
  bytes : Nat
  zero : List Value
  eq : Bool
  zel : List (Option Ty)
  zfr : List (Option Ty)
  ty : Ty

def descI : TypeDesc → TyI
  | .int k => .int k
  | .bool => .bool
  | .string => .str
  | .slice e => .sl e
  | .struct fs => .st (fs.toList.map fun f => (f.offset, f.type))
  | .pointer _ => .ptr
  | .array n e => .arr n e
  | .func _ _ _ => .fn
  | .interface _ => .iface
  | .tuple _ => .tup
  | _ => .other

/-- What the table says of a type is so. -/
structure TyOk1 (P : Program) (t : TypeId) (i : TyInfo) : Prop where
  info : (P.info? t).map (fun j => (j.size, j.bytes, j.zero.map (·.cells.toList))) = some (i.size, i.bytes, some i.zero)
  under : (P.underlying t).map descI = some i.d
  eqok : i.eq = true → P.stoodInHeld t = false ∧ P.eqGuardType P.depth t = false ∧ ((P.fieldsOf t).toList.all fun f => f.name != "_") = true

def TyOk (P : Program) (Ty : List (Nat × TyInfo)) : Prop := ∀ t i, look Ty t = some i → TyOk1 P t i

section types
variable {P : Program} {t : TypeId} {i : TyInfo}
theorem TyOk1.get (h : TyOk1 P t i) : ∃ j z, P.info? t = some j ∧ j.size = i.size ∧ j.bytes = i.bytes ∧ j.zero = some z ∧ z.cells.toList = i.zero := by
  have h1 := h.info
  cases e : P.info? t with
  | none => simp [e] at h1
  | some j =>
    simp only [e, Option.map_some, Option.some.injEq, Prod.mk.injEq] at h1
    obtain ⟨a1, a2, a3⟩ := h1
    cases ez : j.zero with
    | none => simp [ez] at a3
    | some z => simp only [ez, Option.map_some, Option.some.injEq] at a3; exact ⟨j, z, rfl, a1, a2, ez, a3⟩

theorem TyOk1.desc (h : TyOk1 P t i) : ∃ d, P.underlying t = some d ∧ descI d = i.d := by
  have h1 := h.under
  cases e : P.underlying t with
  | none => simp [e] at h1
  | some d => simp only [e, Option.map_some, Option.some.injEq] at h1; exact ⟨d, rfl, h1⟩

theorem TyOk1.slice (h : TyOk1 P t i) {e : TypeId} (hd : i.d = .sl e) : P.underlying t = some (.slice e) := by
  obtain ⟨d, h1, h2⟩ := h.desc
  rw [hd] at h2
  cases d <;> simp [descI] at h2
  subst h2; exact h1

theorem TyOk1.struct (h : TyOk1 P t i) {fs : List (Nat × TypeId)} (hd : i.d = .st fs) : ∃ fields, P.underlying t = some (.struct fields) ∧ fields.toList.map (fun f => (f.offset, f.type)) = fs := by
  obtain ⟨d, h1, h2⟩ := h.desc
  rw [hd] at h2
  cases d <;> simp [descI] at h2
  exact ⟨_, h1, by simpa using h2⟩

theorem TyOk1.array (h : TyOk1 P t i) {n : Nat} {e : TypeId} (hd : i.d = .arr n e) : P.underlying t = some (.array n e) := by
  obtain ⟨d, h1, h2⟩ := h.desc
  rw [hd] at h2
  cases d <;> simp [descI] at h2
  obtain ⟨rfl, rfl⟩ := h2; exact h1

theorem TyOk1.string (h : TyOk1 P t i) (hd : i.d = .str) : P.underlying t = some .string := by
  obtain ⟨d, h1, h2⟩ := h.desc
  rw [hd] at h2
  cases d <;> simp [descI] at h2
  exact h1

theorem TyOk1.bool (h : TyOk1 P t i) (hd : i.d = .bool) : P.underlying t = some .bool := by
  obtain ⟨d, h1, h2⟩ := h.desc
  rw [hd] at h2
  cases d <;> simp [descI] at h2
  exact h1

theorem TyOk1.int (h : TyOk1 P t i) {k : IntKind} (hd : i.d = .int k) : P.underlying t = some (.int k) := by
  obtain ⟨d, h1, h2⟩ := h.desc
  rw [hd] at h2
  cases d <;> simp [descI] at h2
  subst h2; exact h1

theorem TyOk1.run_sizeOf (h : TyOk1 P t i) (w : World) : (sizeOf t).run P w = .ok i.size w := by
  obtain ⟨j, z, h1, h2, _⟩ := h.get
  simp [sizeOf, typeInfo, h1, h2]

theorem TyOk1.run_typeInfo (h : TyOk1 P t i) (w : World) : ∃ j, (typeInfo t).run P w = .ok j w ∧ j.size = i.size ∧ j.bytes = i.bytes := by
  obtain ⟨j, z, h1, h2, h3, _⟩ := h.get
  exact ⟨j, by simp [typeInfo, h1], h2, h3⟩

theorem TyOk1.run_zeroValue (h : TyOk1 P t i) (w : World) : ∃ z, (zeroValue t).run P w = .ok z w ∧ z.cells.toList = i.zero := by
  obtain ⟨j, z, h1, _, _, h4, h5⟩ := h.get
  exact ⟨z, by simp [zeroValue, typeInfo, h1, h4], h5⟩

def TyI.isAgg : TyI → Bool
  | .st _ | .arr _ _ => true
  | _ => false

theorem TyOk1.run_isAgg (h : TyOk1 P t i) (w : World) : (isAgg t).run P w = .ok i.d.isAgg w := by
  obtain ⟨d, h1, h2⟩ := h.desc
  rw [← h2]
  simp only [isAgg, Sem.run_bind, run_underlying h1, Result.andThen_ok]
  cases d <;> rfl
end types

/-! ### numbers, texts, truth values -/
theorem toList_inj (a b : ByteArray) : (a.toList == b.toList) = decide (a.data.toList = b.data.toList) := by
  rw [ByteArray.toList_eq, ByteArray.toList_eq]
  by_cases h : a.data.toList = b.data.toList
  · rw [h]; simp
  · have : ¬ a.data = b.data := fun e => h (by rw [e])
    simp [h, this]

theorem append_data (a b : ByteArray) : a ++ b = ⟨⟨a.data.toList ++ b.data.toList⟩⟩ := by
  have : (a ++ b).data = a.data ++ b.data := ByteArray.data_append
  obtain ⟨x⟩ := a
  obtain ⟨y⟩ := b
  show _ = _
  cases h : (ByteArray.mk x ++ ByteArray.mk y) with
  | mk z =>
    rw [h] at this
    simp only at this
    subst this
    congr 1
    simp

variable {α : Type}

def intB (op : BinOp) (k : IntKind) (a b : Int) (K : Value → Option α) : Option α := match op with
  | .add => K (.int k (k.wrap (a + b)))
  | .sub => K (.int k (k.wrap (a - b)))
  | .mul => K (.int k (k.wrap (a * b)))
  | .quo => cond (decide (b = 0)) none (K (.int k (k.wrap (a.tdiv b))))
  | .rem => cond (decide (b = 0)) none (K (.int k (a.tmod b)))
  | .and => K (.int k (bits .and k a b))
  | .or => K (.int k (bits .or k a b))
  | .xor => K (.int k (bits .xor k a b))
  | .andNot => none
  | .shl => cond (decide (b < 0)) none (K (.int k (k.wrap (a * 2 ^ (min b.toNat k.bits)))))
  | .shr => cond (decide (b < 0)) none (K (.int k (a.fdiv (2 ^ (min b.toNat k.bits)))))
  | .eql => K (.bool (decide (a = b)))
  | .neq => K (.bool (!decide (a = b)))
  | .lss => K (.bool (decide (a < b)))
  | .leq => K (.bool (decide (a ≤ b)))
  | .gtr => K (.bool (decide (b < a)))
  | .geq => K (.bool (decide (b ≤ a)))

def strB (op : BinOp) (a b : List UInt8) (K : Value → Option α) : Option α := match op with
  | .add => cond (decide (a.length + b.length ≤ 9223372036854775807)) (K (.string ⟨⟨a ++ b⟩⟩)) none
  | .eql => K (.bool (decide (a = b)))
  | .neq => K (.bool (!decide (a = b)))
  | _ => none

def isShift : BinOp → Bool
  | .shl | .shr => true
  | _ => false

def scalB (op : BinOp) (x y : Value) (K : Value → Option α) : Option α :=
  match x with
  | .int k a => match y with
    | .int k' b => match (match isShift op with | true => true | false => kindEq k k') with
      | true => intB op k a b K
      | false => none
    | _ => none
  | .string a => match y with
    | .string b => strB op a.data.toList b.data.toList K
    | _ => none
  | _ => none

theorem cond_some {b : Bool} {x y : Option α} {r : α} (h : cond b x y = some r) : (b = true ∧ x = some r) ∨ (b = false ∧ y = some r) := by
  cases b
  · exact .inr ⟨rfl, h⟩
  · exact .inl ⟨rfl, h⟩

theorem eqGuard_scal {P : Program} {w : World} {op : BinOp} {t : TypeId} {x y : Operand} {a b : Value} (h : ∀ cs, a ≠ .agg cs) (h2 : a ≠ .nilIface) :
    (eqGuard op t x y a b).run P w = .ok () w := by
  unfold eqGuard
  cases op <;> first
    | rfl
    | (cases a <;> first
        | exact absurd rfl h2
        | exact absurd rfl (h _)
        | (simp only; rfl))

theorem scalB_sound {op : BinOp} {a b : Value} {K : Value → Option α} {r : α} (h : scalB op a b K = some r) :
    ∃ v, K v = some r ∧ v.oneCell' = true ∧ ∀ (P : Program) (w : World) (t : TypeId), (binOp op t a b).run P w = .ok v w := by
  unfold scalB at h
  split at h
  · split at h
    · rename_i k a _ k' b
      split at h
      · rename_i hk
        cases op with
        | shl =>
          simp only [intB] at h
          rcases cond_some h with ⟨_, h⟩ | ⟨h1, h⟩
          · cases h
          · have h1 : ¬ b < 0 := by simpa using h1
            exact ⟨_, h, rfl, fun P w t => by simp only [binOp, Op.shift, Sem.run_ite, if_neg h1, Sem.run_pure]⟩
        | shr =>
          simp only [intB] at h
          rcases cond_some h with ⟨_, h⟩ | ⟨h1, h⟩
          · cases h
          · have h1 : ¬ b < 0 := by simpa using h1
            exact ⟨_, h, rfl, fun P w t => by simp only [binOp, Op.shift, Sem.run_ite, if_neg h1, Sem.run_pure]⟩
        | quo =>
          have := kindEq_eq hk; subst this
          simp only [intB] at h
          rcases cond_some h with ⟨_, h⟩ | ⟨h1, h⟩
          · cases h
          · have h1 : ¬ b = 0 := by simpa using h1
            exact ⟨_, h, rfl, fun P w t => by simp [binOp, Op.intDiv, h1]⟩
        | rem =>
          have := kindEq_eq hk; subst this
          simp only [intB] at h
          rcases cond_some h with ⟨_, h⟩ | ⟨h1, h⟩
          · cases h
          · have h1 : ¬ b = 0 := by simpa using h1
            exact ⟨_, h, rfl, fun P w t => by simp [binOp, Op.intDiv, h1]⟩
        | andNot => cases h
        | neq =>
          have := kindEq_eq hk; subst this
          refine ⟨_, h, rfl, fun P w t => ?_⟩
          simp [binOp, Op.intCmp, bne]
          rfl
        | _ =>
          have := kindEq_eq hk; subst this
          exact ⟨_, h, rfl, fun P w t => by simp [binOp, Op.intCmp, Op.intArith]; try rfl⟩
      · cases h
    · cases h
  · split at h
    · rename_i a _ b
      cases op with
      | add =>
        rcases cond_some h with ⟨h1, h⟩ | ⟨_, h⟩
        · have h1 : a.data.toList.length + b.data.toList.length ≤ 9223372036854775807 := by simpa using h1
          refine ⟨_, h, rfl, fun P w t => ?_⟩
          have : ¬ (((a.size + b.size : Nat) : Int) > IntKind.i64.max) := by
            have e : IntKind.i64.max = 9223372036854775807 := by decide
            have e1 : a.size = a.data.toList.length := rfl
            have e2 : b.size = b.data.toList.length := rfl
            rw [e, e1, e2]; omega
          simp only [binOp, Op.stringOp, Sem.run_ite, if_neg this, Sem.run_pure, append_data]
        · cases h
      | eql => exact ⟨_, h, rfl, fun P w t => by show Result.ok (Value.bool (a.toList == b.toList)) w = _; rw [toList_inj]⟩
      | neq => exact ⟨_, h, rfl, fun P w t => by show Result.ok (Value.bool (!(a.toList == b.toList))) w = _; rw [toList_inj]⟩
      | _ => cases h
    · cases h
  · cases h

def scalU (op : UnOp) (x : Value) (K : Value → Option α) : Option α := match op with
  | .neg => match x with
    | .int k a => K (.int k (k.wrap (0 - a)))
    | _ => none
  | .not => match x with
    | .bool b => K (.bool (!b))
    | _ => none
  | _ => none

theorem scalU_sound {op : UnOp} {a : Value} {K : Value → Option α} {r : α} (h : scalU op a K = some r) :
    ∃ v, K v = some r ∧ v.oneCell' = true ∧ ∀ (P : Program) (w : World), (Op.unary op a).run P w = .ok v w := by
  unfold scalU at h
  split at h
  · split at h
    · exact ⟨_, h, rfl, fun P w => rfl⟩
    · cases h
  · split at h
    · exact ⟨_, h, rfl, fun P w => rfl⟩
    · cases h
  · cases h

end Go.V
