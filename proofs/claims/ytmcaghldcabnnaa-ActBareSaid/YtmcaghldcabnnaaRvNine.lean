/- Comparisons, conversions, structs built; the operations that only look, together. -/
import Derived.Test.YtmcaghldcabnnaaRvEight
namespace Go.V
open Go.RowKit

variable {α : Type}

def okCell (c : C) : Bool := match c with
  | .k .dead => false
  | .k (.vr _) => false
  | _ => true

def eqV (d : TyI) (y z : C) : Option Bool := match d with
  | .int _ => match y with
    | .k (.v (.int k a)) => match z with
      | .k (.v (.int k' b)) => match kindEq k k' with
        | true => some (decide (a = b))
        | false => none
      | _ => none
    | _ => none
  | .bool => match y with
    | .k (.v (.bool a)) => match z with
      | .k (.v (.bool b)) => some (decide (a = b))
      | _ => none
    | _ => none
  | .str => match y with
    | .k (.v (.string a)) => match z with
      | .k (.v (.string b)) => some (decide (a.data.toList = b.data.toList))
      | _ => none
    | _ => none
  | _ => none

def isScalTy : TyI → Bool
  | .int _ | .bool | .str => true
  | _ => false

def eqFs (Ty : List (Nat × TyInfo)) (rec : TypeId → List C → List C → Option Bool) : List (Nat × TypeId) → List C → List C → Option Bool
  | [], _, _ => some true
  | ft :: fs, xs, ys => (look Ty ft.2).bind fun fi => (match isScalTy fi.d with
      | true => (nth xs ft.1).bind fun a => (nth ys ft.1).bind fun b => eqV fi.d a b
      | false => match fi.d with
        | .st _ => (part ft.1 fi.size xs).bind fun l => (part ft.1 fi.size ys).bind fun m => rec ft.2 l m
        | _ => none).bind fun r => (eqFs Ty rec fs xs ys).map fun s => and r s

def eqT (Ty : List (Nat × TyInfo)) : Nat → TypeId → List C → List C → Option Bool
  | 0, _, _, _ => none
  | n + 1, t, xs, ys => (look Ty t).bind fun i => match i.eq with
    | true => match i.d with
      | .st fs => eqFs Ty (eqT Ty n) fs xs ys
      | _ => none
    | false => none

def binS (c : Ctx) (op : BinOp) (t : TypeId) (a b : Value) (K : D → Option α) : Option α := match a with
  | .bool a => match b with
    | .bool b => (look c.Ty t).bind fun i => match i.d with
      | .bool => match op with
        | .eql => K (scal (.bool (decide (a = b))))
        | .neq => K (scal (.bool (!decide (a = b))))
        | _ => none
      | _ => none
    | _ => none
  | .nilIface => none
  | a => scalB op a b fun v => K (scal v)

def binA (c : Ctx) (op : BinOp) (t : TypeId) (xs ys : List C) (K : D → Option α) : Option α := match op with
  | .eql => (eqT c.Ty 100 t xs ys).bind fun b => K (scal (.bool b))
  | .neq => (eqT c.Ty 100 t xs ys).bind fun b => K (scal (.bool (!b)))
  | _ => none

def binK (c : Ctx) (op : BinOp) (t : TypeId) (p q : D) (K : D → Option α) : Option α := match p with
  | .v (.ag xs) => match q with
    | .v (.ag ys) => binA c op t xs ys K
    | _ => none
  | p => (p.val).bind fun a => (q.val).bind fun b => binS c op t a b K

def convK (c : Ctx) (s t : TypeId) (p : D) (K : D → Option α) : Option α :=
  (look c.Ty s).bind fun j => (look c.Ty t).bind fun i => (p.val).bind fun v => match v with
    | .int _ n => match j.d with
      | .int _ => match i.d with
        | .int k => K (scal (.int k (k.wrap n)))
        | _ => none
      | _ => none
    | .string s => match j.d with
      | .str => match i.d with
        | .str => K (scal (.string s))
        | _ => none
      | _ => none
    | _ => none

def minMax (isMax : Bool) (p q : D) : Option D := (p.val).bind fun a => (q.val).bind fun b => match a with
  | .int k a => match b with
    | .int _ b => some (scal (.int k (match isMax with
      | true => max a b
      | false => min a b)))
    | _ => none
  | _ => none

def nilD (d : D) : Option D := match d with
  | .v (.c y) => match y with
    | .pt _ _ _ _ _ => some d
    | .rq _ _ _ => some d
    | .k t => (t.shBox?).map fun _ => d
    | _ => none
  | _ => none

def setFrom {α : Type} (cs : List α) (off : Nat) : List α → List α
  | [] => cs
  | y :: ys => setFrom (cs.set off y) (off + 1) ys

theorem setFrom_get {α : Type} : ∀ (l cs : List α) (off i : Nat), (setFrom cs off l)[i]? = if off ≤ i ∧ i < off + l.length ∧ i < cs.length then l[i - off]? else cs[i]?
  | [], cs, off, i => by simp only [setFrom, List.length_nil, Nat.add_zero]; rw [if_neg (by omega)]
  | y :: ys, cs, off, i => by
    simp only [setFrom]
    rw [setFrom_get ys (cs.set off y) (off + 1) i]
    simp only [List.length_set, List.length_cons, List.getElem?_set]
    by_cases h : off = i
    · subst h
      rw [if_neg (by omega)]
      by_cases hl : off < cs.length
      · rw [if_pos rfl, if_pos hl, if_pos (by omega)]; simp
      · rw [if_pos rfl, if_neg hl, if_neg (by omega)]; rw [List.getElem?_eq_none (by omega)]
    · rw [if_neg h]
      by_cases h2 : off + 1 ≤ i ∧ i < off + 1 + ys.length ∧ i < cs.length
      · rw [if_pos h2, if_pos (by omega)]
        have : i - off = (i - (off + 1)) + 1 := by omega
        rw [this, List.getElem?_cons_succ]
      · rw [if_neg h2]
        by_cases h3 : off ≤ i ∧ i < off + (ys.length + 1) ∧ i < cs.length
        · omega
        · rw [if_neg h3]

theorem setFrom_length {α : Type} : ∀ (l cs : List α) (off : Nat), (setFrom cs off l).length = cs.length
  | [], cs, off => rfl
  | y :: ys, cs, off => by simp [setFrom, setFrom_length ys]

theorem foldl_set (off : Nat) : ∀ (l : List Value) (n : Nat) (cells : Array Value),
    (((l.zipIdx n).foldl (fun (cs : Array Value) (p : Value × Nat) => cs.setIfInBounds (off + p.2) p.1) cells).toList) = setFrom cells.toList (off + n) l
  | [], n, cells => by simp [setFrom]
  | v :: l, n, cells => by
    simp only [List.zipIdx_cons, List.foldl_cons, setFrom]
    rw [foldl_set off l (n + 1)]
    simp [Nat.add_assoc]

theorem fill_step {place : Nat → Option (Nat × Nat)} {cells : Array Value} {i : Nat} {v : Value} {rest : List (Nat × Value)} {off size : Nat} (hp : place i = some (off, size))
    (h1 : v.cells.size = size) (h2 : off + v.cells.size ≤ cells.size) :
    ∃ cells', cells'.toList = setFrom cells.toList off v.cells.toList ∧ Instr.fill place cells ((i, v) :: rest) = Instr.fill place cells' rest := by
  refine ⟨v.cells.zipIdx.foldl (fun cs (c, j) => cs.setIfInBounds (off + j) c) cells, ?_, ?_⟩
  · have := foldl_set off v.cells.toList 0 cells
    rw [Nat.add_zero] at this
    rw [← this, ← Array.foldl_toList]
    congr 1
    simp [Array.toList_zipIdx]
  · have c1 : (v.cells.size ≠ size || decide (off + v.cells.size > cells.size)) = false := by simp [h1]; omega
    simp only [Instr.fill, hp]
    split
    · rename_i hc
      simp at hc
      rcases hc with hc | hc
      · exact absurd h1 hc
      · omega
    · rfl


def D.cells : D → List C
  | .v (.c y) => [y]
  | .v (.ag cs) => cs
  | _ => []

def zC (v : Value) (e : Option Ty) : C := match e with
  | some _ => .nil
  | none => .k (.v v)

def zCs : List Value → List (Option Ty) → List C
  | v :: vs, z :: zs => zC v z :: zCs vs zs
  | _, _ => []

/-- What is said of a type's first value: where a slice is meant it is nil. -/
def zeroOk : List Value → List (Option Ty) → Bool
  | [], [] => true
  | v :: vs, z :: zs => match and (v.oneCell') (match z with | some _ => isNilS v | none => true) with
    | true => zeroOk vs zs
    | false => false
  | _, _ => false

def allB {β : Type} (g : β → Bool) : List β → Bool
  | [] => true
  | b :: l => match g b with
    | true => allB g l
    | false => false

theorem allB_iff {β : Type} (g : β → Bool) (l : List β) : allB g l = true ↔ ∀ b ∈ l, g b = true := by
  induction l with
  | nil => simp [allB]
  | cons b l ih => simp only [allB]; cases h : g b <;> simp [h, ih]

def buildC (c : Ctx) (x : X) (fs : List (Nat × TypeId)) (cs : List C) : List (Nat × Operand) → Option (List C)
  | [] => some cs
  | p :: rest => (nth fs p.1).bind fun ft => (look c.Ty ft.2).bind fun fi => (evalD c x p.2).bind fun d =>
    match and (Nat.beq d.cells.length fi.size) (and (Nat.ble 1 fi.size) (and (allB okCell d.cells) (Nat.ble (ft.1 + fi.size) cs.length))) with
    | true => buildC c x fs (setFrom cs ft.1 d.cells) rest
    | false => none

def isSomeB {β : Type} (o : Option β) : Bool := match o with | some _ => true | none => false

def buildD (c : Ctx) (x : X) (t : TypeId) (parts : Array (Nat × Operand)) : Option D :=
  (look c.Ty t).bind fun i => match i.d with
    | .st fs => match and (zeroOk i.zero i.zel) (allB (fun ft : Nat × TypeId => isSomeB (look c.Ty ft.2)) fs) with
      | true => (buildC c x fs (zCs i.zero i.zel) parts.toList).map fun cs => .v (.ag cs)
      | false => none
    | _ => none

section eqs
variable {c : Ctx} {s : Sit} {w : World}

def AllC (w : World) (s : Sit) (xs : List C) (arr : Array Value) : Prop := arr.size = xs.length ∧ ∀ (j : Nat) y, xs[j]? = some y → ∃ v, arr[j]? = some v ∧ RepC w s y v

theorem AllC.part {xs : List C} {arr : Array Value} (h : AllC w s xs arr) {off n : Nat} {l : List C} (he : part off n xs = some l) : AllC w s l (arr.extract off (off + n)) := by
  obtain ⟨hlen, hg⟩ := part_some he
  obtain ⟨h2, h3⟩ := takeN_some he
  rw [dropN_eq] at h3
  simp only [List.length_drop] at h3
  refine ⟨by simp only [Array.size_extract, h.1, hlen]; by_cases hz : n = 0 <;> omega, fun j y hj => ?_⟩
  obtain ⟨hlt, hy⟩ := hg j y hj
  obtain ⟨u, h1, h2⟩ := h.2 _ _ hy
  refine ⟨u, ?_, h2⟩
  have hb := (Array.getElem?_eq_some_iff.mp h1).1
  rw [Array.getElem?_extract, if_pos (by omega)]
  exact h1

theorem RepC.scal {v u : Value} (h : RepC w s (.k (.v v)) u) : u = v := by
  cases h with
  | k _ _ h => cases h with
    | v => rfl
    | box _ _ _ hb => simp [T.shBox?] at hb

theorem eqV_sound {w1 : World} {y z : C} {u v : Value} {r : Bool} {ft : TypeId} {fi : TyInfo} (hok : TyOk1 c.P ft fi)
    (hy : RepC w s y u) (hz : RepC w s z v) (he : eqV fi.d y z = some r) (n : Nat) : (Op.equalIn (n + 1) ft u v).run c.P w1 = .ok r w1 := by
  unfold eqV at he
  split at he
  · rename_i k0 hd
    split at he
    · split at he
      · have e1 := hy.scal
        have e2 := hz.scal
        subst e1 e2
        split at he
        · rename_i hk
          simp only [Option.some.injEq] at he
          have := kindEq_eq hk
          subst this he
          exact run_equalIn_int w1 n ft _ k0 _ _ (hok.int hd)
        · cases he
      · cases he
    · cases he
  · rename_i hd
    split at he
    · rename_i a
      split at he
      · rename_i b
        have e1 := hy.scal
        have e2 := hz.scal
        subst e1 e2
        simp only [Option.some.injEq] at he
        subst he
        rw [run_equalIn_bool' w1 n ft a b (hok.bool hd)]
        cases a <;> cases b <;> rfl
      · cases he
    · cases he
  · rename_i hd
    split at he
    · rename_i a
      split at he
      · rename_i b
        have e1 := hy.scal
        have e2 := hz.scal
        subst e1 e2
        simp only [Option.some.injEq] at he
        subst he
        rw [run_equalIn_string w1 n ft a b (hok.string hd), toList_inj]
      · cases he
    · cases he
  · cases he

theorem eqFs_sound {w1 : World} {n d : Nat} (ih : ∀ (d : Nat) {t : TypeId} {xs ys : List C} {ax ay : Array Value} {r : Bool}, n < d → AllC w s xs ax → AllC w s ys ay → eqT c.Ty n t xs ys = some r →
    (Op.equalIn d t (.agg ax) (.agg ay)).run c.P w1 = .ok r w1) (hd : n < d) {xs ys : List C} {ax ay : Array Value} (hx : AllC w s xs ax) (hy : AllC w s ys ay) :
    ∀ (fl : List Field) {r : Bool}, (fl.all fun f => f.name != "_") = true → eqFs c.Ty (eqT c.Ty n) (fl.map fun f => (f.offset, f.type)) xs ys = some r →
    (Op.eqFields d ax ay fl).run c.P w1 = .ok r w1 := by
  intro fl
  induction fl with
  | nil => intro r _ he; simp only [List.map_nil, eqFs, Option.some.injEq] at he; subst he; rfl
  | cons f fl ih2 =>
    intro r hnames he
    simp only [List.map_cons, eqFs] at he
    simp only [List.all_cons, Bool.and_eq_true, bne_iff_ne] at hnames
    obtain ⟨fi, e3, he⟩ := Option.bind_eq_some_iff.mp he
    have hokf := c.hTy _ fi e3
    obtain ⟨r0, hr0, he⟩ := Option.bind_eq_some_iff.mp he
    obtain ⟨s0, e4, rfl⟩ := Option.map_eq_some_iff.mp he
    have hrest := ih2 hnames.2 e4
    have hstep : ∃ pa pb, (Go.part f.type ax f.offset).run c.P w1 = .ok pa w1 ∧ (Go.part f.type ay f.offset).run c.P w1 = .ok pb w1 ∧ (Op.equalIn d f.type pa pb).run c.P w1 = .ok r0 w1 := by
      split at hr0
      · rename_i hsc
        obtain ⟨p, e5, hr0⟩ := Option.bind_eq_some_iff.mp hr0
        obtain ⟨q, e6, hr0⟩ := Option.bind_eq_some_iff.mp hr0
        rw [nth_eq] at e5 e6
        obtain ⟨u, hu1, hu2⟩ := hx.2 _ _ e5
        obtain ⟨v, hv1, hv2⟩ := hy.2 _ _ e6
        have ha : fi.d.isAgg = false := by cases hfd : fi.d <;> rw [hfd] at hsc <;> first | rfl | cases hsc
        refine ⟨u, v, by simp only [Go.part, Sem.run_bind, hokf.run_isAgg, ha, Result.andThen_ok, Sem.run_ite, Bool.false_eq_true, if_false, hu1, Sem.run_pure],
          by simp only [Go.part, Sem.run_bind, hokf.run_isAgg, ha, Result.andThen_ok, Sem.run_ite, Bool.false_eq_true, if_false, hv1, Sem.run_pure], ?_⟩
        obtain ⟨d, rfl⟩ : ∃ d', d = d' + 1 := ⟨d - 1, by omega⟩
        exact eqV_sound hokf hu2 hv2 hr0 d
      · split at hr0
        · rename_i gs hgs
          obtain ⟨l, e5, hr0⟩ := Option.bind_eq_some_iff.mp hr0
          obtain ⟨m, e6, hr0⟩ := Option.bind_eq_some_iff.mp hr0
          have ha : fi.d.isAgg = true := by rw [hgs]; rfl
          exact ⟨_, _, by simp only [Go.part, Sem.run_bind, hokf.run_isAgg, ha, Result.andThen_ok, Sem.run_ite, if_true, hokf.run_sizeOf, Sem.run_pure],
            by simp only [Go.part, Sem.run_bind, hokf.run_isAgg, ha, Result.andThen_ok, Sem.run_ite, if_true, hokf.run_sizeOf, Sem.run_pure],
            ih d hd (hx.part e5) (hy.part e6) hr0⟩
        · cases hr0
    obtain ⟨pa, pb, h1, h2, h3⟩ := hstep
    simp only [Op.eqFields, Sem.run_ite, if_pos hnames.1, Sem.run_bind, h1, h2, h3, Result.andThen_ok]
    cases r0
    · simp
    · simp only [Bool.not_true, Bool.false_eq_true, if_false, Bool.true_and]; exact hrest

theorem eqT_sound {w1 : World} : ∀ (n d : Nat) {t : TypeId} {xs ys : List C} {ax ay : Array Value} {r : Bool}, n < d → AllC w s xs ax → AllC w s ys ay → eqT c.Ty n t xs ys = some r →
    (Op.equalIn d t (.agg ax) (.agg ay)).run c.P w1 = .ok r w1 := by
  intro n
  induction n with
  | zero => intro d t xs ys ax ay r _ _ _ he; simp [eqT] at he
  | succ n ih =>
    intro d t xs ys ax ay r hd hx hy he
    obtain ⟨d, rfl⟩ : ∃ d', d = d' + 1 := ⟨d - 1, by omega⟩
    simp only [eqT] at he
    obtain ⟨i, e1, he⟩ := Option.bind_eq_some_iff.mp he
    have hok := c.hTy t i e1
    split at he
    · rename_i heq
      split at he
      · rename_i fs hfs
        obtain ⟨hst, _, hnames⟩ := hok.eqok heq
        obtain ⟨fields, hu, hmap⟩ := hok.struct hfs
        have hfo : c.P.fieldsOf t = fields := by simp [Program.fieldsOf, hu]
        rw [run_equalIn_struct w1 d t ax ay (by rw [hfo]; exact hu) hst, hfo]
        rw [hfo] at hnames
        rw [← hmap] at he
        exact eqFs_sound ih (by omega) hx hy fields.toList hnames he
      · cases he
    · cases he

theorem eqT_eq {Ty : List (Nat × TyInfo)} {n : Nat} {t : TypeId} {xs ys : List C} {r : Bool} (h : eqT Ty n t xs ys = some r) : ∃ i, look Ty t = some i ∧ i.eq = true := by
  cases n with
  | zero => simp [eqT] at h
  | succ n =>
    simp only [eqT] at h
    obtain ⟨i, hi, h⟩ := Option.bind_eq_some_iff.mp h
    split at h
    · exact ⟨i, hi, by assumption⟩
    · cases h

theorem Lawful.scalB (op : BinOp) (u v : Value) : Lawful fun _ K => scalB op u v K := by
  intro α K
  simp only [Go.V.scalB]
  split
  · split
    · split
      · cases op <;> first | rfl | exact Lawful.cond _ .none (.pure _) α K
      · rfl
    · rfl
  · split
    · cases op <;> first | rfl | exact Lawful.cond _ (.pure _) .none α K
    · rfl
  · rfl

theorem Lawful.binS (c : Ctx) (op : BinOp) (t : TypeId) (p q : Value) : Lawful fun _ K => binS c op t p q K := by
  unfold Go.V.binS
  split
  · split
    · refine .bind _ fun i => ?_
      split
      · split
        · exact .pure _
        · exact .pure _
        · exact .none
      · exact .none
    · exact .none
  · exact .none
  · exact .comp (.scalB _ _ _) fun _ => .pure _

theorem Lawful.bin (c : Ctx) (op : BinOp) (t : TypeId) (p q : D) : Lawful fun _ K => binK c op t p q K := by
  unfold binK
  split
  · split
    · unfold binA
      split
      · exact .bind _ fun b => .pure _
      · exact .bind _ fun b => .pure _
      · exact .none
    · exact .none
  · exact .bind _ fun a => .bind _ fun b => .binS _ _ _ _ _

theorem Lawful.conv (c : Ctx) (s t : TypeId) (p : D) : Lawful fun _ K => convK c s t p K := by
  unfold convK
  refine .bind _ fun j => .bind _ fun i => .bind _ fun v => ?_
  split
  · split
    · split
      · exact .pure _
      · exact .none
    · exact .none
  · split
    · split
      · exact .pure _
      · exact .none
    · exact .none
  · exact .none

theorem binS_sound {op : BinOp} {t : TypeId} {p q : Operand} {u v : Value} {K : D → Option α} {r : α} (he : binS c op t u v K = some r) :
    ∃ e z, K e = some r ∧ (∀ w', (do eqGuard op t p q u v; binOp op t u v : Sem Value).run c.P w' = .ok z w') ∧ RepD w s e z := by
  unfold binS at he
  split at he
  · rename_i a
    split at he
    · rename_i b
      obtain ⟨i, hi, he⟩ := Option.bind_eq_some_iff.mp he
      have hok := c.hTy t i hi
      split at he
      · rename_i hd
        have e0 : ∀ w', (Op.equal t (.bool a) (.bool b)).run c.P w' = .ok (decide (a = b)) w' := by
          intro w'
          have := run_equalIn_bool' w' 9999 t a b (hok.bool hd)
          have e0 : (Op.equal t (.bool a) (.bool b)).run c.P w' = .ok (a == b) w' := this
          rw [e0]; cases a <;> cases b <;> rfl
        split at he
        · exact ⟨_, _, he, by intro w'; simp [eqGuard, binOp, e0], scal_rep _ rfl⟩
        · exact ⟨_, _, he, by intro w'; simp [eqGuard, binOp, e0], scal_rep _ rfl⟩
        · cases he
      · cases he
    · cases he
  · cases he
  · rename_i hb hni
    obtain ⟨z, hK, hone, hrun⟩ := scalB_sound he
    refine ⟨_, z, hK, ?_, scal_rep _ hone⟩
    intro w'
    have hagg : ∀ cs, u ≠ .agg cs := by
      intro cs e
      subst e
      simp [scalB] at he
    rw [Sem.run_bind, eqGuard_scal hagg (by intro e; exact hni e), Result.andThen_ok, hrun]

theorem bin_sound {op : BinOp} {t : TypeId} {p q : Operand} {d d' : D} {u v : Value} (h1 : RepD w s d u) (h2 : RepD w s d' v) {K : D → Option α} {r : α} (he : binK c op t d d' K = some r) :
    ∃ e z, K e = some r ∧ (∀ w', (do eqGuard op t p q u v; binOp op t u v : Sem Value).run c.P w' = .ok z w') ∧ RepD w s e z := by
  unfold binK at he
  split at he
  · rename_i xs
    split at he
    · rename_i ys
      cases h1 with
      | v _ _ h1 => cases h1 with
        | ag _ ax hs1 hc1 => cases h2 with
          | v _ _ h2 => cases h2 with
            | ag _ ay hs2 hc2 =>
              have key : ∀ r, eqT c.Ty 100 t xs ys = some r → (∀ w', (Op.equalIn Op.maxDepth t (.agg ax) (.agg ay)).run c.P w' = .ok r w') ∧ c.P.eqGuardType c.P.depth t = false := by
                intro r hr
                refine ⟨fun w' => eqT_sound 100 Op.maxDepth (by decide) ⟨hs1, hc1⟩ ⟨hs2, hc2⟩ hr, ?_⟩
                obtain ⟨i, hi, heq⟩ := eqT_eq hr
                exact ((c.hTy t i hi).eqok heq).2.1
              unfold binA at he
              split at he
              · obtain ⟨r, hr, he⟩ := Option.bind_eq_some_iff.mp he
                obtain ⟨k1, k2⟩ := key r hr
                exact ⟨_, .bool r, he, by intro w'; simp [eqGuard, k2, binOp, Op.equal, k1], scal_rep _ rfl⟩
              · obtain ⟨r, hr, he⟩ := Option.bind_eq_some_iff.mp he
                obtain ⟨k1, k2⟩ := key r hr
                exact ⟨_, .bool !r, he, by intro w'; simp [eqGuard, k2, binOp, Op.equal, k1], scal_rep _ rfl⟩
              · cases he
    · cases he
  · obtain ⟨a, e1, he1⟩ := Option.bind_eq_some_iff.mp he
    obtain ⟨b, e2, he2⟩ := Option.bind_eq_some_iff.mp he1
    obtain ⟨rfl, -⟩ := D.val_sound h1 e1
    obtain ⟨rfl, -⟩ := D.val_sound h2 e2
    exact binS_sound he2

theorem conv_sound {t1 t2 : TypeId} {d : D} {v : Value} (h : RepD w s d v) {K : D → Option α} {r : α} (he : convK c t1 t2 d K = some r) :
    ∃ e z, K e = some r ∧ (∀ w', (convert t1 t2 v).run c.P w' = .ok z w') ∧ RepD w s e z := by
  unfold convK at he
  obtain ⟨j, hj, he⟩ := Option.bind_eq_some_iff.mp he
  obtain ⟨i, hi, he⟩ := Option.bind_eq_some_iff.mp he
  obtain ⟨v0, e1, he⟩ := Option.bind_eq_some_iff.mp he
  obtain ⟨rfl, -⟩ := D.val_sound h e1
  have hokj := c.hTy t1 j hj
  have hoki := c.hTy t2 i hi
  split at he
  · split at he
    · rename_i hdj
      split at he
      · rename_i hdi
        have h1 := hokj.int hdj
        have h2 := hoki.int hdi
        exact ⟨_, _, he, by intro w'; simp [convert, run_underlying h1, run_underlying h2, Conv.intToInt], scal_rep _ rfl⟩
      · cases he
    · cases he
  · split at he
    · rename_i hdj
      split at he
      · rename_i hdi
        have h1 := hokj.string hdj
        have h2 := hoki.string hdi
        exact ⟨_, _, he, by intro w'; simp [convert, run_underlying h1, run_underlying h2], scal_rep _ rfl⟩
      · cases he
    · cases he
  · cases he

theorem minMax_sound {b : Bool} {d d' e : D} {u v : Value} {ats : Array TypeId} {ty : TypeId} (h1 : RepD w s d u) (h2 : RepD w s d' v) (he : minMax b d d' = some e) :
    ∃ z, (∀ w', ((if b then Builtin.max_ else Builtin.min_) ats ty #[u, v]).run c.P w' = .ok z w') ∧ RepD w s e z := by
  unfold minMax at he
  obtain ⟨a0, e1, he1⟩ := Option.bind_eq_some_iff.mp he
  obtain ⟨b0, e2, he2⟩ := Option.bind_eq_some_iff.mp he1
  obtain ⟨rfl, -⟩ := D.val_sound h1 e1
  obtain ⟨rfl, -⟩ := D.val_sound h2 e2
  clear he he1
  split at he2
  · rename_i k a
    split at he2
    · rename_i k' bb
      simp only [Option.some.injEq] at he2
      subst he2
      refine ⟨_, ?_, scal_rep _ rfl⟩
      intro w'
      cases b
      · have : (if bb < a then bb else a) = min a bb := by
          by_cases hlt : bb < a
          · rw [if_pos hlt]; omega
          · rw [if_neg hlt]; omega
        simp [Builtin.min_, Builtin.min2, this]
      · have : (if bb > a then bb else a) = max a bb := by
          by_cases hlt : bb > a
          · rw [if_pos hlt]; omega
          · rw [if_neg hlt]; omega
        simp [Builtin.max_, Builtin.max2, this]
    · cases he2
  · cases he2

theorem RepC.notAgg {y : C} {v : Value} (h : RepC w s y v) (hd : okCell y = true) (hsl : ∀ r p e, y = .own r p e → v.oneCell' = true) : v.oneCell' = true := by
  cases h with
  | k t v h =>
    cases h with
    | v x h1 => exact h1
    | dead => simp [okCell] at hd
    | _ => rfl
  | own r p e v h => exact hsl r p e rfl
  | ra e xs v h => cases h <;> rfl
  | fn a r g v h h1 => exact h1
  | _ => rfl

end eqs

section ops
variable {c : Ctx} {B : Base} {s : Sit} {x : X} {a : Act} {w : World}

theorem cells_of_one {v : Value} (h : v.oneCell' = true) : v.cells = #[v] := by
  cases v <;> first | rfl | simp [Value.oneCell'] at h

theorem lay_one {t : T} {v y : Value} {φ : Lay} (h : RepO w s.S t v φ) (hy : φ [] = some y) : y.oneCell' = true := by
  cases h with
  | sh => simp [noLay] at hy
  | nil e a φ h0 => rw [h0, Option.some.injEq] at hy; subst hy; rfl
  | sl e xs b off cap arr el vs φ hb hcap hsz hc hr h0 => rw [h0, Option.some.injEq] at hy; subst hy; rfl
  | slo e xs i cs b off cap arr el vs φ hb hcap hsz hc hr h0 => rw [h0, Option.some.injEq] at hy; subst hy; rfl
  | box t cs ht b arr el vs φ hb hsz hc hr h0 => rw [h0, Option.some.injEq] at hy; subst hy; rfl
  | vr cs x vs φ hr h0 => rw [h0] at hy; cases hy

theorem lay_oneAt {t : T} : ∀ {p : Path} {v y : Value} {φ : Lay}, RepO w s.S t v φ → φ p = some y → y.oneCell' = true
  | [], v, y, φ, h, hy => lay_one h hy
  | (i, j) :: p, v, y, φ, h, hy => by
    have hne : φ.at i j ≠ noLay := fun e => by have := congrFun e p; simp only [Lay.at, noLay] at this; rw [hy] at this; cases this
    cases h with
    | sh => exact absurd rfl hne
    | nil e a φ h0 hn => rw [hn] at hy; cases hy
    | sl e xs b off cap arr el vs φ hb hcap hsz hc hr h0 hn =>
      cases hu : cellOf (rows .own e xs) i j with
      | none => exact absurd (hn i j hu) hne
      | some u => exact lay_oneAt (hr i j u hu) hy
    | slo e xs i' cs b off cap arr el vs φ hb hcap hsz hc hr h0 hn =>
      cases hu : cellX e xs i' cs i j with
      | none => exact absurd (hn i j hu) hne
      | some u => exact lay_oneAt (hr i j u hu) hy
    | box t cs ht b arr el vs φ hb hsz hc hr h0 hn =>
      cases hu : cs[j]? with
      | none => exact absurd (hn i j (.inr hu)) hne
      | some u =>
        by_cases hi : i = 0
        · subst hi; exact lay_oneAt (hr j u hu) hy
        · exact absurd (hn i j (.inl hi)) hne
    | vr cs x vs φ hr h0 hn =>
      cases hu : cs[j]? with
      | none => exact absurd (hn i j (.inr hu)) hne
      | some u =>
        by_cases hi : i = 0
        · subst hi; exact lay_oneAt (hr j u hu) hy
        · exact absurd (hn i j (.inl hi)) hne

theorem lay_val (h : RelW B s x a w) {r : Nat} {p : Path} {y : Value} (hy : s.Φ r p = some y) : y.oneCell' = true := by
  cases hr : look x.roots r with
  | none => rw [h.rootn r hr] at hy; cases hy
  | some row => obtain ⟨y0, hy0⟩ := h.roots r row hr; exact lay_oneAt hy0 hy

theorem cell_one (h : RelW B s x a w) {y : C} {v : Value} (hv : RepC w s y v) (hd : okCell y = true) : v.oneCell' = true :=
  hv.notAgg hd (fun r p e he => by subst he; cases hv with | own _ _ _ _ hΦ => exact lay_val h hΦ)

theorem Dcells_sound (hr : RelW B s x a w) {d : D} {v : Value} (h : RepD w s d v) (hok : allB okCell d.cells = true) (hne : d.cells ≠ []) : AllC w s d.cells v.cells := by
  cases h with
  | v z v h =>
    cases h with
    | c y v h =>
      have h1 : okCell y = true := (allB_iff _ _).1 hok y (by simp [D.cells])
      rw [cells_of_one (cell_one hr h h1)]
      refine ⟨rfl, fun j u hj => ?_⟩
      cases j with
      | zero => simp only [D.cells, List.getElem?_cons_zero, Option.some.injEq] at hj; subst hj; exact ⟨v, rfl, h⟩
      | succ j => simp [D.cells] at hj
    | ag cs arr hs h => exact ⟨hs, h⟩
  | tup => simp [D.cells] at hne

theorem buildC_sound (hG : Fit B c) (h : RelW B s x a w) {fields : Array Field} :
    ∀ (ps : List (Nat × Operand)) {cs out : List C} {arr : Array Value}, AllC w s cs arr → buildC c x (fields.toList.map fun f => (f.offset, f.type)) cs ps = some out →
    ∀ places : Array (Nat × Nat), (∀ (i : Nat) f, fields[i]? = some f → ∀ fi, look c.Ty f.type = some fi → places[i]? = some (f.offset, fi.size)) →
    ∃ arr', Instr.fill (places[·]?) arr (ps.map fun p => (p.1, a.eval p.2)) = some arr' ∧ AllC w s out arr' := by
  intro ps
  induction ps with
  | nil =>
    intro cs out arr hall he places _
    simp only [buildC, Option.some.injEq] at he
    subst he
    exact ⟨arr, rfl, hall⟩
  | cons p ps ih =>
    intro cs out arr hall he places hpl
    obtain ⟨i, o⟩ := p
    simp only [buildC] at he
    obtain ⟨ft, e1, he⟩ := Option.bind_eq_some_iff.mp he
    rw [nth_eq, List.getElem?_map] at e1
    obtain ⟨f, e0, rfl⟩ := Option.map_eq_some_iff.mp e1
    have e0' : fields[i]? = some f := by simpa using e0
    obtain ⟨fi, e2, he⟩ := Option.bind_eq_some_iff.mp he
    obtain ⟨d, e3, he⟩ := Option.bind_eq_some_iff.mp he
    split at he
    · rename_i hcond
      simp only [Bool.and_eq_true] at hcond
      obtain ⟨h1, h0, h2, h3⟩ := hcond
      have h1 := Nat.eq_of_beq_eq_true h1
      have h0 := Nat.le_of_ble_eq_true h0
      have h3 := Nat.le_of_ble_eq_true h3
      simp only at e2
      have hp := hpl i f e0' fi e2
      have hne : d.cells ≠ [] := fun e => by rw [e] at h1; simp at h1; omega
      have hd := Dcells_sound h (evalD_sound hG h e3) h2 hne
      have hsize : (a.eval o).cells.size = fi.size := by rw [hd.1]; exact h1
      obtain ⟨arr1, ha1, ha2⟩ := fill_step (rest := ps.map fun p => (p.1, a.eval p.2)) (place := (places[·]?)) (cells := arr) (i := i) (v := a.eval o) hp hsize (by rw [hsize, hall.1]; exact h3)
      have hall1 : AllC w s (setFrom cs f.offset d.cells) arr1 := by
        refine ⟨?_, fun j y hj => ?_⟩
        · have : arr1.size = arr1.toList.length := by simp
          rw [this, ha1, setFrom_length, setFrom_length]; simpa using hall.1
        · have hg : arr1[j]? = (setFrom arr.toList f.offset (a.eval o).cells.toList)[j]? := by rw [← ha1]; simp
          rw [hg]
          rw [setFrom_get] at hj ⊢
          have hl1 : (a.eval o).cells.toList.length = d.cells.length := by simpa using hd.1
          have hl2 : arr.toList.length = cs.length := by simpa using hall.1
          rw [hl1, hl2]
          split at hj
          · obtain ⟨u, hu1, hu2⟩ := hd.2 _ _ hj
            rename_i hc
            rw [if_pos hc]
            exact ⟨u, by simpa using hu1, hu2⟩
          · obtain ⟨u, hu1, hu2⟩ := hall.2 _ _ hj
            rename_i hc
            rw [if_neg hc]
            exact ⟨u, by simpa using hu1, hu2⟩
      obtain ⟨arr', h4, h5⟩ := ih hall1 he places hpl
      exact ⟨arr', by simp only [List.map_cons]; rw [ha2]; exact h4, h5⟩
    · cases he

theorem run_mapM {α β : Type} (f : α → Sem β) (g : α → β) (xs : Array α) (h : ∀ y ∈ xs, (f y).run c.P w = .ok (g y) w) : (xs.mapM f).run c.P w = .ok (xs.map g) w := by
  have key : ∀ l : List α, (∀ y ∈ l, (f y).run c.P w = .ok (g y) w) → (l.mapM f).run c.P w = .ok (l.map g) w := by
    intro l
    induction l with
    | nil => intro _; simp
    | cons y l ih =>
      intro hl
      simp only [List.mapM_cons, Sem.run_bind, hl y (by simp), Result.andThen_ok, ih (fun z hz => hl z (by simp [hz])), Sem.run_pure, List.map_cons]
  have e : xs = xs.toList.toArray := by simp
  have e2 : (List.map g xs.toList).toArray = Array.map g xs := by apply Array.ext'; simp
  rw [e, List.mapM_toArray, Sem.run_map, key xs.toList (fun y hy => h y (by simpa using hy)), ← e]
  simp only [Result.andThen_ok, e2]

theorem zeroOk_spec : ∀ {vs : List Value} {zs : List (Option Ty)}, zeroOk vs zs = true → vs.length = zs.length ∧ ∀ (j : Nat) v, vs[j]? = some v → v.oneCell' = true ∧ ∃ z, zs[j]? = some z ∧ (∀ e, z = some e → v = .slice none 0 0)
  | [], [], _ => ⟨rfl, fun j v h => by simp at h⟩
  | [], z :: zs, h => by simp [zeroOk] at h
  | v :: vs, [], h => by simp [zeroOk] at h
  | v :: vs, z :: zs, h => by
    simp only [zeroOk] at h
    split at h
    · rename_i hc
      simp only [Bool.and_eq_true] at hc
      obtain ⟨h1, h2⟩ := zeroOk_spec h
      refine ⟨by simp [h1], fun j u hj => ?_⟩
      cases j with
      | zero =>
        simp only [List.getElem?_cons_zero, Option.some.injEq] at hj
        subst hj
        refine ⟨hc.1, z, rfl, fun e he => ?_⟩
        subst he
        have := hc.2
        exact isNilS_eq this
      | succ j => simpa using h2 j u (by simpa using hj)
    · cases h

theorem zCs_get : ∀ {vs : List Value} {zs : List (Option Ty)} (_ : vs.length = zs.length) (j : Nat), (zCs vs zs)[j]? = (vs[j]?).bind fun v => (zs[j]?).map fun z => zC v z
  | [], [], _, j => by simp [zCs]
  | v :: vs, z :: zs, h, 0 => by simp [zCs]
  | v :: vs, z :: zs, h, j + 1 => by simpa [zCs] using zCs_get (by simpa using h) j

theorem zCs_length : ∀ {vs : List Value} {zs : List (Option Ty)} (_ : vs.length = zs.length), (zCs vs zs).length = vs.length
  | [], [], _ => rfl
  | v :: vs, z :: zs, h => by simp [zCs, zCs_length (by simpa using h : vs.length = zs.length)]

theorem buildD_sound (hG : Fit B c) (h : RelW B s x a w) {t : TypeId} {parts : Array (Nat × Operand)} {d : D} (he : buildD c x t parts = some d) :
    ∃ u, (Instr.build t (parts.map fun p => (p.1, a.eval p.2))).run c.P w = .ok u w ∧ RepD w s d u := by
  unfold buildD at he
  obtain ⟨i, e1, he⟩ := Option.bind_eq_some_iff.mp he
  have hok := c.hTy t i e1
  split at he
  · rename_i fs hfs
    split at he
    · rename_i hcond
      simp only [Bool.and_eq_true] at hcond
      obtain ⟨hzero, hfields⟩ := hcond
      obtain ⟨hlen, hz⟩ := zeroOk_spec hzero
      obtain ⟨fields, hu, hmap⟩ := hok.struct hfs
      obtain ⟨z, hz1, hz2⟩ := hok.run_zeroValue w
      obtain ⟨cs, e2, rfl⟩ := Option.map_eq_some_iff.mp he
      have hall : AllC w s (zCs i.zero i.zel) z.cells := by
        refine ⟨by rw [zCs_length hlen, ← hz2]; simp, fun j y hj => ?_⟩
        rw [zCs_get hlen] at hj
        obtain ⟨v, e, hj⟩ := Option.bind_eq_some_iff.mp hj
        obtain ⟨zz, e3, rfl⟩ := Option.map_eq_some_iff.mp hj
        obtain ⟨g1, z', g2, g3⟩ := hz j v e
        rw [e3, Option.some.injEq] at g2
        subst g2
        refine ⟨v, by rw [← hz2] at e; simpa using e, ?_⟩
        cases zz with
        | none => exact .k _ _ (.v v g1)
        | some e' => rw [g3 e' rfl]; exact .nil none
      have hsome : ∀ f ∈ fields, ∃ fi, look c.Ty f.type = some fi := by
        intro f hf
        rw [← hmap] at hfields
        have := (allB_iff _ _).1 hfields (f.offset, f.type) (List.mem_map.mpr ⟨f, by simpa using hf, rfl⟩)
        unfold isSomeB at this
        split at this
        · rename_i fi hfi; exact ⟨fi, hfi⟩
        · cases this
      have hrun := run_mapM (c := c) (w := w) (fun f : Field => do let s ← sizeOf f.type; pure (f.offset, s)) (fun f => (f.offset, ((look c.Ty f.type).map TyInfo.size).getD 0)) fields (fun f hf => by
        obtain ⟨fi, hfi⟩ := hsome f hf
        simp only [Sem.run_bind, (c.hTy _ fi hfi).run_sizeOf, Result.andThen_ok, Sem.run_pure, hfi, Option.map_some, Option.getD_some])
      rw [← hmap] at e2
      obtain ⟨arr', h1, h2⟩ := buildC_sound hG h parts.toList hall e2 (fields.map fun f => (f.offset, ((look c.Ty f.type).map TyInfo.size).getD 0)) (fun j f hf fi hfi => by
        simp [hf, hfi])
      refine ⟨.agg arr', ?_, .v _ _ (.ag cs arr' h2.1 h2.2)⟩
      have hp : (parts.map fun p => (p.1, a.eval p.2)).toList = parts.toList.map fun p => (p.1, a.eval p.2) := by simp
      simp only [Instr.build, Sem.run_bind, hz1, Result.andThen_ok, run_underlying hu, hrun, hp, h1, Sem.run_pure]
    · cases he
  · cases he

theorem nilD_sound {d e : D} {v : Value} (h : RepD w s d v) (he : nilD d = some e) : e = d ∧ ∃ ad, v = .pointer (some ad) := by
  unfold nilD at he
  split at he
  · cases h with
    | v _ _ h => cases h with
      | c _ _ h =>
        split at he
        · cases h with
          | pt => exact ⟨by simpa using he.symm, _, rfl⟩
        · cases h with
          | rq => exact ⟨by simpa using he.symm, _, rfl⟩
        · obtain ⟨⟨f, cs⟩, h1, h2⟩ := Option.map_eq_some_iff.mp he
          cases h with
          | k _ _ h => cases h with
            | box => exact ⟨h2.symm, _, rfl⟩
            | _ => simp [T.shBox?] at h1
        · cases he
  · cases he

end ops
end Go.V
