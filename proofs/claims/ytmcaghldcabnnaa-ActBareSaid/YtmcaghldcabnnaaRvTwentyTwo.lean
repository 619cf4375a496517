/- What is carried out of a part of the code: shapes of states. -/
import Derived.Test.YtmcaghldcabnnaaRvTwentyOne
namespace Go.V
open Go.RowKit

variable {α : Type}

/-! ### shapes -/
inductive CS where
  | int (k : IntKind)
  | bool
  | str
  | sh (f : Fl) (e : Ty)
  | shp (f : Fl) (e : Ty)
  | rq (f : Fl) (e : Ty) (j : Nat)
  | own (r : Nat) (p : Path) (e : Ty)
  | pt (r : Nat) (p : Path) (i j sz : Nat)
  | nil
  | dead
  | fn (a r : Ty)
  | sub (r : Nat) (p : Path) (e : Ty)
  | ptx (r : Nat) (js : List Nat) (j sz : Nat)
  | ownx (r : Nat) (js : List Nat) (e : Ty)
  | subx (r : Nat) (js : List Nat) (e : Ty)
  | fnp (f : FuncId) (caps : List (Nat × Path))

/-- The rows of a path of these columns. -/
def natsTy : List Nat → Ty
  | [] => .unit
  | [_] => .nat
  | _ :: k :: l => .pair .nat (natsTy (k :: l))

def zipN : (js : List Nat) → den (natsTy js) → Path
  | [], _ => []
  | [j], d => [((d : Nat), j)]
  | j :: k :: l, d => (d.1, j) :: zipN (k :: l) d.2

def rowsN : (js : List Nat) → Path → Option (den (natsTy js))
  | [], p => match p with
    | [] => some ()
    | _ :: _ => none
  | [j], p => match p with
    | e :: l => match l with
      | [] => match Nat.beq e.2 j with
        | true => some e.1
        | false => none
      | _ :: _ => none
    | [] => none
  | j :: k :: l, p => match p with
    | e :: p => match Nat.beq e.2 j with
      | true => (rowsN (k :: l) p).map fun d => (e.1, d)
      | false => none
    | [] => none

theorem rowsN_zip : ∀ {js : List Nat} {p : Path} {d : den (natsTy js)}, rowsN js p = some d → zipN js d = p
  | [], p, d, h => by
    unfold rowsN at h
    split at h
    · rfl
    · cases h
  | [j], p, d, h => by
    unfold rowsN at h
    split at h
    · split at h
      · split at h
        · rename_i e _ _ hb
          have h := Option.some.inj h
          subst h
          show [(e.1, j)] = [e]
          rw [← Nat.eq_of_beq_eq_true hb]
        · cases h
      · cases h
    · cases h
  | j :: k :: l, p, d, h => by
    unfold rowsN at h
    split at h
    · split at h
      · rename_i e p' _ hb
        obtain ⟨d', h1, h2⟩ := Option.map_eq_some_iff.mp h
        subst h2
        show (e.1, j) :: zipN (k :: l) d' = e :: p'
        rw [rowsN_zip h1, ← Nat.eq_of_beq_eq_true hb]
      · cases h
    · cases h

def CS.ty : CS → Ty
  | .int k => .int k
  | .bool => .bool
  | .str => .str
  | .sh _ e => .sl e
  | .shp _ e => e
  | .rq _ e _ => e
  | .fn a r => .fn a r
  | .sub _ _ _ => .pair .nat .nat
  | .ptx _ js _ _ => .pair (natsTy js) .nat
  | .ownx _ js _ => natsTy js
  | .subx _ js _ => .pair (natsTy js) (.pair .nat .nat)
  | _ => .unit

def capsEq : List (Nat × Path) → List (Nat × Path) → Bool
  | [], [] => true
  | a :: l, b :: m => and (Nat.beq a.1 b.1) (and (pathEqq a.2 b.2) (capsEq l m))
  | _, _ => false
where pathEqq : Path → Path → Bool
  | [], [] => true
  | a :: p, b :: q => and (Nat.beq a.1 b.1) (and (Nat.beq a.2 b.2) (pathEqq p q))
  | _, _ => false

theorem pathEqq_eq : ∀ {p q : Path}, capsEq.pathEqq p q = true → p = q
  | [], [], _ => rfl
  | (a1, a2) :: p, (b1, b2) :: q, h => by
    simp only [capsEq.pathEqq, Bool.and_eq_true] at h
    rw [pathEqq_eq h.2.2, Nat.eq_of_beq_eq_true h.1, Nat.eq_of_beq_eq_true h.2.1]
  | [], _ :: _, h => by cases h
  | _ :: _, [], h => by cases h

theorem capsEq_eq : ∀ {l m : List (Nat × Path)}, capsEq l m = true → l = m
  | [], [], _ => rfl
  | (a1, a2) :: l, (b1, b2) :: m, h => by
    simp only [capsEq, Bool.and_eq_true] at h
    rw [Nat.eq_of_beq_eq_true h.1, pathEqq_eq h.2.1, capsEq_eq h.2.2]
  | [], _ :: _, h => by cases h
  | _ :: _, [], h => by cases h

def pathEq : Path → Path → Bool
  | [], [] => true
  | a :: p, b :: q => and (Nat.beq a.1 b.1) (and (Nat.beq a.2 b.2) (pathEq p q))
  | _, _ => false

theorem pathEq_eq : ∀ {p q : Path}, pathEq p q = true → p = q
  | [], [], _ => rfl
  | a :: p, b :: q, h => by
    simp only [pathEq, Bool.and_eq_true] at h
    rw [pathEq_eq h.2.2]
    have h1 := Nat.eq_of_beq_eq_true h.1
    have h2 := Nat.eq_of_beq_eq_true h.2.1
    obtain ⟨a1, a2⟩ := a
    obtain ⟨b1, b2⟩ := b
    simp only at h1 h2
    rw [h1, h2]
  | [], _ :: _, h => by simp [pathEq] at h
  | _ :: _, [], h => by simp [pathEq] at h

def fillC : (s : CS) → den s.ty → C
  | .int k => fun n => .k (.v (.int k n))
  | .bool => fun b => .k (.v (.bool b))
  | .str => fun l => .k (.v (.string ⟨⟨l⟩⟩))
  | .sh f e => fun xs => .k (.sl f e xs)
  | .shp f e => fun d => .k (.pt f e d)
  | .rq f e j => fun d => .rq f (cells f e d) j
  | .own r p e => fun _ => .own r p e
  | .pt r p i j sz => fun _ => .pt r p i j sz
  | .nil => fun _ => .nil
  | .dead => fun _ => .k .dead
  | .fn a r => fun g => .fn a r g
  | .sub r p e => fun d => .sub r p d.1 d.2 e
  | .ptx r js j sz => fun d => .pt r (zipN js d.1) d.2 j sz
  | .ownx r js e => fun d => .own r (zipN js d) e
  | .subx r js e => fun d => .sub r (zipN js d.1) d.2.1 d.2.2 e
  | .fnp f caps => fun _ => .fnp f caps

def matchC : (s : CS) → C → Option (den s.ty)
  | .int k => fun y => match y with
    | .k (.v (.int k' n)) => if kindEq k' k = true then some n else none
    | _ => none
  | .bool => fun y => match y with
    | .k (.v (.bool b)) => some b
    | _ => none
  | .str => fun y => match y with
    | .k (.v (.string s)) => some s.data.toList
    | _ => none
  | .sh f e => fun y => match y with
    | .k (.sl f' e' xs) => if flEq f' f = true then cast? (.sl e') (.sl e) xs else none
    | _ => none
  | .shp f e => fun y => match y with
    | .k (.pt f' e' d) => if flEq f' f = true then cast? e' e d else none
    | _ => none
  | .rq f e j => fun y => match y with
    | .rq f' cs j' => if and (flEq f' f) (Nat.beq j' j) = true then packAll f e cs else none
    | _ => none
  | .own r p e => fun y => match y with
    | .own r' p' e' => if and (Nat.beq r' r) (and (pathEq p' p) (e'.beq e)) = true then some () else none
    | _ => none
  | .pt r p i j sz => fun y => match y with
    | .pt r' p' i' j' sz' => if and (Nat.beq r' r) (and (pathEq p' p) (and (Nat.beq i' i) (and (Nat.beq j' j) (Nat.beq sz' sz)))) = true then some () else none
    | _ => none
  | .nil => fun y => match y with
    | .nil => some ()
    | _ => none
  | .dead => fun y => match y with
    | .k .dead => some ()
    | _ => none
  | .fn a r => fun y => match y with
    | .fn a' r' g => cast? (.fn a' r') (.fn a r) g
    | _ => none
  | .sub r p e => fun y => match y with
    | .sub r' p' lo n e' => if and (Nat.beq r' r) (and (pathEq p' p) (e'.beq e)) = true then some (lo, n) else none
    | _ => none
  | .ptx r js j sz => fun y => match y with
    | .pt r' p' i' j' sz' => if and (Nat.beq r' r) (and (Nat.beq j' j) (Nat.beq sz' sz)) = true then (rowsN js p').map fun d => (d, i') else none
    | _ => none
  | .ownx r js e => fun y => match y with
    | .own r' p' e' => if and (Nat.beq r' r) (e'.beq e) = true then rowsN js p' else none
    | _ => none
  | .subx r js e => fun y => match y with
    | .sub r' p' lo n e' => if and (Nat.beq r' r) (e'.beq e) = true then (rowsN js p').map fun d => (d, (lo, n)) else none
    | _ => none
  | .fnp f caps => fun y => match y with
    | .fnp f' caps' => if and (Nat.beq f' f) (capsEq caps' caps) = true then some () else none
    | _ => none

theorem ite_some {β : Type} {p : Prop} [Decidable p] {o : Option β} {d : β} (h : (if p then o else none) = some d) : p ∧ o = some d := by
  by_cases hp : p
  · rw [if_pos hp] at h; exact ⟨hp, h⟩
  · rw [if_neg hp] at h; cases h

theorem matchC_fill : ∀ (s : CS) {y : C} {d : den s.ty}, matchC s y = some d → fillC s d = y := by
  intro s y d h
  cases s with
  | int k =>
    simp only [matchC] at h
    split at h
    · split at h
      · rename_i hk; cases h; rw [kindEq_eq hk]; rfl
      · cases h
    · cases h
  | bool =>
    simp only [matchC] at h
    split at h
    · cases h; rfl
    · cases h
  | str =>
    simp only [matchC] at h
    split at h
    · cases h; rfl
    · cases h
  | sh f e =>
    simp only [matchC] at h
    split at h
    · obtain ⟨hf, h2⟩ := ite_some h
      obtain ⟨he, h3⟩ := cast?_some h2
      cases he
      subst h3
      rw [flEq_eq hf]; rfl
    · cases h
  | shp f e =>
    simp only [matchC] at h
    split at h
    · obtain ⟨hf, h2⟩ := ite_some h
      obtain ⟨he, h3⟩ := cast?_some h2
      subst he
      subst h3
      rw [flEq_eq hf]; rfl
    · cases h
  | rq f e j =>
    simp only [matchC] at h
    split at h
    · obtain ⟨hf, h2⟩ := ite_some h
      simp only [Bool.and_eq_true] at hf
      have h1 := packAll_some h2
      rw [h1, flEq_eq hf.1, Nat.eq_of_beq_eq_true hf.2]; rfl
    · cases h
  | own r p e =>
    simp only [matchC] at h
    split at h
    · split at h
      · rename_i hf
        simp only [Bool.and_eq_true] at hf
        rw [Nat.eq_of_beq_eq_true hf.1, pathEq_eq hf.2.1, Ty.beq_eq hf.2.2]; rfl
      · cases h
    · cases h
  | pt r p i j sz =>
    simp only [matchC] at h
    split at h
    · split at h
      · rename_i hf
        simp only [Bool.and_eq_true] at hf
        rw [Nat.eq_of_beq_eq_true hf.1, pathEq_eq hf.2.1, Nat.eq_of_beq_eq_true hf.2.2.1, Nat.eq_of_beq_eq_true hf.2.2.2.1, Nat.eq_of_beq_eq_true hf.2.2.2.2]; rfl
      · cases h
    · cases h
  | nil =>
    simp only [matchC] at h
    split at h
    · rfl
    · cases h
  | dead =>
    simp only [matchC] at h
    split at h
    · rfl
    · cases h
  | fn a r =>
    cases y with
    | fn a' r' g =>
      have h : cast? (.fn a' r') (.fn a r) g = some d := h
      obtain ⟨he, h3⟩ := cast?_some h
      cases he
      subst h3; rfl
    | _ => cases h
  | sub r p e =>
    simp only [matchC] at h
    split at h
    · split at h
      · rename_i hf
        simp only [Bool.and_eq_true] at hf
        have h := Option.some.inj h
        subst h
        rw [Nat.eq_of_beq_eq_true hf.1, pathEq_eq hf.2.1, Ty.beq_eq hf.2.2]; rfl
      · cases h
    · cases h
  | ptx r js j sz =>
    simp only [matchC] at h
    split at h
    · obtain ⟨hf, h2⟩ := ite_some h
      simp only [Bool.and_eq_true] at hf
      obtain ⟨d', h3, h4⟩ := Option.map_eq_some_iff.mp h2
      subst h4
      rw [Nat.eq_of_beq_eq_true hf.1, Nat.eq_of_beq_eq_true hf.2.1, Nat.eq_of_beq_eq_true hf.2.2]
      simp only [fillC, rowsN_zip h3]
    · cases h
  | ownx r js e =>
    simp only [matchC] at h
    split at h
    · obtain ⟨hf, h2⟩ := ite_some h
      simp only [Bool.and_eq_true] at hf
      rw [Nat.eq_of_beq_eq_true hf.1, Ty.beq_eq hf.2]
      simp only [fillC, rowsN_zip h2]
    · cases h
  | subx r js e =>
    simp only [matchC] at h
    split at h
    · obtain ⟨hf, h2⟩ := ite_some h
      simp only [Bool.and_eq_true] at hf
      obtain ⟨d', h3, h4⟩ := Option.map_eq_some_iff.mp h2
      subst h4
      rw [Nat.eq_of_beq_eq_true hf.1, Ty.beq_eq hf.2]
      simp only [fillC, rowsN_zip h3]
    · cases h
  | fnp f caps =>
    simp only [matchC] at h
    split at h
    · split at h
      · rename_i hf
        simp only [Bool.and_eq_true] at hf
        rw [Nat.eq_of_beq_eq_true hf.1, capsEq_eq hf.2]; rfl
      · cases h
    · cases h

def one? {β : Type} : List β → Option β
  | [y] => some y
  | _ => none

theorem one?_some {β : Type} {l : List β} {y : β} (h : one? l = some y) : l = [y] := by
  unfold one? at h
  split at h
  · cases h; rfl
  · cases h

def csTy : List CS → Ty
  | [] => .unit
  | [s] => s.ty
  | s :: l => .pair s.ty (csTy l)

def fillCs : (l : List CS) → den (csTy l) → List C
  | [], _ => []
  | [s], d => [fillC s d]
  | s :: t :: l, d => fillC s d.1 :: fillCs (t :: l) d.2

def matchCs : (l : List CS) → List C → Option (den (csTy l))
  | [], ys => match ys with
    | [] => some ()
    | _ :: _ => none
  | [s], ys => (one? ys).bind fun y => matchC s y
  | s :: t :: l, ys => match ys with
    | y :: ys => (matchC s y).bind fun d => (matchCs (t :: l) ys).map fun e => (d, e)
    | [] => none

theorem matchCs_fill : ∀ (l : List CS) {ys : List C} {d : den (csTy l)}, matchCs l ys = some d → fillCs l d = ys
  | [], ys, d, h => by
    unfold matchCs at h
    split at h
    · rfl
    · cases h
  | [s], ys, d, h => by
    obtain ⟨y, h1, h2⟩ := Option.bind_eq_some_iff.mp h
    rw [one?_some h1]
    show [fillC s d] = _
    rw [matchC_fill s h2]
  | s :: t :: l, ys, d, h => by
    unfold matchCs at h
    split at h
    · obtain ⟨d1, h1, h2⟩ := Option.bind_eq_some_iff.mp h
      obtain ⟨d2, h3, h4⟩ := Option.map_eq_some_iff.mp h2
      cases h4
      show fillC s d1 :: fillCs (t :: l) d2 = _
      rw [matchC_fill s h1, matchCs_fill (t :: l) h3]
    · cases h

/-- The cells of a root. -/
inductive TB where
  | int (k : IntKind)
  | bool
  | str
  | sl (f : Fl) (e : Ty)
  | pt (f : Fl) (e : Ty)
  | dead

def TB.ty : TB → Ty
  | .int k => .int k
  | .bool => .bool
  | .str => .str
  | .sl _ e => .sl e
  | .pt _ e => e
  | .dead => .unit

def fillB : (s : TB) → den s.ty → T
  | .int k => fun n => .v (.int k n)
  | .bool => fun b => .v (.bool b)
  | .str => fun l => .v (.string ⟨⟨l⟩⟩)
  | .sl f e => fun xs => .sl f e xs
  | .pt f e => fun d => .pt f e d
  | .dead => fun _ => .dead

def matchB : (s : TB) → T → Option (den s.ty)
  | .int k => fun y => match y with
    | .v (.int k' n) => if kindEq k' k = true then some n else none
    | _ => none
  | .bool => fun y => match y with
    | .v (.bool b) => some b
    | _ => none
  | .str => fun y => match y with
    | .v (.string s) => some s.data.toList
    | _ => none
  | .sl f e => fun y => match y with
    | .sl f' e' xs => if flEq f' f = true then cast? (.sl e') (.sl e) xs else none
    | _ => none
  | .pt f e => fun y => match y with
    | .pt f' e' d => if flEq f' f = true then cast? e' e d else none
    | _ => none
  | .dead => fun y => match y with
    | .dead => some ()
    | _ => none

theorem matchB_fill : ∀ (s : TB) {y : T} {d : den s.ty}, matchB s y = some d → fillB s d = y := by
  intro s y d h
  cases s with
  | int k =>
    simp only [matchB] at h
    split at h
    · split at h
      · rename_i hk; cases h; rw [kindEq_eq hk]; rfl
      · cases h
    · cases h
  | bool =>
    simp only [matchB] at h
    split at h
    · cases h; rfl
    · cases h
  | str =>
    simp only [matchB] at h
    split at h
    · cases h; rfl
    · cases h
  | sl f e =>
    simp only [matchB] at h
    split at h
    · obtain ⟨hf, h2⟩ := ite_some h
      obtain ⟨he, h3⟩ := cast?_some h2
      cases he
      subst h3
      rw [flEq_eq hf]; rfl
    · cases h
  | pt f e =>
    simp only [matchB] at h
    split at h
    · obtain ⟨hf, h2⟩ := ite_some h
      obtain ⟨he, h3⟩ := cast?_some h2
      subst he
      subst h3
      rw [flEq_eq hf]; rfl
    · cases h
  | dead =>
    simp only [matchB] at h
    split at h
    · rfl
    · cases h

def tbTy : List TB → Ty
  | [] => .unit
  | [s] => s.ty
  | s :: l => .pair s.ty (tbTy l)

def fillBs : (l : List TB) → den (tbTy l) → List T
  | [], _ => []
  | [s], d => [fillB s d]
  | s :: t :: l, d => fillB s d.1 :: fillBs (t :: l) d.2

def matchBs : (l : List TB) → List T → Option (den (tbTy l))
  | [], ys => match ys with
    | [] => some ()
    | _ :: _ => none
  | [s], ys => (one? ys).bind fun y => matchB s y
  | s :: t :: l, ys => match ys with
    | y :: ys => (matchB s y).bind fun d => (matchBs (t :: l) ys).map fun e => (d, e)
    | [] => none

theorem matchBs_fill : ∀ (l : List TB) {ys : List T} {d : den (tbTy l)}, matchBs l ys = some d → fillBs l d = ys
  | [], ys, d, h => by
    unfold matchBs at h
    split at h
    · rfl
    · cases h
  | [s], ys, d, h => by
    obtain ⟨y, h1, h2⟩ := Option.bind_eq_some_iff.mp h
    rw [one?_some h1]
    show [fillB s d] = _
    rw [matchB_fill s h2]
  | s :: t :: l, ys, d, h => by
    unfold matchBs at h
    split at h
    · obtain ⟨d1, h1, h2⟩ := Option.bind_eq_some_iff.mp h
      obtain ⟨d2, h3, h4⟩ := Option.map_eq_some_iff.mp h2
      cases h4
      show fillB s d1 :: fillBs (t :: l) d2 = _
      rw [matchB_fill s h1, matchBs_fill (t :: l) h3]
    · cases h

/-- A slot: a temporary's value; a root that is one box; a root that is one cell, or several. -/
inductive Slot where
  | tmp (k : Nat) (s : CS)
  | agg (k : Nat) (l : List CS)
  | box (k : Nat) (l : List TB)
  | row (k : Nat) (l : List TB)

def Slot.ty : Slot → Ty
  | .tmp _ s => s.ty
  | .agg _ l => csTy l
  | .box _ l => tbTy l
  | .row _ l => tbTy l

def fillE1 : (s : Slot) → den s.ty → List (Nat × D)
  | .tmp k s, d => [(k, .v (.c (fillC s d)))]
  | .agg k l, d => [(k, .v (.ag (fillCs l d)))]
  | .box _ _, _ => []
  | .row _ _, _ => []

def fillR1 : (s : Slot) → den s.ty → List (Nat × List T)
  | .tmp _ _, _ => []
  | .agg _ _, _ => []
  | .box k l, d => [(k, [.pp .own (fillBs l d)])]
  | .row k l, d => [(k, fillBs l d)]

def D.agg? : D → Option (List C)
  | .v (.ag ys) => some ys
  | _ => none

theorem D.agg?_some {d : D} {ys : List C} (h : d.agg? = some ys) : d = .v (.ag ys) := by
  unfold D.agg? at h
  split at h
  · cases h; rfl
  · cases h

theorem D.one_some {d : D} {y : C} (h : d.one = some y) : d = .v (.c y) := by
  unfold D.one at h
  split at h
  · cases h; rfl
  · cases h

def boxRow? : List T → Option (List T)
  | [.pp .own ts] => some ts
  | _ => none

theorem boxRow?_some {r ts : List T} (h : boxRow? r = some ts) : r = [.pp .own ts] := by
  unfold boxRow? at h
  split at h
  · cases h; rfl
  · cases h

def match1 : (s : Slot) → X → Option (den s.ty)
  | .tmp k s, x => ((look x.env k).bind D.one).bind fun y => matchC s y
  | .agg k l, x => ((look x.env k).bind D.agg?).bind fun ys => matchCs l ys
  | .box k l, x => ((look x.roots k).bind boxRow?).bind fun ts => matchBs l ts
  | .row k l, x => (look x.roots k).bind fun r => matchBs l r

theorem match1_fill (s : Slot) {x : X} {d : den s.ty} (h : match1 s x = some d) :
    (∀ k e, look (fillE1 s d) k = some e → look x.env k = some e) ∧ (∀ k r, look (fillR1 s d) k = some r → look x.roots k = some r) := by
  cases s with
  | tmp k s =>
    obtain ⟨y, h0, h2⟩ := Option.bind_eq_some_iff.mp h
    obtain ⟨e, h1, h3⟩ := Option.bind_eq_some_iff.mp h0
    have h3 := D.one_some h3
    subst h3
    refine ⟨fun k' e' he => ?_, fun k' r hr => by cases hr⟩
    simp only [fillE1, look_cons] at he
    split at he
    · rename_i hk; subst hk; simp only [Option.some.injEq] at he; subst he; rw [h1, matchC_fill s h2]
    · cases he
  | agg k l =>
    obtain ⟨y, h0, h2⟩ := Option.bind_eq_some_iff.mp h
    obtain ⟨e, h1, h3⟩ := Option.bind_eq_some_iff.mp h0
    have h3 := D.agg?_some h3
    subst h3
    refine ⟨fun k' e' he => ?_, fun k' r hr => by cases hr⟩
    simp only [fillE1, look_cons] at he
    split at he
    · rename_i hk; subst hk; simp only [Option.some.injEq] at he; subst he; rw [h1, matchCs_fill l h2]
    · cases he
  | box k l =>
    obtain ⟨y, h0, h2⟩ := Option.bind_eq_some_iff.mp h
    obtain ⟨e, h1, h3⟩ := Option.bind_eq_some_iff.mp h0
    have h3 := boxRow?_some h3
    subst h3
    refine ⟨fun k' e' he => by (cases he), fun k' r hr => ?_⟩
    simp only [fillR1, look_cons] at hr
    split at hr
    · rename_i hk; subst hk; simp only [Option.some.injEq] at hr; subst hr; rw [h1, matchBs_fill l h2]
    · cases hr
  | row k l =>
    obtain ⟨e, h1, h2⟩ := Option.bind_eq_some_iff.mp h
    refine ⟨fun k' e' he => by (cases he), fun k' r hr => ?_⟩
    simp only [fillR1, look_cons] at hr
    split at hr
    · rename_i hk; subst hk; simp only [Option.some.injEq] at hr; subst hr; rw [h1, matchBs_fill l h2]
    · cases hr

def shTy : List Slot → Ty
  | [] => .unit
  | [s] => s.ty
  | s :: l => .pair s.ty (shTy l)

def fillE : (l : List Slot) → den (shTy l) → List (Nat × D)
  | [], _ => []
  | [s], d => fillE1 s d
  | s :: t :: l, d => app (fillE1 s d.1) (fillE (t :: l) d.2)

def fillR : (l : List Slot) → den (shTy l) → List (Nat × List T)
  | [], _ => []
  | [s], d => fillR1 s d
  | s :: t :: l, d => app (fillR1 s d.1) (fillR (t :: l) d.2)

def matchX : (l : List Slot) → X → Option (den (shTy l))
  | [], _ => some ()
  | [s], x => match1 s x
  | s :: t :: l, x => (match1 s x).bind fun d => (matchX (t :: l) x).map fun e => (d, e)

theorem matchX_fill : ∀ (l : List Slot) {x : X} {d : den (shTy l)}, matchX l x = some d →
    (∀ k e, look (fillE l d) k = some e → look x.env k = some e) ∧ (∀ k r, look (fillR l d) k = some r → look x.roots k = some r)
  | [], x, d, _ => ⟨fun k e h => by (cases h), fun k r h => by (cases h)⟩
  | [s], x, d, h => match1_fill s h
  | s :: t :: l, x, d, h => by
    obtain ⟨d1, h1, h2⟩ := Option.bind_eq_some_iff.mp h
    obtain ⟨d2, h3, h4⟩ := Option.map_eq_some_iff.mp h2
    cases h4
    obtain ⟨a1, a2⟩ := match1_fill s h1
    obtain ⟨b1, b2⟩ := matchX_fill (t :: l) h3
    refine ⟨fun k e he => ?_, fun k r hr => ?_⟩
    · have he : look (app (fillE1 s d1) (fillE (t :: l) d2)) k = some e := he
      rw [look_app] at he
      split at he
      · rename_i e' he'; simp only [Option.some.injEq] at he; subst he; exact a1 k _ he'
      · exact b1 k e he
    · have hr : look (app (fillR1 s d1) (fillR (t :: l) d2)) k = some r := hr
      rw [look_app] at hr
      split at hr
      · rename_i e' hr'; simp only [Option.some.injEq] at hr; subst hr; exact a2 k _ hr'
      · exact b2 k r hr

def rootsOf : List Slot → List Nat
  | [] => []
  | .box k _ :: l => k :: rootsOf l
  | .row k _ :: l => k :: rootsOf l
  | _ :: l => rootsOf l

theorem rootsOf_in : ∀ (l : List Slot) (d : den (shTy l)) (k : Nat), (k ∈ rootsOf l ↔ (look (fillR l d) k).isSome = true)
  | [], d, k => by simp [rootsOf, fillR, look]
  | [s], d, k => by
    cases s <;> simp only [rootsOf, fillR, fillR1, look_cons, List.mem_singleton, List.not_mem_nil, look]
    · simp
    · simp
    · split <;> simp_all
    · split <;> simp_all
  | s :: t :: l, d, k => by
    have ih := rootsOf_in (t :: l) d.2 k
    have e : fillR (s :: t :: l) d = app (fillR1 s d.1) (fillR (t :: l) d.2) := rfl
    rw [e, look_app]
    cases s <;> simp only [rootsOf, fillR1, look_cons, look, List.mem_cons]
    · exact ih
    · exact ih
    · split <;> simp_all
    · split <;> simp_all

end Go.V
