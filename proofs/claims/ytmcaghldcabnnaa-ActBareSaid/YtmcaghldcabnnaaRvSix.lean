/- Operands; the loading of variables. -/
import Derived.Test.YtmcaghldcabnnaaRvFive
namespace Go.V
open Go.RowKit

structure Ctx where
  P : Program
  Ty : List (Nat × TyInfo)
  hTy : ∀ t i, look Ty t = some i → TyOk1 P t i
  G : List (Nat × T)
  off : Nat
  I : List (Nat × Func)
  hI : ∀ f fn, look I f = some fn → P.funcs[f]? = some fn ∧ (fn.name == "runtime.NumGoroutine") = false
  mix : P.follows .mixedOrders = true

/-- What is done with a function's answer hangs on the answer alone. -/
def Lawful {β : Type} (f : (α : Type) → (β → Option α) → Option α) : Prop := ∀ (α : Type) (K : β → Option α), f α K = (f β some).bind K

theorem Lawful.pure {β : Type} (b : β) : Lawful fun _ K => K b := fun _ _ => rfl
theorem Lawful.none {β : Type} : Lawful (β := β) fun _ _ => none := fun _ _ => rfl
theorem Lawful.bind {β γ : Type} (o : Option γ) {f : γ → (α : Type) → (β → Option α) → Option α} (h : ∀ c, Lawful (f c)) : Lawful fun α K => o.bind fun c => f c α K := by
  intro α K
  cases o with
  | none => rfl
  | some c => exact h c α K
theorem Lawful.cond {β : Type} (b : Bool) {f g : (α : Type) → (β → Option α) → Option α} (h1 : Lawful f) (h2 : Lawful g) : Lawful fun α K => cond b (f α K) (g α K) := by
  intro α K
  cases b
  · exact h2 α K
  · exact h1 α K
theorem Lawful.comp {β γ : Type} {f : (α : Type) → (γ → Option α) → Option α} (h : Lawful f) {g : γ → (α : Type) → (β → Option α) → Option α} (hg : ∀ c, Lawful (g c)) :
    Lawful fun α K => f α fun c => g c α K := by
  intro α K
  show f α (fun c => g c α K) = (f β fun c => g c β some).bind K
  rw [h α, h β]
  cases f γ some with
  | none => rfl
  | some c => exact hg c α K

variable {α : Type}

/-- Where a type's first value is a nil slice. -/
def isNilS (v : Value) : Bool := match v with
  | .slice a n k => match a with
    | none => match n with
      | 0 => match k with
        | 0 => true
        | _ + 1 => false
      | _ + 1 => false
    | some _ => false
  | _ => false

theorem isNilS_eq {v : Value} (h : isNilS v = true) : v = .slice none 0 0 := by
  unfold isNilS at h
  split at h
  · split at h
    · split at h
      · split at h
        · rfl
        · cases h
      · cases h
    · cases h
  · cases h

def evalD (c : Ctx) (x : X) (o : Operand) : Option D := match o with
  | .tmp k => look x.env (c.off + k)
  | .const v => match v with
    | .slice a n k => match isNilS (.slice a n k) with
      | true => some (.v (.c .nil))
      | false => none
    | .bool b => some (.v (.c (.k (.v (.bool b)))))
    | .int k n => some (.v (.c (.k (.v (.int k n)))))
    | .string s => some (.v (.c (.k (.v (.string s)))))
    | .nilIface => some (.v (.c (.k (.v .nilIface))))
    | .pointer none => some (.v (.c (.k (.v (.pointer none)))))
    | _ => none
  | .global g => (look c.G g).map fun t => .v (.c (match t with | .ga e xs => .ra e xs | t => .k t))
  | .func f => some (.v (.c (.fnp f [])))

/-- The tables and the frame are those of the call. -/
structure Fit (B : Base) (c : Ctx) : Prop where
  g : B.G = c.G
  off : B.nt.off = c.off

section ops
variable {c : Ctx} {B : Base} {s : Sit} {x : X} {a : Act} {w : World}

theorem evalD_sound (hG : Fit B c) (h : RelW B s x a w) {o : Operand} {d : D} (he : evalD c x o = some d) : RepD w s d (a.eval o) := by
  cases o with
  | tmp k =>
    obtain ⟨v, h1, h2⟩ := h.env _ d he
    rw [← hG.off, tv_local] at h1
    have : a.eval (.tmp k) = v := by simp [Act.eval, Array.getD_eq_getD_getElem?, h1]
    rw [this]; exact h2
  | const v =>
    simp only [evalD] at he
    split at he
    · split at he
      · rename_i hn
        simp only [Option.some.injEq] at he
        subst he
        have := isNilS_eq hn
        have hev : ∀ v, a.eval (.const v) = v := fun _ => rfl
        rw [hev, this]
        exact .v _ _ (.c _ _ (.nil none))
      · cases he
    all_goals simp only [Option.some.injEq, reduceCtorEq] at he
    all_goals subst he
    all_goals exact .v _ _ (.c _ _ (.k _ _ (.v _ rfl)))
  | global g =>
    simp only [evalD] at he
    obtain ⟨t, ht, rfl⟩ := Option.map_eq_some_iff.mp he
    have := h.glob g t (by rw [hG.g]; exact ht)
    refine .v _ _ (.c _ _ ?_)
    split
    · exact .ra _ _ _ this
    · exact .k _ _ this
  | func f =>
    simp only [evalD, Option.some.injEq] at he
    subst he
    exact .v _ _ (.c _ _ (.fnp f [] #[] rfl (fun m r p e => by simp at e)))

/-! ### places -/
def idxN {β : Type} (xs : List β) (i : Nat) : Option β := xs[i]?

def childK (t : T) (i j : Nat) (K : T → Option α) : Option α :=
  match t with
  | .sl .own e xs => (idxN xs i).bind fun x => (nth (cells .own e x) j).bind K
  | .pt .own e d => match i with
    | 0 => (nth (cells .own e d) j).bind K
    | _ + 1 => none
  | .pp .own cs => match i with
    | 0 => (nth cs j).bind K
    | _ + 1 => none
  | .vr cs => match i with
    | 0 => (nth cs j).bind K
    | _ + 1 => none
  | .slo e xs i' cs => (idxN xs i).bind fun _ => match Nat.blt j e.size with
    | true => cond (Nat.beq i i') ((nth cs j).bind K) none
    | false => none
  | .po _ cs => match i with
    | 0 => (nth cs j).bind K
    | _ + 1 => none
  | _ => none

theorem childK_eq (t : T) (i j : Nat) (K : T → Option α) : childK t i j K = (childK t i j some).bind K := by
  cases t with
  | sl f e xs =>
    cases f <;> try rfl
    simp only [childK, Option.bind_assoc]
    simp
  | pt f e d => cases f <;> cases i <;> first | rfl | (simp only [childK]; cases nth (cells .own e d) j <;> rfl)
  | pp f cs => cases f <;> cases i <;> first | rfl | (simp only [childK]; cases nth cs j <;> rfl)
  | vr cs => cases i <;> first | rfl | (simp only [childK]; cases nth cs j <;> rfl)
  | slo e xs i' cs =>
    simp only [childK]
    cases idxN xs i with
    | none => rfl
    | some x =>
      simp only [Option.bind_some]
      cases Nat.blt j e.size with
      | false => rfl
      | true => cases Nat.beq i i' <;> first | rfl | (cases nth cs j <;> rfl)
  | po e cs => cases i <;> first | rfl | (simp only [childK]; cases nth cs j <;> rfl)
  | _ => rfl

theorem childK_some {t : T} {i j : Nat} {K : T → Option α} {q : α} (h : childK t i j K = some q) : ∃ u, childT t i j = some u ∧ K u = some q := by
  cases t with
  | sl f e xs =>
    cases f <;> try (cases h; done)
    obtain ⟨x, h1, h2⟩ := Option.bind_eq_some_iff.mp h
    obtain ⟨u, h3, h4⟩ := Option.bind_eq_some_iff.mp h2
    simp only [idxN] at h1
    exact ⟨u, by simp only [childT, h1, Option.bind_some]; exact h3, h4⟩
  | pt f e d =>
    cases f <;> try (cases h; done)
    cases i with
    | zero => obtain ⟨u, h3, h4⟩ := Option.bind_eq_some_iff.mp h; exact ⟨u, h3, h4⟩
    | succ i => cases h
  | pp f cs =>
    cases f <;> try (cases h; done)
    cases i with
    | zero => obtain ⟨u, h3, h4⟩ := Option.bind_eq_some_iff.mp h; exact ⟨u, h3, h4⟩
    | succ i => cases h
  | vr cs =>
    cases i with
    | zero => obtain ⟨u, h3, h4⟩ := Option.bind_eq_some_iff.mp h; exact ⟨u, h3, h4⟩
    | succ i => cases h
  | slo e xs i' cs =>
    obtain ⟨x, h1, h2⟩ := Option.bind_eq_some_iff.mp h
    simp only [idxN] at h1
    simp only [childT, h1, Option.bind_some]
    split at h2
    · rename_i hb
      rw [hb]
      rcases cond_some h2 with ⟨hb2, h3⟩ | ⟨_, h3⟩
      · obtain ⟨u, h4, h5⟩ := Option.bind_eq_some_iff.mp h3
        simp only [hb2]
        exact ⟨u, h4, h5⟩
      · cases h3
    · cases h2
  | po e cs =>
    cases i with
    | zero => obtain ⟨u, h3, h4⟩ := Option.bind_eq_some_iff.mp h; exact ⟨u, h3, h4⟩
    | succ i => cases h
  | _ => cases h

def getK : Path → T → (T → Option α) → Option α
  | [], t, K => K t
  | e :: p, t, K => childK t e.1 e.2 fun c => getK p c K

theorem getK_eq : ∀ (p : Path) (t : T) (K : T → Option α), getK p t K = (getK p t some).bind K
  | [], t, K => rfl
  | (i, j) :: p, t, K => by
    simp only [getK]
    rw [childK_eq, childK_eq t i j (fun c => getK p c some), Option.bind_assoc]
    congr 1
    funext c
    exact getK_eq p c K

theorem getK_some : ∀ {p : Path} {t : T} {K : T → Option α} {q : α}, getK p t K = some q → ∃ u, getT p t = some u ∧ K u = some q
  | [], t, K, q, h => ⟨t, rfl, h⟩
  | (i, j) :: p, t, K, q, h => by
    obtain ⟨c, h1, h2⟩ := childK_some h
    obtain ⟨u, h3, h4⟩ := getK_some h2
    exact ⟨u, by simp only [getT, h1, Option.bind_some]; exact h3, h4⟩

def atK (x : X) (r : Nat) (p : Path) (K : T → Option α) : Option α := (look x.roots r).bind fun row => getK p (.vr row) K

theorem atK_some {x : X} {r : Nat} {p : Path} {K : T → Option α} {q : α} (h : atK x r p K = some q) : ∃ t, x.at r p = some t ∧ K t = some q := by
  obtain ⟨row, h1, h2⟩ := Option.bind_eq_some_iff.mp h
  obtain ⟨u, h3, h4⟩ := getK_some h2
  exact ⟨u, by simp only [X.at, h1, Option.bind_some]; exact h3, h4⟩

theorem Lawful.at (x : X) (r : Nat) (p : Path) : Lawful fun _ K => atK x r p K := by
  intro α K
  show atK x r p K = (atK x r p some).bind K
  simp only [atK, Option.bind_assoc]
  congr 1
  funext row
  exact getK_eq p _ K

/-- The cells of one element of a node (of a box: of it all). -/
def rowK (t : T) (i sz : Nat) (K : List T → Option α) : Option α := match t with
  | .sl .own e xs => match Nat.beq e.size sz with
    | true => (idxN xs i).bind fun x => K (cells .own e x)
    | false => none
  | .pp .own cs => match i with
    | 0 => K cs
    | _ + 1 => none
  | .pt .own e d => match i with
    | 0 => K (cells .own e d)
    | _ + 1 => none
  | .slo e xs i' cs => match and (Nat.beq e.size sz) (Nat.beq cs.length e.size) with
    | true => (idxN xs i).bind fun _ => cond (Nat.beq i i') (K cs) none
    | false => none
  | .po _ cs => match i with
    | 0 => K cs
    | _ + 1 => none
  | _ => none

def rowOf (t : T) (i sz : Nat) : Option (List T) := rowK t i sz some

theorem rowK_eq (t : T) (i sz : Nat) (K : List T → Option α) : rowK t i sz K = (rowOf t i sz).bind K := by
  cases t with
  | sl f e xs =>
    cases f <;> try rfl
    simp only [rowOf, rowK]
    split
    · cases idxN xs i <;> rfl
    · rfl
  | pt f e d => cases f <;> cases i <;> rfl
  | pp f cs => cases f <;> cases i <;> rfl
  | slo e xs i' cs =>
    simp only [rowOf, rowK]
    split
    · cases idxN xs i with
      | none => rfl
      | some x => cases Nat.beq i i' <;> rfl
    · rfl
  | po e cs => cases i <;> rfl
  | _ => rfl

theorem rowOf_child {row : T} {i sz : Nat} {cs : List T} (h : rowOf row i sz = some cs) (j : Nat) (u : T) (hu : cs[j]? = some u) : childT row i j = some u := by
  unfold rowOf rowK at h
  split at h
  · split at h
    · obtain ⟨x, hx, h⟩ := Option.bind_eq_some_iff.mp h
      simp only [Option.some.injEq] at h
      subst h
      simp only [idxN] at hx
      simp only [childT, hx, Option.bind_some, nth_eq]; exact hu
    · cases h
  · split at h
    · simp only [Option.some.injEq] at h; subst h; simpa [childT, nth_eq] using hu
    · cases h
  · split at h
    · simp only [Option.some.injEq] at h; subst h; simpa [childT, nth_eq] using hu
    · cases h
  · split at h
    · rename_i hb
      simp only [Bool.and_eq_true] at hb
      obtain ⟨x, hx, h⟩ := Option.bind_eq_some_iff.mp h
      rcases cond_some h with ⟨hb2, h3⟩ | ⟨_, h3⟩
      · simp only [Option.some.injEq] at h3
        subst h3
        simp only [idxN] at hx
        have hj := (List.getElem?_eq_some_iff.mp hu).1
        have hl := Nat.eq_of_beq_eq_true hb.2
        rw [hl] at hj
        rw [← Nat.blt_eq] at hj
        have hbl := hj
        simp only [childT, hx, Option.bind_some, hbl, hb2, nth_eq]
        exact hu
      · cases h3
    · cases h
  · split at h
    · simp only [Option.some.injEq] at h; subst h; simpa [childT, nth_eq] using hu
    · cases h
  · cases h

theorem rowOf_idx {row : T} {i sz : Nat} {cs : List T} (h : rowOf row i sz = some cs) (j : Nat) (v : Value) (hv : (∀ f e xs, row ≠ .sl f e xs) → (∀ e xs i cs, row ≠ .slo e xs i cs) → offOf v = 0) : row.idx (some v) i j = offOf v + (i * sz + j) ∧ ∀ cs, row ≠ .vr cs := by
  unfold rowOf rowK at h
  split at h
  · split at h
    · rename_i hb
      exact ⟨by simp only [T.idx]; rw [Nat.eq_of_beq_eq_true hb], nofun⟩
    · cases h
  · split at h
    · exact ⟨by rw [hv nofun nofun]; simp [T.idx], nofun⟩
    · cases h
  · split at h
    · exact ⟨by rw [hv nofun nofun]; simp [T.idx], nofun⟩
    · cases h
  · split at h
    · rename_i hb
      simp only [Bool.and_eq_true] at hb
      exact ⟨by simp only [T.idx]; rw [Nat.eq_of_beq_eq_true hb.1], nofun⟩
    · cases h
  · split at h
    · exact ⟨by rw [hv nofun nofun]; simp [T.idx], nofun⟩
    · cases h
  · cases h

theorem at_snoc {r : Nat} {p : Path} {i j : Nat} {row u : T} (hp : x.at r p = some row) (hc : childT row i j = some u) : x.at r (p ++ [(i, j)]) = some u := by
  unfold X.at at hp ⊢
  obtain ⟨rw0, h1, h2⟩ := Option.bind_eq_some_iff.mp hp
  rw [h1, Option.bind_some, getT_append, h2, Option.bind_some]
  simp [getT, hc]

/-- An owned cell, in memory. -/
theorem own_cell (h : RelW B s x a w) {r : Nat} {p : Path} {row u : T} {i j : Nat} (hp : x.at r p = some row) (hc : childT row i j = some u) :
    ∃ y, RepO w s.S u y ((s.Φ r).under (p ++ [(i, j)])) ∧ RowBlk w w row (s.Φ r p) i j y ∧ CellAt w row (s.Φ r p) i j y := by
  have := at_snoc hp hc
  unfold X.at at this hp
  obtain ⟨rw0, h1, h2⟩ := Option.bind_eq_some_iff.mp this
  rw [h1, Option.bind_some] at hp
  obtain ⟨y0, hy0⟩ := h.roots r rw0 h1
  obtain ⟨row', y, g1, g2, g3, g4, g5⟩ := place_cell hy0 h2
  rw [hp] at g1
  simp only [Option.some.injEq] at g1
  subst g1
  exact ⟨y, g3, g4, g5⟩

theorem own_row (h : RelW B s x a w) {r : Nat} {p : Path} {row : T} {i sz : Nat} {cs : List T} (hp : x.at r p = some row) (hr : rowOf row i sz = some cs)
    {y : Value} {b : Nat} (hy : s.Φ r p = some y) (hb : blkOf y = some b) {j : Nat} {u : T} (hu : cs[j]? = some u) :
    ∃ v arr el, w.heap[b]? = some (.cells arr el (0, 0)) ∧ arr[offOf y + (i * sz + j)]? = some v ∧ RepO w s.S u v ((s.Φ r).under (p ++ [(i, j)])) := by
  obtain ⟨v, h1, -, h3⟩ := own_cell h hp (rowOf_child hr j u hu)
  obtain ⟨e1, e2⟩ := rowOf_idx hr j y (fun hns hns2 => by
    have hp' := hp
    unfold X.at at hp'
    obtain ⟨rw0, g1, g2⟩ := Option.bind_eq_some_iff.mp hp'
    obtain ⟨y0, hy0⟩ := h.roots r rw0 g1
    obtain ⟨x', hx'⟩ := getT_own p hy0 g2
    have hy' : ((s.Φ r).under p) [] = some y := by rw [Lay.under_apply_nil]; exact hy
    generalize (s.Φ r).under p = φ at hx' hy'
    cases hx' with
    | sh => simp [noLay] at hy'
    | nil => exact absurd rfl (hns _ _ _)
    | sl => exact absurd rfl (hns _ _ _)
    | slo => exact absurd rfl (hns2 _ _ _ _)
    | box _ cs ht b arr el vs φ hb hsz hc hr h0 => rw [h0, Option.some.injEq] at hy'; subst hy'; rfl
    | vr cs _ vs φ hr h0 => rw [h0] at hy'; cases hy')
  rcases h3 with ⟨cs', e⟩ | ⟨b', arr, el, g1, g2, g3⟩
  · exact absurd e (e2 cs')
  · rw [hy, Option.bind_some, hb] at g1
    simp only [Option.some.injEq] at g1
    subst g1
    rw [hy] at g3
    exact ⟨v, arr, el, g2, by rw [← e1]; exact g3, h1⟩

/-! ### loading -/
def viewsFrom (r : Nat) (p : Path) (i : Nat) : Nat → List T → List C
  | _, [] => []
  | j, t :: ts => viewC r (app p [(i, j)]) t :: viewsFrom r p i (j + 1) ts

theorem length_viewsFrom (r : Nat) (p : Path) (i j : Nat) (ts : List T) : (viewsFrom r p i j ts).length = ts.length := by
  induction ts generalizing j with
  | nil => rfl
  | cons t ts ih => simp [viewsFrom, ih]

theorem get_viewsFrom (r : Nat) (p : Path) (i j : Nat) (ts : List T) (k : Nat) : (viewsFrom r p i j ts)[k]? = (ts[k]?).map fun t => viewC r (p ++ [(i, j + k)]) t := by
  induction ts generalizing j k with
  | nil => simp [viewsFrom]
  | cons t ts ih =>
    cases k with
    | zero => simp [viewsFrom, app_eq]
    | succ k => simp only [viewsFrom, List.getElem?_cons_succ, ih]; congr 4; funext; congr 4; omega

def takeN {β : Type} : Nat → List β → Option (List β)
  | 0, _ => some []
  | _ + 1, [] => none
  | n + 1, b :: l => (takeN n l).map (b :: ·)
def dropN {β : Type} : Nat → List β → List β
  | 0, l => l
  | _ + 1, [] => []
  | n + 1, _ :: l => dropN n l

theorem takeN_some {β : Type} : ∀ {n : Nat} {l m : List β}, takeN n l = some m → m = l.take n ∧ n ≤ l.length
  | 0, l, m, h => by simp [takeN] at h; simp [h]
  | n + 1, [], m, h => by simp [takeN] at h
  | n + 1, b :: l, m, h => by
    simp only [takeN, Option.map_eq_some_iff] at h
    obtain ⟨m', h1, rfl⟩ := h
    obtain ⟨h2, h3⟩ := takeN_some h1
    exact ⟨by simp [h2], by simpa using h3⟩
theorem dropN_eq {β : Type} : ∀ (n : Nat) (l : List β), dropN n l = l.drop n
  | 0, l => by simp [dropN]
  | n + 1, [] => by simp [dropN]
  | n + 1, b :: l => by simp [dropN, dropN_eq n l]

/-- So many cells from one on. -/
def part {β : Type} (j n : Nat) (l : List β) : Option (List β) := takeN n (dropN j l)
theorem part_some {β : Type} {j n : Nat} {l m : List β} (h : part j n l = some m) : m.length = n ∧ ∀ k b, m[k]? = some b → k < n ∧ l[j + k]? = some b := by
  obtain ⟨h1, h2⟩ := takeN_some h
  rw [dropN_eq] at h1 h2
  subst h1
  refine ⟨by simp only [List.length_take]; omega, fun k b hk => ?_⟩
  simp only [List.getElem?_take, List.getElem?_drop] at hk
  split at hk
  · rename_i hlt; exact ⟨hlt, hk⟩
  · cases hk

def loadCsK (x : X) (pcell : C) (n : Nat) (K : List C → Option α) : Option α := match pcell with
  | .pt r p i j sz => atK x r p fun t => rowK t i sz fun cs => (part j n cs).bind fun l => K (viewsFrom r p i j l)
  | .rq _ cs j => (part j n cs).bind fun l => K (mapL C.k l)
  | .k t => (t.shBox?).bind fun fc => (part 0 n fc.2).bind fun l => K (mapL C.k l)
  | _ => none

theorem Lawful.row (t : T) (i sz : Nat) : Lawful fun _ K => rowK t i sz K := by
  intro α K
  show rowK t i sz K = (rowK t i sz some).bind K
  rw [rowK_eq, rowK_eq]
  cases rowOf t i sz <;> rfl

theorem Lawful.loadCs (x : X) (pcell : C) (n : Nat) : Lawful fun _ K => loadCsK x pcell n K := by
  unfold loadCsK
  cases pcell with
  | pt r p i j sz => exact .comp (.at x r p) fun t => .comp (.row t i sz) fun cs => .bind _ fun l => .pure _
  | rq f cs j => exact .bind _ fun l => .pure _
  | k t => exact .bind _ fun fc => .bind _ fun l => .pure _
  | _ => exact .none

theorem shBox_rep {t : T} {v : Value} {f : Fl} {cs : List T} (h : RepR w s.S t v) (hb : t.shBox? = some (f, cs)) : RepC w s (.rq f cs 0) v := by
  cases h with
  | box _ f' cs' hb' b off vs hR hc hr =>
    rw [hb] at hb'
    simp only [Option.some.injEq, Prod.mk.injEq] at hb'
    obtain ⟨rfl, rfl⟩ := hb'
    have := RepC.rq (w := w) (s := s) f cs 0 b off vs hR hc hr
    simpa using this
  | _ => simp [T.shBox?] at hb

theorem loadCs_sound (h : RelW B s x a w) {pcell : C} {v : Value} (hv : RepC w s pcell v) {n : Nat} {K : List C → Option α} {r : α} (hl : loadCsK x pcell n K = some r) :
    ∃ cs b o, K cs = some r ∧ v = .pointer (some ⟨b, o, none⟩) ∧ cs.length = n ∧ ∀ (j : Nat) y, cs[j]? = some y → ∃ u, w.cell? ⟨b, o + j, none⟩ = some u ∧ RepC w s y u := by
  have rqcase : ∀ f cs j, RepC w s (.rq f cs j) v → ((part j n cs).bind fun l => K (mapL C.k l)) = some r →
      ∃ cs b o, K cs = some r ∧ v = .pointer (some ⟨b, o, none⟩) ∧ cs.length = n ∧ ∀ (j : Nat) y, cs[j]? = some y → ∃ u, w.cell? ⟨b, o + j, none⟩ = some u ∧ RepC w s y u := by
    intro f cs0 j hv hl
    obtain ⟨l, hl1, hl2⟩ := Option.bind_eq_some_iff.mp hl
    obtain ⟨hn, hg⟩ := part_some hl1
    cases hv with
    | rq _ _ _ b off vs hR hc hr =>
      refine ⟨_, b, off + j, hl2, rfl, by rw [mapL_eq]; simpa using hn, fun k y hk => ?_⟩
      rw [mapL_eq, List.getElem?_map] at hk
      obtain ⟨u, hu, rfl⟩ := Option.map_eq_some_iff.mp hk
      have hu' := (hg k u hu).2
      exact ⟨vs (j + k), by rw [← hc _ u hu', Nat.add_assoc], .k _ _ (hr _ u hu')⟩
  cases pcell with
  | pt r0 p i j sz =>
    cases hv with
    | pt _ _ _ _ _ x0 b hΦ hb =>
      simp only [loadCsK] at hl
      obtain ⟨row, h1, hl⟩ := atK_some hl
      rw [rowK_eq] at hl
      obtain ⟨cs0, h2, hl⟩ := Option.bind_eq_some_iff.mp hl
      obtain ⟨l, h3, hl⟩ := Option.bind_eq_some_iff.mp hl
      obtain ⟨hn, hg⟩ := part_some h3
      refine ⟨_, b, offOf x0 + (i * sz + j), hl, rfl, by rw [length_viewsFrom]; exact hn, fun k y hk => ?_⟩
      rw [get_viewsFrom] at hk
      obtain ⟨u, hu, rfl⟩ := Option.map_eq_some_iff.mp hk
      obtain ⟨v', arr, el, g1, g2, g3⟩ := own_row h h1 h2 hΦ hb (hg k u hu).2
      refine ⟨v', ?_, view_own g3 rfl⟩
      rw [cell?_of_cells g1, Nat.add_assoc, Nat.add_assoc]; exact g2
  | rq f cs j => exact rqcase f cs j hv hl
  | k t =>
    simp only [loadCsK] at hl
    obtain ⟨⟨f, cs⟩, h1, hl⟩ := Option.bind_eq_some_iff.mp hl
    cases hv with
    | k _ _ hv => exact rqcase f cs 0 (shBox_rep hv h1) hl
  | _ => simp [loadCsK] at hl

/-- A variable's value. -/
def loadK (cx : Ctx) (x : X) (t : TypeId) (d : D) (K : D → Option α) : Option α := (look cx.Ty t).bind fun i => match d with
  | .v (.c pcell) => match i.d.isAgg with
    | true => loadCsK x pcell i.size fun cs => K (.v (.ag cs))
    | false => loadCsK x pcell 1 fun cs => match cs with
      | [y] => K (.v (.c y))
      | _ => none
  | _ => none

theorem Lawful.load (cx : Ctx) (x : X) (t : TypeId) (d : D) : Lawful fun _ K => loadK cx x t d K := by
  unfold loadK
  refine .bind _ fun i => ?_
  split
  · split
    · exact .comp (.loadCs _ _ _) fun cs => .pure _
    · exact .comp (.loadCs _ _ _) fun cs => by
        split
        · exact .pure _
        · exact .none
  · exact .none

theorem addr_add (b o j : Nat) : (⟨b, o, none⟩ : Addr).add j = ⟨b, o + j, none⟩ := by
  unfold Addr.add; split <;> simp_all

theorem load_sound (h : RelW B s x a w) {d : D} {v : Value} (hv : RepD w s d v) {t : TypeId} {K : D → Option α} {r : α} (hl : loadK c x t d K = some r) :
    ∃ e u, K e = some r ∧ (Instr.loadAt t v).run c.P w = .ok u w ∧ RepD w s e u := by
  unfold loadK at hl
  obtain ⟨i, e, hl⟩ := Option.bind_eq_some_iff.mp hl
  have hok := c.hTy t i e
  split at hl
  · rename_i y
    cases hv with
    | v _ _ hv => cases hv with
      | c _ _ hv =>
        cases ha : i.d.isAgg with
        | true =>
          rw [ha] at hl
          obtain ⟨cs, b, o, hK, rfl, hn, hcs⟩ := loadCs_sound h hv hl
          have hex : ∃ us : List Value, us.length = i.size ∧ ∀ (j : Nat) y, cs[j]? = some y → ∃ u, us[j]? = some u ∧ w.cell? ⟨b, o + j, none⟩ = some u ∧ RepC w s y u := by
            refine ⟨(List.range i.size).map fun j => (w.cell? ⟨b, o + j, none⟩).getD undef, by simp, fun j y hj => ?_⟩
            obtain ⟨u, h1, h2⟩ := hcs j y hj
            have hlt : j < i.size := by rw [← hn]; exact (List.getElem?_eq_some_iff.mp hj).1
            exact ⟨u, by simp [hlt, h1], h1, h2⟩
          obtain ⟨us, hus, hall⟩ := hex
          refine ⟨_, .agg us.toArray, hK, ?_, .v _ _ (.ag cs us.toArray (by simp [hus, hn]) (fun j y hj => ?_))⟩
          · have := run_loadCells_list (P := c.P) w ⟨b, o, none⟩ us (fun j u hj => by
              have hlt : j < cs.length := by rw [hn, ← hus]; exact (List.getElem?_eq_some_iff.mp hj).1
              obtain ⟨u', h1, h2, _⟩ := hall j cs[j] (List.getElem?_eq_getElem hlt)
              rw [hj, Option.some.injEq] at h1
              subst h1
              rw [addr_add]; exact h2)
            rw [hus] at this
            simp only [Instr.loadAt, Instr.sureAddr, loadVar, Sem.run_bind, Sem.run_pure, Result.andThen_ok, hok.run_isAgg, ha, Sem.run_ite, if_true, hok.run_sizeOf, this]
          · obtain ⟨u, h1, _, h3⟩ := hall j y hj
            exact ⟨u, by simpa using h1, h3⟩
        | false =>
          rw [ha] at hl
          obtain ⟨cs, b, o, hK, rfl, hn, hcs⟩ := loadCs_sound h hv hl
          split at hK
          · rename_i y'
            obtain ⟨u, h1, h2⟩ := hcs 0 y' rfl
            refine ⟨_, u, hK, ?_, .v _ _ (.c _ _ h2)⟩
            simp only [Nat.add_zero] at h1
            simp only [Instr.loadAt, Instr.sureAddr, loadVar, Sem.run_bind, Sem.run_pure, Result.andThen_ok, hok.run_isAgg, ha, Sem.run_ite, Bool.false_eq_true, if_false, run_load, h1]
          · cases hK
  · cases hl

end ops
end Go.V
