/- The laws of a store: a transaction's end, a crash. -/
import Derived.Test.YtmiibfolfflbmaaDoorHrLaws
namespace Go.Hr
open Go.RowKit Go.Proofs Go.V

theorem fold_none {t : Txn} {yes : Bool} : ∀ (bs : List Lock) (l : List Item), (∀ b ∈ bs, b.1 ≠ t) → bs.foldl (stepI t yes) l = l
  | [], l, _ => rfl
  | b :: bs, l, h => by
    rw [List.foldl_cons]
    have : stepI t yes l b = l := by
      unfold stepI
      rw [decide_eq_false (h b List.mem_cons_self)]; rfl
    rw [this]
    exact fold_none bs l fun y hy => h y (List.mem_cons_of_mem _ hy)

theorem filter_none {l : List Lock} {t : Txn} (h : ∀ b ∈ l, b.1 ≠ t) : l.filter (fun x => !isT t x) = l := by
  rw [List.filter_eq_self]
  intro x hx
  unfold isT
  rw [decide_eq_false (h x hx)]; rfl

theorem end_again {s : Sto} {t : Txn} {yes : Bool} (b : Bool) : endR (endR s t yes) t b = endR s t yes := by
  have h1 : ∀ y ∈ (endR s t yes).2.1, y.1 ≠ t := fun y hy e => by
    have := (List.mem_filter.1 hy).2
    unfold isT at this
    rw [decide_eq_true e] at this
    cases this
  have h2 : endItems (endR s t yes) t b = (endR s t yes).1 := fold_none _ _ h1
  have h3 : (endR s t yes).2.2.1.filter (fun x => !isD t x) = (endR s t yes).2.2.1 := by
    show (List.filter _ (List.filter _ _)) = _
    rw [List.filter_filter]
    simp only [Bool.and_self]
    rfl
  have h4 : overWith (endR s t yes).2.2.2 t = (endR s t yes).2.2.2 := by
    have : t ∈ (endR s t yes).2.2.2 := overWith_mem.2 (.inr rfl)
    unfold overWith
    rw [over_any' this]; rfl
  show (endItems (endR s t yes) t b, (endR s t yes).2.1.filter _, (endR s t yes).2.2.1.filter _, overWith (endR s t yes).2.2.2 t) = _
  rw [h2, h3, h4, filter_none h1]

theorem lock_dec (x y : Lock) : ((decide (x.1.1 = y.1.1) && (decide (x.1.2 = y.1.2) && true)) && (decide (x.2.1 = y.2.1) && (decide (x.2.2.1 = y.2.2.1) && (decide (x.2.2.2.1 = y.2.2.2.1) && (decide (x.2.2.2.2 = y.2.2.2.2) && true))))) = decide (x = y) := by
  rw [Bool.eq_iff_iff]
  simp [Prod.ext_iff, and_assoc]

/-! ### a crash -/
def hasL (l : List Lock) (d : Doubt) : Bool := l.any fun x => decide (x.1 = d.1)
def young (d : Doubt) : Doubt := (d.1, 0)

/-- What a crash leaves. -/
def forgetR (s : Sto) : Sto := (s.1, s.2.1.filter (fun x => x.2.2.1), (s.2.2.1.filter (hasL (s.2.1.filter fun x => x.2.2.1))).map young, s.2.2.2)

def noW (x : Lock) : Bool := !x.2.2.1

abbrev Half := Unit × (Unit × ((List Item × (Unit × (List Doubt × List Txn))) × List Lock))

def noL (l : List Lock) (d : Doubt) : Bool := !hasL l d

theorem not_noW (l : List Lock) : l.filter (fun x => !noW x) = l.filter (fun x => x.2.2.1) := by
  congr 1
  funext x
  unfold noW
  rw [Bool.not_not]

theorem not_noL (ls : List Lock) (l : List Doubt) : l.filter (fun x => !noL ls x) = l.filter (hasL ls) := by
  congr 1
  funext x
  unfold noL
  rw [Bool.not_not]

theorem forget_ok {s : Sto} (h : StoreOk s) : StoreOk (forgetR s) := by
  refine cut_ok h ⟨h.sorted, fun x hx => by have := h.item x hx; omega⟩ (fun d => ⟨rfl, .inr rfl⟩) (fun x hx d hd e hp => ?_) (fun d hd hq => ?_) h.over h.ends (fun d hd _ => (h.doubt d hd).2.2.2) h.short.over
  · unfold hasL
    rw [List.any_eq_true]
    exact ⟨x, List.mem_filter.2 ⟨hx, hp⟩, decide_eq_true e.symm⟩
  · unfold hasL at hq
    rw [List.any_eq_true] at hq
    obtain ⟨x, x1, x2⟩ := hq
    obtain ⟨x3, x4⟩ := List.mem_filter.1 x1
    exact ⟨x, x3, of_decide_eq_true x2, x4⟩

theorem filter_upto {l : List Lock} {p : Lock → Bool} {i : Nat} {x : Lock} (hx : l[i]? = some x) (hp : p x = true) : (l.filter p)[((l.take i).filter p).length]? = some x := by
  have hlt := (List.getElem?_eq_some_iff.mp hx).1
  have hd : l.drop i = x :: l.drop (i + 1) := by rw [List.drop_eq_getElem_cons hlt, (List.getElem?_eq_some_iff.mp hx).2]
  conv => lhs; rw [← List.take_append_drop i l]
  rw [List.take_append_drop i l]
  have : l.filter p = (l.take i).filter p ++ x :: (l.drop (i + 1)).filter p := by
    conv => lhs; rw [← List.take_append_drop i l, List.filter_append, hd, List.filter_cons, if_pos hp]
  rw [this, List.getElem?_append_right (Nat.le_refl _), Nat.sub_self]; rfl

end Go.Hr
