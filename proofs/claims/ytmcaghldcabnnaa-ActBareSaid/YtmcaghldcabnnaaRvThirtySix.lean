/- A law's arguments as typed data, and its answer. -/
import Derived.Test.YtmcaghldcabnnaaRvFortyThree
import Derived.Carry
import Derived.ChangeArms
import Derived.ChangeSlices
import Derived.SizedLaws
namespace Go.V
open Go.RowKit Go.ChangeShapes

/-! ### types of arguments -/
def fieldsB (g : TypeId → Ty → Bool) : Nat → List Field → Ty → Bool
  | _, [], e => match e with
    | .unit => true
    | _ => false
  | off, f :: fs, e => match fs with
    | [] => and (Nat.beq f.offset off) (g f.type e)
    | _ :: _ => match e with
      | .pair a b => and (Nat.beq f.offset off) (and (g f.type a) (fieldsB g (off + a.size) fs b))
      | _ => false

/-- The type is this one. -/
def fitsB (P : Program) : Nat → TypeId → Ty → Bool
  | 0, _, _ => false
  | n + 1, t, e => and (Nat.beq (P.cellsOf t) e.size) (match P.underlying t with
    | some (.int k) => match e with
      | .int k' => kindEq k k'
      | _ => false
    | some .bool => match e with
      | .bool => true
      | _ => false
    | some .string => match e with
      | .str => true
      | _ => false
    | some (.slice t') => match e with
      | .sl e' => and (and (Nat.ble 1 e'.size) (Nat.ble 1 (P.bytesOf t'))) (fitsB P n t' e')
      | _ => false
    | some (.struct fs) => fieldsB (fitsB P n) 0 fs.toList e
    | _ => false)

def okL {β : Type} (m : Nat) (p : β → Prop) (xs : List β) : Prop := xs.length ≤ m ∧ ∀ x ∈ xs, p x

/-- What data of a type may be. -/
def okD : (e : Ty) → den e → Prop
  | .int k, n => (Lit.int k n).wf = true
  | .str, l => l.length ≤ maxLen
  | .sl e, xs => okL maxLen (okD e) xs
  | .rsl e, xs => okL maxLen (okD e) xs
  | .ptr e, d => okD e d
  | .pair a b, d => okD a d.1 ∧ okD b d.2
  | _, _ => True

/-- How long a slice is. -/
def lenD : (e : Ty) → den e → Nat
  | .sl _, xs => xs.length
  | _, _ => 0

def isSl (P : Program) (t : TypeId) : Bool := match P.underlying t with
  | some (.slice _) => true
  | _ => false

def oldS (w : World) : Fl → Nat → Prop := fun f b => f = .bo ∧ b < w.heap.size

section
variable {H : Type} {enc : TypeId × Value → H} {P : Program} {w : World} {base : Nat} {spare : Nat → Bool} {held : Bool}

/-- Cells that hold typed data. -/
def HasD (w : World) (e : Ty) (cs : List Value) (d : den e) : Prop := okD e d ∧ ∀ (j : Nat) t, (cells .bo e d)[j]? = some t → ∃ u, cs[j]? = some u ∧ RepR w (oldS w) t u

theorem fields_has {g : TypeId → Ty → Bool} {n : Nat} {cs : List Value}
    (hg : ∀ t e, g t e = true → ∀ cs' x, DataW.trod enc P w base spare held n t cs' = some x → P.cellsOf t = e.size ∧ cs'.length = e.size ∧ ∃ d, HasD w e cs' d)  :
    ∀ (fs : List Field) (off : Nat) (e : Ty), fieldsB g off fs e = true → (∀ f ∈ fs, ∃ x, DataW.trod enc P w base spare held n f.type ((cs.drop f.offset).take (P.cellsOf f.type)) = some x) →
      ∃ d : den e, okD e d ∧ ∀ (j : Nat) t, (cells .bo e d)[j]? = some t → ∃ u, cs[off + j]? = some u ∧ RepR w (oldS w) t u := by
  intro fs
  induction fs with
  | nil =>
    intro off e he _
    cases e <;> simp [fieldsB] at he
    exact ⟨(), trivial, fun j t h => by simp [cells] at h⟩
  | cons f fs ih =>
    intro off e he hx
    obtain ⟨x, hx0⟩ := hx f List.mem_cons_self
    have at_ : ∀ {a : Ty} {d : den a}, f.offset = off → P.cellsOf f.type = a.size → HasD w a ((cs.drop f.offset).take (P.cellsOf f.type)) d → ∀ (j : Nat) t, (cells .bo a d)[j]? = some t → ∃ u, cs[off + j]? = some u ∧ RepR w (oldS w) t u := by
      intro a d ho hc hd j t ht
      obtain ⟨u, h1, h2⟩ := hd.2 j t ht
      have hj : j < a.size := by have := (List.getElem?_eq_some_iff.mp ht).1; rwa [length_cells] at this
      rw [List.getElem?_take, if_pos (by omega), List.getElem?_drop, ho] at h1
      exact ⟨u, h1, h2⟩
    cases fs with
    | nil =>
      simp only [fieldsB, Bool.and_eq_true] at he
      have ho := Nat.eq_of_beq_eq_true he.1
      obtain ⟨hc, -, d, hd⟩ := hg _ _ he.2 _ _ hx0
      exact ⟨d, hd.1, at_ ho hc hd⟩
    | cons f' fs' =>
      cases e with
      | pair a b =>
        simp only [fieldsB, Bool.and_eq_true] at he
        have ho := Nat.eq_of_beq_eq_true he.1
        obtain ⟨hc, -, d, hd⟩ := hg _ _ he.2.1 _ _ hx0
        obtain ⟨d', hd1, hd2⟩ := ih (off + a.size) b he.2.2 (fun f hf => hx f (List.mem_cons_of_mem _ hf))
        refine ⟨(d, d'), ⟨hd.1, hd1⟩, fun j t ht => ?_⟩
        simp only [cells, app_eq] at ht
        by_cases hj : j < a.size
        · rw [List.getElem?_append_left (by rw [length_cells]; exact hj)] at ht
          exact at_ ho hc hd j t ht
        · rw [List.getElem?_append_right (by rw [length_cells]; omega), length_cells] at ht
          obtain ⟨u, h1, h2⟩ := hd2 _ t ht
          exact ⟨u, by rw [show off + j = off + a.size + (j - a.size) by omega]; exact h1, h2⟩
      | _ => simp [fieldsB] at he

theorem pick_all {β γ : Type} {R : Nat → γ → Prop} : ∀ (n : Nat), (∀ i, i < n → ∃ d, R i d) → ∃ xs : List γ, xs.length = n ∧ ∀ i d, xs[i]? = some d → R i d
  | 0, _ => ⟨[], rfl, fun i d h => by simp at h⟩
  | n + 1, h => by
    obtain ⟨xs, h1, h2⟩ := pick_all (β := β) n (fun i hi => h i (by omega))
    obtain ⟨d, hd⟩ := h n (by omega)
    refine ⟨xs ++ [d], by simp [h1], fun i d' hi => ?_⟩
    by_cases e : i < n
    · rw [List.getElem?_append_left (by omega)] at hi; exact h2 i d' hi
    · have hlt := (List.getElem?_eq_some_iff.mp hi).1
      simp [h1] at hlt
      have : i = n := by omega
      subst this
      rw [List.getElem?_append_right (by omega), h1] at hi
      simp at hi
      subst hi; exact hd

theorem trod_has : ∀ (n : Nat) (t : TypeId) (e : Ty), fitsB P n t e = true → ∀ (fuel : Nat) (cs : List Value) (x : DataW H × List MemPlace), DataW.trod enc P w base spare held fuel t cs = some x →
    P.cellsOf t = e.size ∧ cs.length = e.size ∧ ∃ d, HasD w e cs d ∧ (isSl P t = true → (∀ n ∈ x.1.weights P t, n ≤ reachBytes) → lenD e d ≤ reachBytes) := by
  intro n
  induction n with
  | zero => intro t e h; cases h
  | succ n ih =>
    intro t e h fuel cs x hx
    unfold fitsB at h
    simp only [Bool.and_eq_true] at h
    obtain ⟨hc, h⟩ := h
    have hc := Nat.eq_of_beq_eq_true hc
    refine ⟨hc, ?_⟩
    have one : ∀ {e : Ty} {d : den e} {u : Value}, e.size = 1 → okD e d → (∀ t, (cells .bo e d)[0]? = some t → RepR w (oldS w) t u) → HasD w e [u] d := by
      intro e d u hs ho hr
      refine ⟨ho, fun j t ht => ?_⟩
      have := (List.getElem?_eq_some_iff.mp ht).1
      rw [length_cells, hs] at this
      have : j = 0 := by omega
      subst this
      exact ⟨u, rfl, hr t ht⟩
    split at h
    · rename_i k hu
      cases e <;> simp at h
      rw [← kindEq_eq h]
      obtain ⟨n, rfl, -, hw⟩ := DataW.trod_int hu hx
      refine ⟨rfl, n, one rfl hw (fun t ht => ?_), fun _ _ => Nat.zero_le _⟩
      simp only [cells, List.getElem?_cons_zero, Option.some.injEq] at ht
      subst ht; exact .v _ rfl
    · rename_i hu
      cases e <;> simp at h
      obtain ⟨b, rfl, -⟩ := DataW.trod_bool hu hx
      refine ⟨rfl, b, one rfl trivial (fun t ht => ?_), fun _ _ => Nat.zero_le _⟩
      simp only [cells, List.getElem?_cons_zero, Option.some.injEq] at ht
      subst ht; exact .v _ rfl
    · rename_i hu
      cases e <;> simp at h
      obtain ⟨s, rfl, -, hs⟩ := DataW.trod_string hu hx
      refine ⟨rfl, s.data.toList, one rfl (by simpa [okD] using hs) (fun t ht => ?_), fun _ _ => Nat.zero_le _⟩
      simp only [cells, List.getElem?_cons_zero, Option.some.injEq] at ht
      subst ht; exact .v _ rfl
    · rename_i t' hu
      cases e with
      | sl e' =>
        simp only [Bool.and_eq_true] at h
        obtain ⟨⟨h1, hby⟩, h2⟩ := h
        have h1 := Nat.le_of_ble_eq_true h1
        have hby := Nat.le_of_ble_eq_true hby
        rcases DataW.trod_slice hu hx with ⟨rfl, -⟩ | ⟨a, len, cap, elems, rest, m, -, rfl, hxe, hb, hl, hm, hlen, hel, -, -⟩
        · refine ⟨rfl, [], one rfl ⟨Nat.zero_le _, fun x hx => by simp at hx⟩ (fun t ht => ?_), fun _ _ => Nat.zero_le _⟩
          simp only [cells, List.getElem?_cons_zero, Option.some.injEq] at ht
          subst ht; exact .nil _ _ _ _
        · have each : ∀ i, i < len → ∃ d : den e', okD e' d ∧ ∀ (j : Nat) t, (cells .bo e' d)[j]? = some t → ∃ u, w.cell? (a.add (i * e'.size + j)) = some u ∧ RepR w (oldS w) t u := by
            intro i hi
            have hi' := hel i hi
            rw [List.getElem?_eq_getElem (by omega)] at hi'
            obtain ⟨cs', k1, k2⟩ := Option.bind_eq_some_iff.mp hi'
            obtain ⟨c1, c2, d, ⟨hd1, hd2⟩, -⟩ := ih t' e' h2 m cs' _ k2
            refine ⟨d, hd1, fun j t ht => ?_⟩
            obtain ⟨u, u1, u2⟩ := hd2 j t ht
            have hj : j < e'.size := by have := (List.getElem?_eq_some_iff.mp ht).1; rwa [length_cells] at this
            obtain ⟨-, -, g3⟩ := World.cells?_some k1
            have := g3 j (by omega)
            rw [u1, c1] at this
            refine ⟨u, ?_, u2⟩
            rw [← this]
            congr 1
            by_cases hz : i * e'.size = 0
            · simp [Addr.add, hz]
            · by_cases hj0 : j = 0
              · subst hj0; simp [Addr.add]
              · simp only [Addr.add, hz, hj0, if_false]
                rw [if_neg (by omega), Nat.add_assoc]
          obtain ⟨xs, hxl, hxs⟩ := pick_all (β := Unit) len each
          refine ⟨rfl, xs, one rfl ⟨by omega, fun x hx => ?_⟩ (fun t ht => ?_), fun _ hz => ?_⟩
          rotate_left 2
          · have h9 := hz ((elems.length + rest.length) * P.bytesOf t') (by rw [hxe]; simp [DataW.weights, hu])
            have h8 : elems.length + rest.length ≤ (elems.length + rest.length) * P.bytesOf t' := Nat.le_mul_of_pos_right _ hby
            show xs.length ≤ reachBytes
            omega
          · obtain ⟨i, hi⟩ := List.getElem?_of_mem hx
            exact (hxs i x hi).1
          · simp only [cells, List.getElem?_cons_zero, Option.some.injEq] at ht
            subst ht
            cases hxs0 : xs with
            | nil =>
              rw [hxs0] at hxl
              simp only [List.length_nil] at hxl
              subst hxl
              exact .nil _ _ _ _
            | cons x0 xs0 =>
              rw [← hxs0]
              have h0 : xs[0]? = some x0 := by rw [hxs0]; rfl
              obtain ⟨-, hc0⟩ := hxs 0 x0 h0
              have hl0 : 0 < (cells .bo e' x0).length := by rw [length_cells]; omega
              obtain ⟨u0, hu0, -⟩ := hc0 0 _ (List.getElem?_eq_getElem hl0)
              rw [Nat.zero_mul, Nat.add_zero] at hu0
              have ha : a.add 0 = a := by simp [Addr.add]
              rw [ha] at hu0
              obtain ⟨b, off, spot⟩ := a
              have hspot : spot = none := by
                unfold World.cell? at hu0
                split at hu0
                · split at hu0
                  · cases hu0
                  · rename_i hsp
                    cases spot with
                    | none => rfl
                    | some z => exact absurd rfl hsp
                · cases hu0
              subst hspot
              have hblt : b < w.heap.size := World.block_lt_of_cell? w _ hu0
              have hcell : ∀ i j t, cellOf (rows .bo e' xs) i j = some t → ∃ u, w.cell? ⟨b, off + i * e'.size + j, none⟩ = some u ∧ RepR w (oldS w) t u := by
                intro i j t ht
                rw [cellOf_rows] at ht
                obtain ⟨d, d1, d2⟩ := Option.bind_eq_some_iff.mp ht
                rw [nth_eq] at d2
                obtain ⟨u, v1, v2⟩ := (hxs i d d1).2 j t d2
                refine ⟨u, ?_, v2⟩
                rw [← v1]
                congr 1
                unfold Addr.add
                split
                · rename_i hz; rw [Nat.add_assoc, hz]; rfl
                · rw [Nat.add_assoc]
              rw [← hxl]
              refine .sl _ _ xs b off cap (fun i j => (w.cell? ⟨b, off + i * e'.size + j, none⟩).getD .nilIface) ⟨rfl, hblt⟩ (by omega) (fun i j t ht => ?_) (fun i j t ht => ?_)
              · obtain ⟨u, v1, -⟩ := hcell i j t ht
                rw [v1]; rfl
              · obtain ⟨u, v1, v2⟩ := hcell i j t ht
                rw [v1]; exact v2
      | _ => simp at h
    · rename_i fs hu
      obtain ⟨xs, m, -, -, hl, hlen, hall⟩ := DataW.trod_struct hu hx
      refine ⟨hl.trans hc, ?_⟩
      obtain ⟨d, hd1, hd2⟩ := fields_has (enc := enc) (P := P) (w := w) (base := base) (spare := spare) (held := held) (g := fitsB P n) (n := m) (cs := cs) (fun t e ht cs' x hx => by
        obtain ⟨g1, g2, d, g3, -⟩ := ih t e ht m cs' x hx
        exact ⟨g1, g2, d, g3⟩) fs.toList 0 e h (fun f hf => by
        obtain ⟨i, hi⟩ := List.getElem?_of_mem hf
        have hi : fs[i]? = some f := by simpa using hi
        have := hall i f hi
        have hlt : i < xs.length := by rw [hlen]; exact (Array.getElem?_eq_some_iff.mp hi).1
        rw [List.getElem?_eq_getElem hlt] at this
        exact ⟨_, this⟩)
      refine ⟨d, ⟨hd1, fun j t ht => ?_⟩, fun hsl _ => ?_⟩
      · have := hd2 j t ht
        rwa [Nat.zero_add] at this
      · unfold isSl at hsl
        rw [hu] at hsl; cases hsl
    · cases h

end
end Go.V
