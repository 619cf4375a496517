/- Appending, as the machine does it. -/
import Derived.Test.YtmcaghldcabnnaaRvFourteen
namespace Go.V
open Go.RowKit

/-! ### rows, as values that lie one behind the other -/
structure RowsAt (w : World) (S : Fl → Nat → Prop) (e : Ty) (xs : List (den e)) (us : List Value) (χ : Lay) : Prop where
  len : us.length = xs.length * e.size
  get : ∀ i j t, cellOf (rows .own e xs) i j = some t → ∃ u, us[i * e.size + j]? = some u ∧ RepO w S t u (χ.at i j)
  out : ∀ i j, cellOf (rows .own e xs) i j = none → χ.at i j = noLay

def catLay (n : Nat) (φ χ : Lay) : Lay := fun q => match q with
  | [] => none
  | (i, j) :: q => if i < n then φ ((i, j) :: q) else χ ((i - n, j) :: q)

theorem catLay_some {n : Nat} {φ χ : Lay} {q : Path} {y : Value} (h : catLay n φ χ q = some y) :
    (∃ i j q', q = (i, j) :: q' ∧ i < n ∧ φ q = some y) ∨ (∃ i j q', q = (i, j) :: q' ∧ n ≤ i ∧ χ ((i - n, j) :: q') = some y) := by
  cases q with
  | nil => cases h
  | cons c0 q =>
    obtain ⟨i, j⟩ := c0
    simp only [catLay] at h
    split at h
    · exact .inl ⟨i, j, q, rfl, by assumption, h⟩
    · exact .inr ⟨i, j, q, rfl, by omega, h⟩

theorem cellOf_append {e : Ty} {xs ys : List (den e)} {i j : Nat} : cellOf (rows .own e (xs ++ ys)) i j = if i < xs.length then cellOf (rows .own e xs) i j else cellOf (rows .own e ys) (i - xs.length) j := by
  simp only [cellOf_rows, List.getElem?_append]
  split <;> rfl

section
variable {c : Ctx} {B : Base} {s : Sit} {x : X} {a : Act} {w : World}

theorem RowsAt.append {S : Fl → Nat → Prop} {e : Ty} {xs ys : List (den e)} {os us : List Value} {φ χ : Lay} (h1 : RowsAt w S e xs os φ) (h2 : RowsAt w S e ys us χ) :
    RowsAt w S e (xs ++ ys) (os ++ us) (catLay xs.length φ χ) := by
  have hat : ∀ i j, (catLay xs.length φ χ).at i j = if i < xs.length then φ.at i j else χ.at (i - xs.length) j := by
    intro i j; funext q; simp only [Lay.at, catLay]; split <;> rfl
  refine ⟨by simp [h1.len, h2.len, Nat.add_mul], fun i j t e' => ?_, fun i j e' => ?_⟩
  · rw [cellOf_append] at e'
    rw [hat]
    split at e'
    · rename_i hi
      obtain ⟨u, g1, g2⟩ := h1.get i j t e'
      rw [if_pos hi]
      exact ⟨u, by rw [List.getElem?_append_left (List.getElem?_eq_some_iff.mp g1).1]; exact g1, g2⟩
    · rename_i hi
      obtain ⟨u, g1, g2⟩ := h2.get _ j t e'
      rw [if_neg hi]
      have e2 : i * e.size + j = os.length + ((i - xs.length) * e.size + j) := by
        rw [h1.len, ← Nat.add_assoc, ← Nat.add_mul]; congr 2; omega
      exact ⟨u, by rw [e2, List.getElem?_append_right (by omega), Nat.add_sub_cancel_left]; exact g1, g2⟩
  · rw [cellOf_append] at e'
    rw [hat]
    split at e'
    · rename_i hi; rw [if_pos hi]; exact h1.out i j e'
    · rename_i hi; rw [if_neg hi]; exact h2.out _ j e'

theorem cell_oneT {f : Fl} {e : Ty} {d : den e} {t : T} {u : Value} {S : Fl → Nat → Prop} {φ : Lay} (ht : t ∈ cells f e d) (h : RepO w S t u φ) : u.oneCell' = true := by
  have nd : t ≠ .dead ∧ ∀ cs, t ≠ .vr cs := by
    clear h
    induction e with
    | pair a b iha ihb =>
      simp only [cells, app_eq, List.mem_append] at ht
      rcases ht with ht | ht
      · exact iha ht
      · exact ihb ht
    | unit | nat | sum | fn => simp [cells] at ht
    | _ => simp only [cells, List.mem_singleton] at ht; subst ht; exact ⟨nofun, nofun⟩
  cases h with
  | sh _ _ h _ => cases h with
    | v _ h1 => exact h1
    | dead => exact absurd rfl nd.1
    | _ => rfl
  | vr => exact absurd rfl (nd.2 _)
  | _ => rfl

theorem RowsAt.one {S : Fl → Nat → Prop} {e : Ty} {xs : List (den e)} {us : List Value} {χ : Lay} (h : RowsAt w S e xs us χ) : ∀ u ∈ us, u.oneCell' = true := by
  intro u hu
  obtain ⟨k, hk⟩ := List.mem_iff_getElem?.mp hu
  have hlt : k < xs.length * e.size := by rw [← h.len]; exact (List.getElem?_eq_some_iff.mp hk).1
  have hsz : 0 < e.size := Nat.pos_of_ne_zero (fun e0 => by rw [e0] at hlt; simp at hlt)
  have hdiv : k / e.size < xs.length := Nat.div_lt_of_lt_mul (by rw [Nat.mul_comm]; exact hlt)
  have hmod : k % e.size < e.size := Nat.mod_lt _ hsz
  have hl : (cells .own e xs[k / e.size]).length = e.size := length_cells _ _ _
  have hcell : cellOf (rows .own e xs) (k / e.size) (k % e.size) = some ((cells .own e xs[k / e.size])[k % e.size]'(by omega)) := by
    rw [cellOf_rows, List.getElem?_eq_getElem hdiv, Option.bind_some, nth_eq, List.getElem?_eq_getElem]
  obtain ⟨u', g1, g2⟩ := h.get _ _ _ hcell
  have e4 : k / e.size * e.size + k % e.size = k := by rw [Nat.mul_comm]; exact Nat.div_add_mod k e.size
  rw [e4, hk, Option.some.injEq] at g1
  subst g1
  exact cell_oneT (List.getElem_mem _) g2

theorem RowsAt.mono {S : Fl → Nat → Prop} {e : Ty} {xs : List (den e)} {us : List Value} {χ : Lay} {w' : World} (h : RowsAt w S e xs us χ) (hS : ∀ f b, S f b → w'.heap[b]? = w.heap[b]?)
    (hχ : ∀ c0 p y b, χ (c0 :: p) = some y → blkOf y = some b → w'.heap[b]? = w.heap[b]?) : RowsAt w' S e xs us χ :=
  ⟨h.len, fun i j t e' => by
    obtain ⟨u, g1, g2⟩ := h.get i j t e'
    exact ⟨u, g1, g2.mono hS (fun _ _ h => h) (fun p y b e1 e2 => hχ (i, j) p y b e1 e2)⟩, h.out⟩

/-- Rows in a block are an owned slice. -/
theorem RowsAt.toSl {S : Fl → Nat → Prop} {e : Ty} {xs : List (den e)} {us : List Value} {χ : Lay} (h : RowsAt w S e xs us χ) {b off cap : Nat} {arr : Array Value} {el : TypeId} (hb : w.heap[b]? = some (.cells arr el (0, 0)))
    (hcap : xs.length ≤ cap + 1) (hsz : off + (cap + 1) * e.size ≤ arr.size) (hu : ∀ (k : Nat) u, us[k]? = some u → arr[off + k]? = some u) :
    RepO w S (.sl .own e xs) (.slice (some ⟨b, off, none⟩) xs.length (cap + 1)) (topLay (.slice (some ⟨b, off, none⟩) xs.length (cap + 1)) χ) := by
  have hex : ∀ i j, ∃ u, ∀ t, cellOf (rows .own e xs) i j = some t → us[i * e.size + j]? = some u ∧ RepO w S t u (χ.at i j) := by
    intro i j
    cases hh : cellOf (rows .own e xs) i j with
    | none => exact ⟨.nilIface, fun t e => by cases e⟩
    | some t =>
      obtain ⟨u, g1, g2⟩ := h.get i j t hh
      exact ⟨u, fun t' e => by cases e; exact ⟨g1, g2⟩⟩
  have hch : ∃ vs : Nat → Nat → Value, ∀ i j t, cellOf (rows .own e xs) i j = some t → us[i * e.size + j]? = some (vs i j) ∧ RepO w S t (vs i j) (χ.at i j) :=
    ⟨fun i j => (hex i j).choose, fun i j => (hex i j).choose_spec⟩
  obtain ⟨vs, hvs⟩ := hch
  exact .sl e xs b off cap arr el vs _ hb hcap hsz (fun i j t e' => hu _ _ (hvs i j t e').1) (fun i j t e' => (hvs i j t e').2) rfl (fun i j e' => h.out i j e')

/-- A state whose world has turned in blocks that it does not know of. -/
theorem RelW.worldBut (h : RelW B s x a w) {w' : World} {b0 : Nat} (hb : ∀ b : Nat, b < w.heap.size → b ≠ b0 → w'.heap[b]? = w.heap[b]?) (hs : w'.heap.size = w.heap.size) (h1 : w'.os = w.os) (h2 : w'.tape = w.tape) (h3 : w'.output = w.output)
    (hS : ∀ f, ¬ s.S f b0) (hΦ : ∀ r p z, s.Φ r p = some z → blkOf z ≠ some b0) (hO : B.O0 b0 ∨ B.w0.heap.size ≤ b0) : RelW B s x a w' :=
  have hSb : ∀ f b, s.S f b → w'.heap[b]? = w.heap[b]? := fun f b hR => hb b (h.slt f b hR) (fun e => hS f (e ▸ hR))
  { h with
    env := fun k d hd => by
      obtain ⟨v, e1, e2⟩ := h.env k d hd
      exact ⟨v, e1, e2.mono hSb (fun _ _ h => h) rfl (fun _ _ => rfl)⟩
    roots := fun r t hr => by
      obtain ⟨y, hy⟩ := h.roots r t hr
      exact ⟨y, hy.mono hSb (fun _ _ h => h) (fun p z b hz hbz => hb b (h.own _ _ _ _ hz hbz).2.1 (fun e => hΦ _ _ _ hz (e ▸ hbz)))⟩
    own := fun r p y b e1 e2 => by
      have := h.own r p y b e1 e2
      exact ⟨this.1, by omega, this.2.2⟩
    slt := fun f b hR => by have := h.slt f b hR; omega
    os := h1.trans h.os
    tape := h2.trans h.tape
    output := h3.trans h.output
    grow := by have := h.grow; omega
    kept := fun b e1 e2 => by
      rw [hb b (by have := h.grow; omega) (fun e => by subst e; exact hO.elim (fun hO => e2 hO) (fun hO => by omega))]
      exact h.kept b e1 e2
    glob := fun g t hg => (h.glob g t hg).mono hSb (fun _ _ h => h) }

/-! ### the builtin -/
theorem growBy_le (nl : Nat) : ∀ (r c : Nat), c ≤ 2 * nl + 192 → Builtin.growBy nl r c ≤ 2 * nl + 192
  | 0, c, h => h
  | r + 1, c, h => by
    simp only [Builtin.growBy]
    split
    · exact h
    · exact growBy_le nl r _ (by omega)

theorem nextslicecap_le (need cap : Nat) (h : cap < need) : Builtin.nextslicecap need cap ≤ 2 * need + 192 := by
  unfold Builtin.nextslicecap
  split
  · omega
  · split
    · omega
    · exact growBy_le need 4 cap (by omega)

theorem nextslicecap_zero (need : Nat) (h : 0 < need) : Builtin.nextslicecap need 0 = need := by
  unfold Builtin.nextslicecap
  rw [if_pos (by omega)]

theorem run_firstCells {us : List Value} {b : Option Addr} {n cap sz : Nat} (hl : us.length = n * sz) (h : n = 0 ∨ ∃ bb o, b = some ⟨bb, o, none⟩ ∧ ∀ (k : Nat) u, us[k]? = some u → w.cell? ⟨bb, o + k, none⟩ = some u) :
    (Builtin.firstCells sz n (.slice b n cap)).run c.P w = .ok us.toArray w := by
  rcases h with h | ⟨bb, o, rfl, h⟩
  · subst h
    have : us = [] := by simpa using hl
    subst this
    cases b with
    | none => rfl
    | some ad => simp [Builtin.firstCells, loadCells, loadCellsFrom]
  · have := run_loadCells_list (P := c.P) w ⟨bb, o, none⟩ us (fun j v hj => by rw [addr_add]; exact h j v hj)
    rw [hl] at this
    exact this

variable {ats : Array TypeId} {st xt e ty : TypeId} {i xi ei : TyInfo} {e' : TypeId}

/-- The second argument: how long it is, and its cells. -/
structure SrcRuns (P : Program) (w : World) (sz : Nat) (v : Value) (n : Nat) (us : List Value) : Prop where
  len : (Builtin.lenOf v).run P w = .ok n w
  cells : ∀ d, (Builtin.firstCells sz n v).run P { w with drawn := d } = .ok us.toArray { w with drawn := d }

theorem run_append (h0 : ats[0]? = some st) (h1 : ats[1]? = some xt) (hi : TyOk1 c.P st i) (hd : i.d = .sl e) {xd : TypeDesc} (hxu : c.P.underlying xt = some xd) (hxd : ∀ k, xd ≠ .int k) (hei : TyOk1 c.P e ei)
    {base : Option Addr} {sLen sCap : Nat} {v2 : Value} {n : Nat} {us : List Value} (hsrc : SrcRuns c.P w ei.size v2 n us) :
    (sLen + n ≤ sCap → (Builtin.append_ ats ty #[.slice base sLen sCap, v2]).run c.P w =
        ((match base with | some ad => storeCells (ad.add (sLen * ei.size)) us | none => (pure () : Sem Unit)).run c.P w).andThen fun _ w' => .ok (.slice base (sLen + n) sCap) w') ∧
    (¬ sLen + n ≤ sCap → 0 < ei.bytes → Builtin.nextslicecap (sLen + n) sCap * ei.bytes ≤ 2 ^ 48 → ∀ old, (∀ d, (Builtin.firstCells ei.size sLen (.slice base sLen sCap)).run c.P { w with drawn := d } = .ok old { w with drawn := d }) →
      ∃ newCap rest w', sLen + n ≤ newCap ∧
        rest.size = (newCap - (sLen + n)) * ei.zero.length ∧ w'.heap = w.heap.push (.cells (old ++ us.toArray ++ rest) e) ∧ w'.os = w.os ∧ w'.tape = w.tape ∧ w'.output = w.output ∧
        (Builtin.append_ ats ty #[.slice base sLen sCap, v2]).run c.P w = .ok (.slice (some ⟨w.heap.size, 0, none⟩) (sLen + n) newCap) w') := by
  have hu := hi.slice hd
  have hus := hsrc.cells w.drawn
  have hus : (Builtin.firstCells ei.size n v2).run c.P w = .ok us.toArray w := hus
  constructor
  · intro hle
    cases base with
    | none => simp [Builtin.append_, h0, h1, run_underlying hu, run_underlying hxu, hei.run_sizeOf, hsrc.len, hle, hus]
    | some ad => simp [Builtin.append_, h0, h1, run_underlying hu, run_underlying hxu, hei.run_sizeOf, hsrc.len, hle, hus]
  · intro hgt hb hcap old hold
    obtain ⟨j, hj, hj1, hj2⟩ := hei.run_typeInfo w
    obtain ⟨z, hz1, hz2⟩ := hei.run_zeroValue { w with drawn := w.drawn + 1 }
    have hz3 : z.cells.size = ei.zero.length := by rw [← hz2]; simp
    have hno : ¬ (j.bytes = 0) := by rw [hj2]; omega
    have hno2 : ¬ (Builtin.nextslicecap (sLen + n) sCap * j.bytes > 2 ^ 48) := by rw [hj2]; omega
    have hj' : ∀ d, (typeInfo e).run c.P { w with drawn := d } = .ok j { w with drawn := d } := by
      intro d
      obtain ⟨j', hj', _⟩ := hei.run_typeInfo { w with drawn := d }
      have : j' = j := by
        simp only [typeInfo, Sem.run_bind, run_program, Result.andThen_ok] at hj hj'
        cases e3 : c.P.info? e with
        | none => simp [e3] at hj
        | some q => simp [e3] at hj hj'; rw [← hj, ← hj']
      rw [hj', this]
    refine ⟨(Question.appendCap (sLen + n) sCap e).cut (w.tape w.drawn (.appendCap (sLen + n) sCap e)), Builtin.zeroCells z.cells ((Question.appendCap (sLen + n) sCap e).cut (w.tape w.drawn (.appendCap (sLen + n) sCap e)) - (sLen + n)),
      { w with drawn := w.drawn + 1, heap := w.heap.push (.cells (old ++ us.toArray ++ Builtin.zeroCells z.cells ((Question.appendCap (sLen + n) sCap e).cut (w.tape w.drawn (.appendCap (sLen + n) sCap e)) - (sLen + n))) e) },
      ?_, ?_, rfl, rfl, rfl, rfl, ?_⟩
    · simp only [Question.cut]; omega
    · simp [Builtin.zeroCells, hz3]
    · have hq : Question.forced (.appendCap (sLen + n) sCap e) = false := rfl
      have g1 : (typeInfo e).run c.P w.drew = .ok j w.drew := hj' _
      have g2 : (Builtin.firstCells ei.size sLen (.slice base sLen sCap)).run c.P w.drew = .ok old w.drew := hold _
      have g3 : (Builtin.firstCells ei.size n v2).run c.P w.drew = .ok us.toArray w.drew := hsrc.cells _
      have g4 : (zeroValue e).run c.P w.drew = .ok z w.drew := hz1
      simp [Builtin.append_, h0, h1, run_underlying hu, run_underlying hxu, hei.run_sizeOf, hsrc.len, hgt, hj, hno, hno2, hq, g1, g2, g3, g4, newRow]
      rfl

end
end Go.V
