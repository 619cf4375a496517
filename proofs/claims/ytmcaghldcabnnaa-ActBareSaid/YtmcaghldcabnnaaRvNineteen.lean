/- Slices built of their elements; slices made. -/
import Derived.Test.YtmcaghldcabnnaaRvEighteen
namespace Go.V
open Go.RowKit

variable {α : Type}

/-- The cells of all parts, which are given in their order. -/
def partsC (cx : Ctx) (x : X) (sz : Nat) : Nat → List (Nat × Operand) → Option (List C)
  | _, [] => some []
  | i, p :: ps => match Nat.beq p.1 i with
    | true => (evalD cx x p.2).bind fun d => match and (Nat.beq d.cells.length sz) (allB okCell d.cells) with
      | true => (partsC cx x sz (i + 1) ps).map fun r => app d.cells r
      | false => none
    | false => none

/-- What of this type's data is shared for good. -/
def frzOf (g : Fl) : Ty → List (Option Ty)
  | .sl e => match g with
    | .ro => [some e]
    | _ => [none]
  | .rsl e => [some e]
  | .pair a b => app (frzOf g a) (frzOf g b)
  | .unit => []
  | _ => [none]

def repN {β : Type} (l : List β) : Nat → List β
  | 0 => []
  | n + 1 => app l (repN l n)

def buildSliceK (cx : Ctx) (nt : Fr) (x : X) (t : TypeId) (len : Nat) (parts : Array (Nat × Operand)) (k : Nat) (K : X → Option α) : Option α :=
  (look cx.Ty t).bind fun i => match i.d with
    | .sl e => (look cx.Ty e).bind fun ei => match and (Nat.beq ei.ty.size ei.size) (and (Nat.ble 1 ei.size) (and (Nat.beq parts.toList.length len) (Nat.ble (len * ei.size) 16777216))) with
      | true => (partsC cx x ei.size 0 parts.toList).bind fun ys => prepK (repN (frzOf .own ei.ty) len) [] ys x fun ys x0 => takeCsK (repN ei.zel len) ys (len * ei.size) x0 fun ts x1 =>
          (packN ei.ty len ts).bind fun xs => newK nt x1 k (.sl .own ei.ty xs) (.own k [(0, 0)] ei.ty) K
      | false => none
    | _ => none

section
variable {c : Ctx} {B : Base} {s : Sit} {x : X} {a : Act} {w : World}

theorem partsC_spec (hG : Fit B c) (h : RelW B s x a w) {sz : Nat} (hsz : 1 ≤ sz) : ∀ {ps : List (Nat × Operand)} {i : Nat} {ys : List C}, partsC c x sz i ps = some ys →
    ys.length = ps.length * sz ∧ (∀ (m : Nat) p, ps[m]? = some p → p.1 = i + m ∧ (a.eval p.2).cells.size = sz ∧ ∀ j, j < sz → ∃ y u, ys[m * sz + j]? = some y ∧ (a.eval p.2).cells[j]? = some u ∧ RepC w s y u ∧ u.oneCell' = true)
  | [], i, ys, he => by
    simp only [partsC, Option.some.injEq] at he
    subst he
    exact ⟨by simp, fun m p e => by simp at e⟩
  | p0 :: ps, i, ys, he => by
    simp only [partsC] at he
    split at he
    · rename_i hi
      have hi := Nat.eq_of_beq_eq_true hi
      obtain ⟨d, e1, he⟩ := Option.bind_eq_some_iff.mp he
      split at he
      · rename_i hb
        simp only [Bool.and_eq_true] at hb
        have hb1 := Nat.eq_of_beq_eq_true hb.1
        obtain ⟨r, e2, rfl⟩ := Option.map_eq_some_iff.mp he
        obtain ⟨g1, g2⟩ := partsC_spec hG h hsz e2
        have hne : d.cells ≠ [] := fun e => by rw [e] at hb1; simp at hb1; omega
        have hall := Dcells_sound h (evalD_sound hG h e1) hb.2 hne
        rw [app_eq]
        refine ⟨by simp [hb1, g1, Nat.add_mul]; omega, fun m p e => ?_⟩
        cases m with
        | zero =>
          simp only [List.getElem?_cons_zero, Option.some.injEq] at e
          subst e
          refine ⟨by omega, by rw [hall.1, hb1], fun j hj => ?_⟩
          have hjl : j < d.cells.length := by omega
          obtain ⟨u, f1, f2⟩ := hall.2 j _ (List.getElem?_eq_getElem hjl)
          exact ⟨d.cells[j], u, by rw [Nat.zero_mul, Nat.zero_add, List.getElem?_append_left hjl]; exact List.getElem?_eq_getElem hjl, f1, f2, cell_one h f2 ((allB_iff _ _).1 hb.2 _ (List.getElem_mem hjl))⟩
        | succ m =>
          obtain ⟨k1, k2, k3⟩ := g2 m p (by simpa using e)
          refine ⟨by omega, k2, fun j hj => ?_⟩
          obtain ⟨y, u, f1, f2, f3, f4⟩ := k3 j hj
          refine ⟨y, u, ?_, f2, f3, f4⟩
          rw [List.getElem?_append_right (by rw [hb1, Nat.add_mul]; omega), hb1, show (m + 1) * sz + j - sz = m * sz + j by rw [Nat.add_mul]; omega]
          exact f1
      · cases he
    · cases he

theorem fill_rows {size : Nat} : ∀ (ps : List (Nat × Value)) (cells : Array Value), (ps.map (·.1)).Nodup → (∀ p ∈ ps, p.2.cells.size = size ∧ p.1 * size + size ≤ cells.size) →
    ∃ out, Instr.fill (fun i => some (i * size, size)) cells ps = some out ∧ out.size = cells.size ∧ (∀ p ∈ ps, ∀ j, j < size → out[p.1 * size + j]? = p.2.cells[j]?) ∧
      ∀ idx : Nat, (∀ p ∈ ps, ¬ (p.1 * size ≤ idx ∧ idx < p.1 * size + size)) → out[idx]? = cells[idx]? := by
  intro ps
  induction ps with
  | nil => intro cells _ _; exact ⟨cells, rfl, rfl, fun p hp => by simp at hp, fun _ _ => rfl⟩
  | cons p ps ih =>
    intro cells hnd hall
    obtain ⟨i, v⟩ := p
    simp only [List.map_cons, List.nodup_cons] at hnd
    have h0 := hall (i, v) (by simp)
    obtain ⟨cells', e1, e2⟩ := fill_step (rest := ps) (place := fun i => some (i * size, size)) (cells := cells) (i := i) (v := v) rfl h0.1 (by rw [h0.1]; exact h0.2)
    have hs' : cells'.size = cells.size := by
      have : cells'.size = cells'.toList.length := by simp
      rw [this, e1, setFrom_length]; simp
    obtain ⟨out, f1, f2, f3, f4⟩ := ih cells' hnd.2 (fun p hp => by rw [hs']; exact hall p (by simp [hp]))
    have hget : ∀ idx : Nat, cells'[idx]? = if i * size ≤ idx ∧ idx < i * size + size ∧ idx < cells.size then v.cells[idx - i * size]? else cells[idx]? := by
      intro idx
      have : cells'[idx]? = cells'.toList[idx]? := by simp
      rw [this, e1, setFrom_get]
      have hl : v.cells.toList.length = size := by simpa using h0.1
      simp only [hl, Array.length_toList, Array.getElem?_toList]
    refine ⟨out, by rw [e2]; exact f1, by rw [f2, hs'], ?_, ?_⟩
    · intro p hp j hj
      rcases List.mem_cons.mp hp with rfl | hp
      · have hdis : ∀ q ∈ ps, ¬ (q.1 * size ≤ i * size + j ∧ i * size + j < q.1 * size + size) := by
          intro q hq hc
          have hne : q.1 ≠ i := fun e => hnd.1 (by rw [← e]; exact List.mem_map.mpr ⟨q, hq, rfl⟩)
          rcases Nat.lt_or_gt_of_ne hne with hlt | hgt
          · have : (q.1 + 1) * size ≤ i * size := Nat.mul_le_mul_right size hlt
            rw [Nat.add_mul, Nat.one_mul] at this
            omega
          · have : (i + 1) * size ≤ q.1 * size := Nat.mul_le_mul_right size hgt
            rw [Nat.add_mul, Nat.one_mul] at this
            omega
        simp only
        rw [f4 _ hdis, hget, if_pos (by have := h0.2; simp only at this; omega)]
        congr 1; omega
      · exact f3 p hp j hj
    · intro idx hidx
      rw [f4 idx (fun q hq => hidx q (by simp [hq])), hget, if_neg (by have := hidx (i, v) (by simp); simp only at this; omega)]

theorem buildSlice_sound {nt : Fr} (hG : Fit B c) (hnt : B.nt = nt) (h : RelW B s x a w) {t : TypeId} {len : Nat} {parts : Array (Nat × Operand)} {k : Nat} {K : X → Option α} {q : α}
    (he : buildSliceK c nt x t len parts k K = some q) :
    ∃ x' s' u w', K x' = some q ∧ (Instr.buildSlice t len (parts.map fun p => (p.1, a.eval p.2))).run c.P w = .ok u w' ∧ RelW B s' x' (a.gput B k u) w' := by
  unfold buildSliceK at he
  obtain ⟨i, e1, he⟩ := Option.bind_eq_some_iff.mp he
  have hok := c.hTy t i e1
  split at he
  rotate_left
  · cases he
  rename_i el hel
  have hu := hok.slice hel
  obtain ⟨ei, e2, he⟩ := Option.bind_eq_some_iff.mp he
  have hoke := c.hTy _ ei e2
  split at he
  rotate_left
  · cases he
  rename_i hb
  simp only [Bool.and_eq_true] at hb
  obtain ⟨hb1, hb2, hb3, hb4⟩ := hb
  have hb1 := Nat.eq_of_beq_eq_true hb1
  have hb2 := Nat.le_of_ble_eq_true hb2
  have hb3 := Nat.eq_of_beq_eq_true hb3
  have hb4 := Nat.le_of_ble_eq_true hb4
  obtain ⟨ys, e3, he⟩ := Option.bind_eq_some_iff.mp he
  obtain ⟨p1, p2⟩ := partsC_spec hG h hb2 e3
  obtain ⟨z, hz1, hz2⟩ := hoke.run_zeroValue w
  have hnd : ((parts.toList.map fun p => (p.1, a.eval p.2)).map (·.1)).Nodup := by
    rw [List.map_map]
    have : (parts.toList.map ((fun x : Nat × Value => x.1) ∘ fun p : Nat × Operand => (p.1, a.eval p.2))) = List.range len := by
      apply List.ext_getElem?
      intro m
      rw [List.getElem?_map]
      cases hm : parts.toList[m]? with
      | none =>
        have := List.getElem?_eq_none_iff.mp hm
        rw [List.getElem?_eq_none (by simp; omega)]; rfl
      | some p =>
        have hlt := (List.getElem?_eq_some_iff.mp hm).1
        rw [List.getElem?_range (by omega)]
        have := (p2 m p hm).1
        simp only [Option.map_some, Function.comp, Option.some.injEq]; omega
    rw [this]
    exact List.nodup_range
  obtain ⟨out, f1, f2, f3, -⟩ := fill_rows (size := ei.size) (parts.toList.map fun p => (p.1, a.eval p.2)) ((Array.range (len * ei.size)).map fun j => (if len * ei.size = 0 then #[] else z.cells)[j % (if len * ei.size = 0 then #[] else z.cells).size]!) hnd
    (fun p hp => by
      obtain ⟨q, hq, rfl⟩ := List.mem_map.mp hp
      obtain ⟨m, hm⟩ := List.getElem?_of_mem hq
      obtain ⟨g1, g2, _⟩ := p2 m q hm
      refine ⟨g2, ?_⟩
      simp only [Array.size_map, Array.size_range]
      have hlt := (List.getElem?_eq_some_iff.mp hm).1
      have : (m + 1) * ei.size ≤ len * ei.size := Nat.mul_le_mul_right _ (by omega)
      rw [Nat.add_mul, Nat.one_mul] at this
      rw [g1, Nat.zero_add]
      exact this)
  have hos : out.size = len * ei.size := by rw [f2]; simp
  obtain ⟨zs, x0, s0, k1, k2, k3, k4⟩ := prep_sound (repN (frzOf .own ei.ty) len) [] ys (vals := out.toList) h (fun m y hm => by
    rw [List.nil_append] at hm
    have hlt : m < len * ei.size := by have := (List.getElem?_eq_some_iff.mp hm).1; rw [p1, hb3] at this; exact this
    have hdiv : m / ei.size < len := Nat.div_lt_of_lt_mul (by rw [Nat.mul_comm]; exact hlt)
    have hmod : m % ei.size < ei.size := Nat.mod_lt _ (by omega)
    have hp := List.getElem?_eq_getElem (l := parts.toList) (i := m / ei.size) (by omega)
    obtain ⟨g1, g2, g3⟩ := p2 _ _ hp
    obtain ⟨y', u, r1, r2, r3, r4⟩ := g3 _ hmod
    have e4 : m / ei.size * ei.size + m % ei.size = m := by rw [Nat.mul_comm]; exact Nat.div_add_mod m ei.size
    rw [e4, hm, Option.some.injEq] at r1
    subst r1
    have := f3 _ (List.mem_map.mpr ⟨_, List.getElem_mem (by omega : m / ei.size < parts.toList.length), rfl⟩) _ hmod
    rw [g1, Nat.zero_add, e4] at this
    exact ⟨u, by rw [Array.getElem?_toList, this]; exact r2, r3⟩) he
  simp only [List.length_nil, Nat.zero_add] at k3
  obtain ⟨ts, x1, s1, us, φ, hK, hrel, htk, hS, hF, hsub, -, hlen, hvals⟩ := takeCs_sound (len * ei.size) _ zs (vals := out.toList) k2.rel (Taken.empty (fun _ => .nilIface)) k4 (by rw [k3, p1, hb3]) k1
  simp only [List.nil_append, List.length_nil, Nat.zero_add] at htk hvals
  obtain ⟨xs, e5, hK⟩ := Option.bind_eq_some_iff.mp hK
  have hxl := (packN_some e5).1
  obtain ⟨hc1, hc2⟩ := rows_hc htk e5 (arr := out) (fun j hj => by rw [← Array.getElem?_toList]; exact hvals j (by omega))
  have hrep := sl_rep (el := el) (cap := len) hrel (rowLay_out htk.own) (by omega) (by rw [hos, hb1]; exact Nat.le_refl _) hc1 hc2
  have hout := topLay_out (o := .cells out el) (v := .slice (some ⟨w.heap.size, 0, none⟩) xs.length len) hrel (rowLay_out (n := len) (sz := ei.ty.size) htk.own) (fun b hb => by
    cases len with
    | zero => simp [blkOf] at hb
    | succ => simp only [blkOf, Option.some.injEq] at hb; exact hb.symm)
  obtain ⟨x', s', k1, k2⟩ := new_sound (v := .slice (some ⟨w.heap.size, 0, none⟩) xs.length len) hnt (hrel.push _) hK hrep hout (fun s' _ hΦ => .own k [(0, 0)] ei.ty _ (by rw [hΦ []]; rfl))
  refine ⟨x', s', _, _, k1, ?_, k2⟩
  have hp : (parts.map fun p => (p.1, a.eval p.2)).toList = parts.toList.map fun p => (p.1, a.eval p.2) := by simp
  have hc1 : ¬ (len * ei.size > 2 ^ 24) := by omega
  by_cases hc2 : len * ei.size = 0
  · simp only [Instr.buildSlice, Sem.run_bind, run_underlying hu, Result.andThen_ok, hoke.run_sizeOf, Sem.run_ite, if_neg hc1, if_pos hc2, Sem.run_pure, hp]
    rw [if_pos hc2] at f1
    rw [f1]
    simp [newRow, hxl]
  · simp only [Instr.buildSlice, Sem.run_bind, run_underlying hu, Result.andThen_ok, hoke.run_sizeOf, Sem.run_ite, if_neg hc1, if_neg hc2, Sem.run_pure, hz1, hp]
    rw [if_neg hc2] at f1
    rw [f1]
    simp [newRow, hxl]

/-! ### slices made -/
def makeSliceK (cx : Ctx) (nt : Fr) (x : X) (t : TypeId) (ld cd : D) (k : Nat) (K : X → Option α) : Option α :=
  (look cx.Ty t).bind fun i => match i.d with
    | .sl e => (look cx.Ty e).bind fun ei => (ld.val).bind fun lv => (cd.val).bind fun cv => match lv with
      | .int _ l => match cv with
        | .int _ cp => match and (Nat.beq ei.ty.size ei.size) (and (zeroOk ei.zero ei.zel) (Nat.beq ei.zero.length ei.size)) with
          | true => (packAll .own ei.ty (zTs ei.zero ei.zel)).bind fun z0 =>
            cond (and (decide (0 ≤ l)) (and (decide (l ≤ cp)) (and (decide ((ei.bytes : Int) * cp ≤ 281474976710656)) (decide (cp ≤ 9223372036854775807)))))
              (newK nt x k (.sl .own ei.ty (List.replicate l.toNat z0)) (.own k [(0, 0)] ei.ty) K) none
          | false => none
        | _ => none
      | _ => none
    | _ => none

def zrLay (n : Nat) (zs : List (Option Ty)) : Lay := fun q => match q with
  | [] => none
  | (i, j) :: q => if i < n then zLay zs ((0, j) :: q) else none

theorem makeSlice_sound {nt : Fr} (hnt : B.nt = nt) (h : RelW B s x a w) {t : TypeId} {ld cd : D} {lv cv : Value} (h1 : RepD w s ld lv) (h2 : RepD w s cd cv) {k : Nat} {K : X → Option α} {q : α}
    (he : makeSliceK c nt x t ld cd k K = some q) :
    ∃ x' s' u w', K x' = some q ∧ (Instr.makeSlice t lv cv).run c.P w = .ok u w' ∧ RelW B s' x' (a.gput B k u) w' := by
  unfold makeSliceK at he
  obtain ⟨i, e1, he⟩ := Option.bind_eq_some_iff.mp he
  have hok := c.hTy t i e1
  split at he
  rotate_left
  · cases he
  rename_i el hel
  have hu := hok.slice hel
  obtain ⟨ei, e2, he⟩ := Option.bind_eq_some_iff.mp he
  have hoke := c.hTy _ ei e2
  obtain ⟨lv', e3, he⟩ := Option.bind_eq_some_iff.mp he
  obtain ⟨cv', e4, he⟩ := Option.bind_eq_some_iff.mp he
  obtain ⟨e5, -⟩ := D.val_sound h1 e3
  obtain ⟨e6, -⟩ := D.val_sound h2 e4
  split at he
  rotate_left
  · cases he
  rename_i kl l _
  split at he
  rotate_left
  · cases he
  rename_i kc cp
  split at he
  rotate_left
  · cases he
  rename_i hb
  simp only [Bool.and_eq_true] at hb
  obtain ⟨hb1, hb2, hb3⟩ := hb
  have hb1 := Nat.eq_of_beq_eq_true hb1
  have hb3 := Nat.eq_of_beq_eq_true hb3
  obtain ⟨z0, e7, he⟩ := Option.bind_eq_some_iff.mp he
  rcases cond_some he with ⟨hc, he⟩ | ⟨_, he⟩
  rotate_left
  · cases he
  simp only [Bool.and_eq_true, decide_eq_true_eq] at hc
  obtain ⟨c1, c2, c3, c4⟩ := hc
  obtain ⟨j, z, g1, g2, g3, g4, g5⟩ := hoke.get
  have hrun := run_make (P := c.P) w t el j z hu g1 g4 kl kc l cp c1 c2 (by rw [g3]; exact c3) c4
  have hz0 := packAll_some e7
  obtain ⟨hlen, hall⟩ := zeroOk_spec hb2
  have htk := zTaken (B := B) (s := s) (w := w) hb2
  have hzs : z.cells.size = ei.size := by rw [← hb3, ← g5]; simp
  have harr : ∀ m j', m < cp.toNat → j' < ei.size → (madeCells z.cells (cp.toNat * j.size))[m * ei.size + j']? = ei.zero[j']? := by
    intro m j' hm hj'
    have hlt : m * ei.size + j' < cp.toNat * ei.size := by
      have : (m + 1) * ei.size ≤ cp.toNat * ei.size := Nat.mul_le_mul_right _ hm
      rw [Nat.add_mul, Nat.one_mul] at this
      omega
    have hmod : (m * ei.size + j') % z.cells.size = j' := by rw [hzs, Nat.mul_comm, Nat.mul_add_mod, Nat.mod_eq_of_lt hj']
    have hzj : j' < z.cells.size := by omega
    have hmk : (madeCells z.cells (cp.toNat * j.size))[m * ei.size + j']? = some (z.cells[(m * ei.size + j') % z.cells.size]!) := by
      have hlt' : m * ei.size + j' < cp.toNat * j.size := by rw [g2]; exact hlt
      simp [madeCells, hlt']
    rw [hmk, hmod, getElem!_pos z.cells j' hzj, ← g5, Array.getElem?_toList, Array.getElem?_eq_getElem hzj]
  have hzlay : ∀ q y, zrLay l.toNat ei.zel q = some y → blkOf y = none := by
    intro q y hq
    cases q with
    | nil => cases hq
    | cons c0 q =>
      simp only [zrLay] at hq
      split at hq
      · match q with
        | [] =>
          simp only [zLay, if_true] at hq
          split at hq
          · cases hq; rfl
          · cases hq
        | _ :: _ => cases hq
      · cases hq
  have hzout : OwnOut B s w (zrLay l.toNat ei.zel) :=
    ⟨fun q y q' y' b e1 e2 _ _ => absurd ((hzlay _ _ e1).symm.trans e2) nofun, fun q y b e1 e2 => absurd ((hzlay _ _ e1).symm.trans e2) nofun, fun q y b e1 e2 _ _ _ _ => absurd ((hzlay _ _ e1).symm.trans e2) nofun⟩
  have hzat : ∀ i j, i < l.toNat → (zrLay l.toNat ei.zel).at i j = (zLay ei.zel).at 0 j := by
    intro i j hi
    funext q
    simp only [Lay.at, zrLay, if_pos hi]
  have hrep := sl_rep (el := el) (cap := cp.toNat) (e := ei.ty) (xs := List.replicate l.toNat z0) (arr := madeCells z.cells (cp.toNat * j.size)) h hzout (by simp; omega) (by rw [size_madeCells, g2, hb1]; exact Nat.le_refl _)
    (fun i j t e' => by
      have hij := rows_lt e'
      simp only [List.length_replicate] at hij
      rw [cellOf_rows, List.getElem?_replicate, if_pos hij.1, Option.bind_some, nth_eq, ← hz0] at e'
      have hg := htk.get j t e'
      have hj : j < ei.size := by omega
      rw [hzat i j hij.1]
      refine ⟨_, ?_, hg⟩
      rw [hb1, harr i j (by omega) hj, List.getElem?_eq_getElem (by omega)]; rfl)
    (fun i j e' => by
      by_cases hi : i < l.toNat
      · rw [hzat i j hi]
        rw [cellOf_rows, List.getElem?_replicate, if_pos hi, Option.bind_some, nth_eq, ← hz0] at e'
        exact htk.out 0 j (.inr e')
      · funext q; simp only [Lay.at, zrLay, if_neg hi]; rfl)
  simp only [List.length_replicate] at hrep
  have hout := topLay_out (o := .cells (madeCells z.cells (cp.toNat * j.size)) el) (v := .slice (some ⟨w.heap.size, 0, none⟩) l.toNat cp.toNat) h hzout (fun b hb => by
    cases hcp : cp.toNat with
    | zero => rw [hcp] at hb; simp [blkOf] at hb
    | succ => rw [hcp] at hb; simp only [blkOf, Option.some.injEq] at hb; exact hb.symm)
  obtain ⟨x', s', k1, k2⟩ := new_sound (v := .slice (some ⟨w.heap.size, 0, none⟩) l.toNat cp.toNat) hnt (h.push _) he hrep hout (fun s' _ hΦ => .own k [(0, 0)] ei.ty _ (by rw [hΦ []]; rfl))
  refine ⟨x', s', _, _, k1, ?_, k2⟩
  rw [e5, e6, hrun]
  rfl

end
end Go.V
