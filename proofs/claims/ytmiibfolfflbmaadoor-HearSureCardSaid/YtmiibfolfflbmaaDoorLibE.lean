/- A library of typed data in memory: Slices built of their elements; slices made. Rows, cut and set together anew. Slices as the machine sees them: cutting, copying, appending, clearing in a block. Owned rows are cleared where they stand. The operation that clears. So many zeros appended to nothing. One operation. What is read is read the same in a state that says more. Reading operations: the same in a state that says more; and what is done with the answer hangs on it alone. Drawn regions, the machine's side: what comes up in whatever order first, and in one order then. No conditions. -/
import Derived.Test.YtmiibfolfflbmaaDoorLibD

/-! Slices built of their elements; slices made. -/
namespace Go.V
open Go.RowKit

variable {α : Type}

/-- The cells of all parts, which are given in their order. -/
def partsC (cx : Ctx) (x : X) (sz : Nat) : Nat → List (Nat × Operand) → Option (List C)
  | _, [] => some []
  | i, p :: ps => match Nat.beq p.1 i with
    | true => (evalD cx x p.2).bind fun d => match and (Nat.beq d.cells.length sz) (allB okCell d.cells) with
      | true => (partsC cx x sz (i + 1) ps).map fun r => app d.cells r
      | false => none
    | false => none

/-- What of this type's data is shared for good. -/
def frzOf (g : Fl) : Ty → List (Option Ty)
  | .sl e => match g with
    | .ro => [some e]
    | _ => [none]
  | .rsl e => [some e]
  | .pair a b => app (frzOf g a) (frzOf g b)
  | .unit => []
  | _ => [none]

def repN {β : Type} (l : List β) : Nat → List β
  | 0 => []
  | n + 1 => app l (repN l n)

def buildSliceK (cx : Ctx) (nt : Fr) (x : X) (t : TypeId) (len : Nat) (parts : Array (Nat × Operand)) (k : Nat) (K : X → Option α) : Option α :=
  (look cx.Ty t).bind fun i => match i.d with
    | .sl e => (look cx.Ty e).bind fun ei => match and (Nat.beq ei.ty.size ei.size) (and (Nat.ble 1 ei.size) (and (Nat.beq parts.toList.length len) (Nat.ble (len * ei.size) 16777216))) with
      | true => (partsC cx x ei.size 0 parts.toList).bind fun ys => prepK (repN (frzOf .own ei.ty) len) [] ys x fun ys x0 => takeCsK (repN ei.zel len) ys (len * ei.size) x0 fun ts x1 =>
          (packN ei.ty len ts).bind fun xs => newK nt x1 k (.sl .own ei.ty xs) (.own k [(0, 0)] ei.ty) K
      | false => none
    | _ => none

section
variable {c : Ctx} {B : Base} {s : Sit} {x : X} {a : Act} {w : World}

theorem partsC_spec (hG : Fit B c) (h : RelW B s x a w) {sz : Nat} (hsz : 1 ≤ sz) : ∀ {ps : List (Nat × Operand)} {i : Nat} {ys : List C}, partsC c x sz i ps = some ys →
    ys.length = ps.length * sz ∧ (∀ (m : Nat) p, ps[m]? = some p → p.1 = i + m ∧ (a.eval p.2).cells.size = sz ∧ ∀ j, j < sz → ∃ y u, ys[m * sz + j]? = some y ∧ (a.eval p.2).cells[j]? = some u ∧ RepC w s y u ∧ u.oneCell' = true)
  | [], i, ys, he => by
    simp only [partsC, Option.some.injEq] at he
    subst he
    exact ⟨by simp, fun m p e => by simp at e⟩
  | p0 :: ps, i, ys, he => by
    simp only [partsC] at he
    split at he
    · rename_i hi
      have hi := Nat.eq_of_beq_eq_true hi
      obtain ⟨d, e1, he⟩ := Option.bind_eq_some_iff.mp he
      split at he
      · rename_i hb
        simp only [Bool.and_eq_true] at hb
        have hb1 := Nat.eq_of_beq_eq_true hb.1
        obtain ⟨r, e2, rfl⟩ := Option.map_eq_some_iff.mp he
        obtain ⟨g1, g2⟩ := partsC_spec hG h hsz e2
        have hne : d.cells ≠ [] := fun e => by rw [e] at hb1; simp at hb1; omega
        have hall := Dcells_sound h (evalD_sound hG h e1) hb.2 hne
        rw [app_eq]
        refine ⟨by simp [hb1, g1, Nat.add_mul]; omega, fun m p e => ?_⟩
        cases m with
        | zero =>
          simp only [List.getElem?_cons_zero, Option.some.injEq] at e
          subst e
          refine ⟨by omega, by rw [hall.1, hb1], fun j hj => ?_⟩
          have hjl : j < d.cells.length := by omega
          obtain ⟨u, f1, f2⟩ := hall.2 j _ (List.getElem?_eq_getElem hjl)
          exact ⟨d.cells[j], u, by rw [Nat.zero_mul, Nat.zero_add, List.getElem?_append_left hjl]; exact List.getElem?_eq_getElem hjl, f1, f2, cell_one h f2 ((allB_iff _ _).1 hb.2 _ (List.getElem_mem hjl))⟩
        | succ m =>
          obtain ⟨k1, k2, k3⟩ := g2 m p (by simpa using e)
          refine ⟨by omega, k2, fun j hj => ?_⟩
          obtain ⟨y, u, f1, f2, f3, f4⟩ := k3 j hj
          refine ⟨y, u, ?_, f2, f3, f4⟩
          rw [List.getElem?_append_right (by rw [hb1, Nat.add_mul]; omega), hb1, show (m + 1) * sz + j - sz = m * sz + j by rw [Nat.add_mul]; omega]
          exact f1
      · cases he
    · cases he

theorem fill_rows {size : Nat} : ∀ (ps : List (Nat × Value)) (cells : Array Value), (ps.map (·.1)).Nodup → (∀ p ∈ ps, p.2.cells.size = size ∧ p.1 * size + size ≤ cells.size) →
    ∃ out, Instr.fill (fun i => some (i * size, size)) cells ps = some out ∧ out.size = cells.size ∧ (∀ p ∈ ps, ∀ j, j < size → out[p.1 * size + j]? = p.2.cells[j]?) ∧
      ∀ idx : Nat, (∀ p ∈ ps, ¬ (p.1 * size ≤ idx ∧ idx < p.1 * size + size)) → out[idx]? = cells[idx]? := by
  intro ps
  induction ps with
  | nil => intro cells _ _; exact ⟨cells, rfl, rfl, fun p hp => by simp at hp, fun _ _ => rfl⟩
  | cons p ps ih =>
    intro cells hnd hall
    obtain ⟨i, v⟩ := p
    simp only [List.map_cons, List.nodup_cons] at hnd
    have h0 := hall (i, v) (by simp)
    obtain ⟨cells', e1, e2⟩ := fill_step (rest := ps) (place := fun i => some (i * size, size)) (cells := cells) (i := i) (v := v) rfl h0.1 (by rw [h0.1]; exact h0.2)
    have hs' : cells'.size = cells.size := by
      have : cells'.size = cells'.toList.length := by simp
      rw [this, e1, setFrom_length]; simp
    obtain ⟨out, f1, f2, f3, f4⟩ := ih cells' hnd.2 (fun p hp => by rw [hs']; exact hall p (by simp [hp]))
    have hget : ∀ idx : Nat, cells'[idx]? = if i * size ≤ idx ∧ idx < i * size + size ∧ idx < cells.size then v.cells[idx - i * size]? else cells[idx]? := by
      intro idx
      have : cells'[idx]? = cells'.toList[idx]? := by simp
      rw [this, e1, setFrom_get]
      have hl : v.cells.toList.length = size := by simpa using h0.1
      simp only [hl, Array.length_toList, Array.getElem?_toList]
    refine ⟨out, by rw [e2]; exact f1, by rw [f2, hs'], ?_, ?_⟩
    · intro p hp j hj
      rcases List.mem_cons.mp hp with rfl | hp
      · have hdis : ∀ q ∈ ps, ¬ (q.1 * size ≤ i * size + j ∧ i * size + j < q.1 * size + size) := by
          intro q hq hc
          have hne : q.1 ≠ i := fun e => hnd.1 (by rw [← e]; exact List.mem_map.mpr ⟨q, hq, rfl⟩)
          rcases Nat.lt_or_gt_of_ne hne with hlt | hgt
          · have : (q.1 + 1) * size ≤ i * size := Nat.mul_le_mul_right size hlt
            rw [Nat.add_mul, Nat.one_mul] at this
            omega
          · have : (i + 1) * size ≤ q.1 * size := Nat.mul_le_mul_right size hgt
            rw [Nat.add_mul, Nat.one_mul] at this
            omega
        simp only
        rw [f4 _ hdis, hget, if_pos (by have := h0.2; simp only at this; omega)]
        congr 1; omega
      · exact f3 p hp j hj
    · intro idx hidx
      rw [f4 idx (fun q hq => hidx q (by simp [hq])), hget, if_neg (by have := hidx (i, v) (by simp); simp only at this; omega)]

theorem buildSlice_sound {nt : Fr} (hG : Fit B c) (hnt : B.nt = nt) (h : RelW B s x a w) {t : TypeId} {len : Nat} {parts : Array (Nat × Operand)} {k : Nat} {K : X → Option α} {q : α}
    (he : buildSliceK c nt x t len parts k K = some q) :
    ∃ x' s' u w', K x' = some q ∧ (Instr.buildSlice t len (parts.map fun p => (p.1, a.eval p.2))).run c.P w = .ok u w' ∧ RelW B s' x' (a.gput B k u) w' := by
  unfold buildSliceK at he
  obtain ⟨i, e1, he⟩ := Option.bind_eq_some_iff.mp he
  have hok := c.hTy t i e1
  split at he
  rotate_left
  · cases he
  rename_i el hel
  have hu := hok.slice hel
  obtain ⟨ei, e2, he⟩ := Option.bind_eq_some_iff.mp he
  have hoke := c.hTy _ ei e2
  split at he
  rotate_left
  · cases he
  rename_i hb
  simp only [Bool.and_eq_true] at hb
  obtain ⟨hb1, hb2, hb3, hb4⟩ := hb
  have hb1 := Nat.eq_of_beq_eq_true hb1
  have hb2 := Nat.le_of_ble_eq_true hb2
  have hb3 := Nat.eq_of_beq_eq_true hb3
  have hb4 := Nat.le_of_ble_eq_true hb4
  obtain ⟨ys, e3, he⟩ := Option.bind_eq_some_iff.mp he
  obtain ⟨p1, p2⟩ := partsC_spec hG h hb2 e3
  obtain ⟨z, hz1, hz2⟩ := hoke.run_zeroValue w
  have hnd : ((parts.toList.map fun p => (p.1, a.eval p.2)).map (·.1)).Nodup := by
    rw [List.map_map]
    have : (parts.toList.map ((fun x : Nat × Value => x.1) ∘ fun p : Nat × Operand => (p.1, a.eval p.2))) = List.range len := by
      apply List.ext_getElem?
      intro m
      rw [List.getElem?_map]
      cases hm : parts.toList[m]? with
      | none =>
        have := List.getElem?_eq_none_iff.mp hm
        rw [List.getElem?_eq_none (by simp; omega)]; rfl
      | some p =>
        have hlt := (List.getElem?_eq_some_iff.mp hm).1
        rw [List.getElem?_range (by omega)]
        have := (p2 m p hm).1
        simp only [Option.map_some, Function.comp, Option.some.injEq]; omega
    rw [this]
    exact List.nodup_range
  obtain ⟨out, f1, f2, f3, -⟩ := fill_rows (size := ei.size) (parts.toList.map fun p => (p.1, a.eval p.2)) ((Array.range (len * ei.size)).map fun j => (if len * ei.size = 0 then #[] else z.cells)[j % (if len * ei.size = 0 then #[] else z.cells).size]!) hnd
    (fun p hp => by
      obtain ⟨q, hq, rfl⟩ := List.mem_map.mp hp
      obtain ⟨m, hm⟩ := List.getElem?_of_mem hq
      obtain ⟨g1, g2, _⟩ := p2 m q hm
      refine ⟨g2, ?_⟩
      simp only [Array.size_map, Array.size_range]
      have hlt := (List.getElem?_eq_some_iff.mp hm).1
      have : (m + 1) * ei.size ≤ len * ei.size := Nat.mul_le_mul_right _ (by omega)
      rw [Nat.add_mul, Nat.one_mul] at this
      rw [g1, Nat.zero_add]
      exact this)
  have hos : out.size = len * ei.size := by rw [f2]; simp
  obtain ⟨zs, x0, s0, k1, k2, k3, k4⟩ := prep_sound (repN (frzOf .own ei.ty) len) [] ys (vals := out.toList) h (fun m y hm => by
    rw [List.nil_append] at hm
    have hlt : m < len * ei.size := by have := (List.getElem?_eq_some_iff.mp hm).1; rw [p1, hb3] at this; exact this
    have hdiv : m / ei.size < len := Nat.div_lt_of_lt_mul (by rw [Nat.mul_comm]; exact hlt)
    have hmod : m % ei.size < ei.size := Nat.mod_lt _ (by omega)
    have hp := List.getElem?_eq_getElem (l := parts.toList) (i := m / ei.size) (by omega)
    obtain ⟨g1, g2, g3⟩ := p2 _ _ hp
    obtain ⟨y', u, r1, r2, r3, r4⟩ := g3 _ hmod
    have e4 : m / ei.size * ei.size + m % ei.size = m := by rw [Nat.mul_comm]; exact Nat.div_add_mod m ei.size
    rw [e4, hm, Option.some.injEq] at r1
    subst r1
    have := f3 _ (List.mem_map.mpr ⟨_, List.getElem_mem (by omega : m / ei.size < parts.toList.length), rfl⟩) _ hmod
    rw [g1, Nat.zero_add, e4] at this
    exact ⟨u, by rw [Array.getElem?_toList, this]; exact r2, r3⟩) he
  simp only [List.length_nil, Nat.zero_add] at k3
  obtain ⟨ts, x1, s1, us, φ, hK, hrel, htk, hS, hF, hsub, -, hlen, hvals⟩ := takeCs_sound (len * ei.size) _ zs (vals := out.toList) k2.rel (Taken.empty (fun _ => .nilIface)) k4 (by rw [k3, p1, hb3]) k1
  simp only [List.nil_append, List.length_nil, Nat.zero_add] at htk hvals
  obtain ⟨xs, e5, hK⟩ := Option.bind_eq_some_iff.mp hK
  have hxl := (packN_some e5).1
  obtain ⟨hc1, hc2⟩ := rows_hc htk e5 (arr := out) (fun j hj => by rw [← Array.getElem?_toList]; exact hvals j (by omega))
  have hrep := sl_rep (el := el) (cap := len) hrel (rowLay_out htk.own) (by omega) (by rw [hos, hb1]; exact Nat.le_refl _) hc1 hc2
  have hout := topLay_out (o := .cells out el) (v := .slice (some ⟨w.heap.size, 0, none⟩) xs.length len) hrel (rowLay_out (n := len) (sz := ei.ty.size) htk.own) (fun b hb => by
    cases len with
    | zero => simp [blkOf] at hb
    | succ => simp only [blkOf, Option.some.injEq] at hb; exact hb.symm)
  obtain ⟨x', s', k1, k2⟩ := new_sound (v := .slice (some ⟨w.heap.size, 0, none⟩) xs.length len) hnt (hrel.push _) hK hrep hout (fun s' _ hΦ => .own k [(0, 0)] ei.ty _ (by rw [hΦ []]; rfl))
  refine ⟨x', s', _, _, k1, ?_, k2⟩
  have hp : (parts.map fun p => (p.1, a.eval p.2)).toList = parts.toList.map fun p => (p.1, a.eval p.2) := by simp
  have hc1 : ¬ (len * ei.size > 2 ^ 24) := by omega
  by_cases hc2 : len * ei.size = 0
  · simp only [Instr.buildSlice, Sem.run_bind, run_underlying hu, Result.andThen_ok, hoke.run_sizeOf, Sem.run_ite, if_neg hc1, if_pos hc2, Sem.run_pure, hp]
    rw [if_pos hc2] at f1
    rw [f1]
    simp [newRow, hxl]
  · simp only [Instr.buildSlice, Sem.run_bind, run_underlying hu, Result.andThen_ok, hoke.run_sizeOf, Sem.run_ite, if_neg hc1, if_neg hc2, Sem.run_pure, hz1, hp]
    rw [if_neg hc2] at f1
    rw [f1]
    simp [newRow, hxl]

/-! ### slices made -/
def makeSliceK (cx : Ctx) (nt : Fr) (x : X) (t : TypeId) (ld cd : D) (k : Nat) (K : X → Option α) : Option α :=
  (look cx.Ty t).bind fun i => match i.d with
    | .sl e => (look cx.Ty e).bind fun ei => (ld.val).bind fun lv => (cd.val).bind fun cv => match lv with
      | .int _ l => match cv with
        | .int _ cp => match and (Nat.beq ei.ty.size ei.size) (and (zeroOk ei.zero ei.zel) (Nat.beq ei.zero.length ei.size)) with
          | true => (packAll .own ei.ty (zTs ei.zero ei.zel)).bind fun z0 =>
            cond (and (decide (0 ≤ l)) (and (decide (l ≤ cp)) (and (decide ((ei.bytes : Int) * cp ≤ 281474976710656)) (decide (cp ≤ 9223372036854775807)))))
              (newK nt x k (.sl .own ei.ty (List.replicate l.toNat z0)) (.own k [(0, 0)] ei.ty) K) none
          | false => none
        | _ => none
      | _ => none
    | _ => none

def zrLay (n : Nat) (zs : List (Option Ty)) : Lay := fun q => match q with
  | [] => none
  | (i, j) :: q => if i < n then zLay zs ((0, j) :: q) else none

theorem makeSlice_sound {nt : Fr} (hnt : B.nt = nt) (h : RelW B s x a w) {t : TypeId} {ld cd : D} {lv cv : Value} (h1 : RepD w s ld lv) (h2 : RepD w s cd cv) {k : Nat} {K : X → Option α} {q : α}
    (he : makeSliceK c nt x t ld cd k K = some q) :
    ∃ x' s' u w', K x' = some q ∧ (Instr.makeSlice t lv cv).run c.P w = .ok u w' ∧ RelW B s' x' (a.gput B k u) w' := by
  unfold makeSliceK at he
  obtain ⟨i, e1, he⟩ := Option.bind_eq_some_iff.mp he
  have hok := c.hTy t i e1
  split at he
  rotate_left
  · cases he
  rename_i el hel
  have hu := hok.slice hel
  obtain ⟨ei, e2, he⟩ := Option.bind_eq_some_iff.mp he
  have hoke := c.hTy _ ei e2
  obtain ⟨lv', e3, he⟩ := Option.bind_eq_some_iff.mp he
  obtain ⟨cv', e4, he⟩ := Option.bind_eq_some_iff.mp he
  obtain ⟨e5, -⟩ := D.val_sound h1 e3
  obtain ⟨e6, -⟩ := D.val_sound h2 e4
  split at he
  rotate_left
  · cases he
  rename_i kl l _
  split at he
  rotate_left
  · cases he
  rename_i kc cp
  split at he
  rotate_left
  · cases he
  rename_i hb
  simp only [Bool.and_eq_true] at hb
  obtain ⟨hb1, hb2, hb3⟩ := hb
  have hb1 := Nat.eq_of_beq_eq_true hb1
  have hb3 := Nat.eq_of_beq_eq_true hb3
  obtain ⟨z0, e7, he⟩ := Option.bind_eq_some_iff.mp he
  rcases cond_some he with ⟨hc, he⟩ | ⟨_, he⟩
  rotate_left
  · cases he
  simp only [Bool.and_eq_true, decide_eq_true_eq] at hc
  obtain ⟨c1, c2, c3, c4⟩ := hc
  obtain ⟨j, z, g1, g2, g3, g4, g5⟩ := hoke.get
  have hrun := run_make (P := c.P) w t el j z hu g1 g4 kl kc l cp c1 c2 (by rw [g3]; exact c3) c4
  have hz0 := packAll_some e7
  obtain ⟨hlen, hall⟩ := zeroOk_spec hb2
  have htk := zTaken (B := B) (s := s) (w := w) hb2
  have hzs : z.cells.size = ei.size := by rw [← hb3, ← g5]; simp
  have harr : ∀ m j', m < cp.toNat → j' < ei.size → (madeCells z.cells (cp.toNat * j.size))[m * ei.size + j']? = ei.zero[j']? := by
    intro m j' hm hj'
    have hlt : m * ei.size + j' < cp.toNat * ei.size := by
      have : (m + 1) * ei.size ≤ cp.toNat * ei.size := Nat.mul_le_mul_right _ hm
      rw [Nat.add_mul, Nat.one_mul] at this
      omega
    have hmod : (m * ei.size + j') % z.cells.size = j' := by rw [hzs, Nat.mul_comm, Nat.mul_add_mod, Nat.mod_eq_of_lt hj']
    have hzj : j' < z.cells.size := by omega
    have hmk : (madeCells z.cells (cp.toNat * j.size))[m * ei.size + j']? = some (z.cells[(m * ei.size + j') % z.cells.size]!) := by
      have hlt' : m * ei.size + j' < cp.toNat * j.size := by rw [g2]; exact hlt
      simp [madeCells, hlt']
    rw [hmk, hmod, getElem!_pos z.cells j' hzj, ← g5, Array.getElem?_toList, Array.getElem?_eq_getElem hzj]
  have hzlay : ∀ q y, zrLay l.toNat ei.zel q = some y → blkOf y = none := by
    intro q y hq
    cases q with
    | nil => cases hq
    | cons c0 q =>
      simp only [zrLay] at hq
      split at hq
      · match q with
        | [] =>
          simp only [zLay, if_true] at hq
          split at hq
          · cases hq; rfl
          · cases hq
        | _ :: _ => cases hq
      · cases hq
  have hzout : OwnOut B s w (zrLay l.toNat ei.zel) :=
    ⟨fun q y q' y' b e1 e2 _ _ => absurd ((hzlay _ _ e1).symm.trans e2) nofun, fun q y b e1 e2 => absurd ((hzlay _ _ e1).symm.trans e2) nofun, fun q y b e1 e2 _ _ _ _ => absurd ((hzlay _ _ e1).symm.trans e2) nofun⟩
  have hzat : ∀ i j, i < l.toNat → (zrLay l.toNat ei.zel).at i j = (zLay ei.zel).at 0 j := by
    intro i j hi
    funext q
    simp only [Lay.at, zrLay, if_pos hi]
  have hrep := sl_rep (el := el) (cap := cp.toNat) (e := ei.ty) (xs := List.replicate l.toNat z0) (arr := madeCells z.cells (cp.toNat * j.size)) h hzout (by simp; omega) (by rw [size_madeCells, g2, hb1]; exact Nat.le_refl _)
    (fun i j t e' => by
      have hij := rows_lt e'
      simp only [List.length_replicate] at hij
      rw [cellOf_rows, List.getElem?_replicate, if_pos hij.1, Option.bind_some, nth_eq, ← hz0] at e'
      have hg := htk.get j t e'
      have hj : j < ei.size := by omega
      rw [hzat i j hij.1]
      refine ⟨_, ?_, hg⟩
      rw [hb1, harr i j (by omega) hj, List.getElem?_eq_getElem (by omega)]; rfl)
    (fun i j e' => by
      by_cases hi : i < l.toNat
      · rw [hzat i j hi]
        rw [cellOf_rows, List.getElem?_replicate, if_pos hi, Option.bind_some, nth_eq, ← hz0] at e'
        exact htk.out 0 j (.inr e')
      · funext q; simp only [Lay.at, zrLay, if_neg hi]; rfl)
  simp only [List.length_replicate] at hrep
  have hout := topLay_out (o := .cells (madeCells z.cells (cp.toNat * j.size)) el) (v := .slice (some ⟨w.heap.size, 0, none⟩) l.toNat cp.toNat) h hzout (fun b hb => by
    cases hcp : cp.toNat with
    | zero => rw [hcp] at hb; simp [blkOf] at hb
    | succ => rw [hcp] at hb; simp only [blkOf, Option.some.injEq] at hb; exact hb.symm)
  obtain ⟨x', s', k1, k2⟩ := new_sound (v := .slice (some ⟨w.heap.size, 0, none⟩) l.toNat cp.toNat) hnt (h.push _) he hrep hout (fun s' _ hΦ => .own k [(0, 0)] ei.ty _ (by rw [hΦ []]; rfl))
  refine ⟨x', s', _, _, k1, ?_, k2⟩
  rw [e5, e6, hrun]
  rfl

end
end Go.V

/-! Rows, cut and set together anew. -/
namespace Go.V
open Go.RowKit

/-! ### rows, cut and set together anew -/
section
variable {w : World} {S : Fl → Nat → Prop} {e : Ty}

def takeLay (n : Nat) (φ : Lay) : Lay := fun q => match q with
  | [] => none
  | (i, j) :: q => if i < n then φ ((i, j) :: q) else none

def dropLay (n : Nat) (φ : Lay) : Lay := fun q => match q with
  | [] => none
  | (i, j) :: q => φ ((i + n, j) :: q)

theorem RowsAt.take {xs : List (den e)} {us : List Value} {χ : Lay} (h : RowsAt w S e xs us χ) (n : Nat) : RowsAt w S e (xs.take n) (us.take (n * e.size)) (takeLay n χ) := by
  have hat : ∀ i j, (takeLay n χ).at i j = if i < n then χ.at i j else noLay := by
    intro i j; funext q; simp only [Lay.at, takeLay]; split <;> rfl
  have hcell : ∀ i j, cellOf (rows .own e (xs.take n)) i j = if i < n then cellOf (rows .own e xs) i j else none := by
    intro i j
    simp only [cellOf_rows, List.getElem?_take]
    split <;> rfl
  refine ⟨?_, fun i j t e' => ?_, fun i j e' => ?_⟩
  · rw [List.length_take, List.length_take, h.len]
    by_cases hn : n ≤ xs.length
    · rw [Nat.min_eq_left hn, Nat.min_eq_left (Nat.mul_le_mul_right _ hn)]
    · have h1 : xs.length * e.size ≤ n * e.size := Nat.mul_le_mul_right _ (by omega)
      rw [Nat.min_eq_right h1, Nat.min_eq_right (by omega : xs.length ≤ n)]
  · rw [hcell] at e'
    rw [hat]
    split at e'
    · rename_i hi
      obtain ⟨u, g1, g2⟩ := h.get i j t e'
      rw [if_pos hi]
      have hj := (rows_lt e').2
      refine ⟨u, ?_, g2⟩
      rw [List.getElem?_take, if_pos (by
        have : (i + 1) * e.size ≤ n * e.size := Nat.mul_le_mul_right _ (by omega)
        rw [Nat.add_mul] at this
        omega)]
      exact g1
    · cases e'
  · rw [hcell] at e'
    rw [hat]
    split at e'
    · rename_i hi; rw [if_pos hi]; exact h.out i j e'
    · rename_i hi; rw [if_neg hi]

theorem RowsAt.drop {xs : List (den e)} {us : List Value} {χ : Lay} (h : RowsAt w S e xs us χ) (n : Nat) : RowsAt w S e (xs.drop n) (us.drop (n * e.size)) (dropLay n χ) := by
  have hat : ∀ i j, (dropLay n χ).at i j = χ.at (i + n) j := fun i j => rfl
  have hcell : ∀ i j, cellOf (rows .own e (xs.drop n)) i j = cellOf (rows .own e xs) (i + n) j := by
    intro i j
    simp only [cellOf_rows, List.getElem?_drop]
    rw [Nat.add_comm]
  refine ⟨by rw [List.length_drop, List.length_drop, h.len, Nat.sub_mul], fun i j t e' => ?_, fun i j e' => ?_⟩
  · rw [hcell] at e'
    obtain ⟨u, g1, g2⟩ := h.get _ j t e'
    refine ⟨u, ?_, g2⟩
    rw [List.getElem?_drop, ← g1]
    congr 1
    rw [Nat.add_mul]
    omega
  · rw [hcell] at e'
    exact h.out _ j e'

/-- Owned data that hangs elsewhere in part. -/
theorem OwnOut.remap {B : Base} {s : Sit} {w' : World} {ω χ : Lay} (h : OwnOut B s w ω) (hw : w.heap.size ≤ w'.heap.size) (f : Path → Path) (hf : ∀ q y, χ q = some y → ω (f q) = some y)
    (hinj : ∀ q q' y y', χ q = some y → χ q' = some y' → f q = f q' → q = q') : OwnOut B s w' χ where
  inj := fun q y q' y' b h1 h2 h3 h4 => hinj q q' y y' h1 h3 (h.inj _ _ _ _ _ (hf _ _ h1) h2 (hf _ _ h3) h4)
  own := fun q y b h1 h2 => by
    have := h.own _ _ _ (hf _ _ h1) h2
    exact ⟨this.1, by omega, this.2.2⟩
  out := fun q y b h1 h2 => h.out _ _ _ (hf _ _ h1) h2

/-- With a block above. -/
theorem OwnOut.top {B : Base} {s : Sit} {w' : World} {χ : Lay} {b : Nat} {v : Value} (h : OwnOut B s w' χ) (_hn : χ [] = Option.none) (hv : blkOf v = some b) (hb1 : ∀ f, ¬ s.S f b) (hb2 : b < w'.heap.size) (hb3 : B.O0 b ∨ B.w0.heap.size ≤ b)
    (hb4 : ∀ r p z, s.Φ r p = some z → blkOf z ≠ some b) (hb5 : ∀ q y, χ q = some y → blkOf y ≠ some b) : OwnOut B s w' (topLay v χ) := by
  have key : ∀ q y, topLay v χ q = some y → (q = [] ∧ y = v) ∨ (q ≠ [] ∧ χ q = some y) := by
    intro q y h1
    cases q with
    | nil => simp only [topLay, Option.some.injEq] at h1; exact .inl ⟨rfl, h1.symm⟩
    | cons c q => exact .inr ⟨by simp, h1⟩
  refine ⟨?_, ?_, ?_⟩
  · intro q y q' y' b' h1 e1 h2 e2
    rcases key _ _ h1 with ⟨rfl, rfl⟩ | ⟨n1, g1⟩ <;> rcases key _ _ h2 with ⟨rfl, rfl⟩ | ⟨n2, g2⟩
    · rfl
    · rw [hv, Option.some.injEq] at e1; subst e1; exact absurd e2 (hb5 _ _ g2)
    · rw [hv, Option.some.injEq] at e2; subst e2; exact absurd e1 (hb5 _ _ g1)
    · exact h.inj _ _ _ _ _ g1 e1 g2 e2
  · intro q y b' h1 e1
    rcases key _ _ h1 with ⟨rfl, rfl⟩ | ⟨n1, g1⟩
    · rw [hv, Option.some.injEq] at e1; subst e1; exact ⟨hb1, hb2, hb3⟩
    · exact h.own _ _ _ g1 e1
  · intro q y b' h1 e1
    rcases key _ _ h1 with ⟨rfl, rfl⟩ | ⟨n1, g1⟩
    · rw [hv, Option.some.injEq] at e1; subst e1; exact hb4
    · exact h.out _ _ _ g1 e1

end
end Go.V

/-! Slices as the machine sees them: cutting, copying, appending, clearing in a block. -/
namespace Go.V
open Go.RowKit

def splice (L : List Value) (o : Nat) (us : List Value) : List Value := L.take o ++ us ++ L.drop (o + us.length)
def seg (L : List Value) (o n : Nat) : List Value := (L.drop o).take n

theorem length_splice {L us : List Value} {o : Nat} (h : o + us.length ≤ L.length) : (splice L o us).length = L.length := by
  simp only [splice, List.length_append, List.length_take, List.length_drop]; omega

theorem get_splice {L us : List Value} {o : Nat} (h : o + us.length ≤ L.length) (k : Nat) : (splice L o us)[k]? = if k < o then L[k]? else if k < o + us.length then us[k - o]? else L[k]? := by
  have hl : (L.take o).length = o := by rw [List.length_take]; omega
  unfold splice
  rw [List.append_assoc]
  by_cases h1 : k < o
  · rw [if_pos h1, List.getElem?_append_left (by omega), List.getElem?_take, if_pos h1]
  · rw [if_neg h1, List.getElem?_append_right (by omega), hl]
    by_cases h2 : k < o + us.length
    · rw [if_pos h2, List.getElem?_append_left (by omega)]
    · rw [if_neg h2, List.getElem?_append_right (by omega), List.getElem?_drop]
      congr 1; omega

theorem length_seg {L : List Value} {o n : Nat} (h : o + n ≤ L.length) : (seg L o n).length = n := by
  simp only [seg, List.length_take, List.length_drop]; omega

theorem get_seg {L : List Value} {o n k : Nat} (h : k < n) : (seg L o n)[k]? = L[o + k]? := by
  simp only [seg, List.getElem?_take, if_pos h, List.getElem?_drop]

theorem mem_seg {L : List Value} {o n : Nat} {u : Value} (h : u ∈ seg L o n) : ∃ k, o ≤ k ∧ k < o + n ∧ L[k]? = some u := by
  obtain ⟨k, hk⟩ := List.getElem?_of_mem h
  have hlt := (List.getElem?_eq_some_iff.mp hk).1
  simp only [seg, List.length_take, List.length_drop] at hlt
  rw [get_seg (by omega)] at hk
  exact ⟨o + k, by omega, by omega, hk⟩

/-- A block's cells. -/
def Blk (w : World) (b : Nat) (el : TypeId) (L : List Value) : Prop := w.heap[b]? = some (.cells L.toArray el (0, 0))

theorem Blk.set {w : World} {b : Nat} {el : TypeId} {L L' : List Value} (h : Blk w b el L) : Blk (w.setRow b L'.toArray) b el L' := setRow_heap w b _ _ el (0, 0) h

theorem setRow_setRow {w : World} {b : Nat} {el : TypeId} {L : List Value} (h : Blk w b el L) (A B : Array Value) : (w.setRow b A).setRow b B = w.setRow b B := by
  unfold World.setRow
  congr 1
  apply Array.ext_getElem?
  intro k
  simp only [Array.getElem?_modify]
  by_cases hk : b = k
  · subst hk
    simp only [if_true]
    have h : w.heap[b]? = some (.cells L.toArray el (0, 0)) := h
    rw [h]; rfl
  · simp only [if_neg hk]

section
variable {P : Program} {w : World} {b o n : Nat} {el : TypeId} {L us : List Value}

theorem Blk.load (h : Blk w b el L) (hn : o + n ≤ L.length) : (loadCells ⟨b, o, none⟩ n).run P w = .ok (seg L o n).toArray w := by
  have := run_loadCells_list (P := P) w ⟨b, o, none⟩ (seg L o n) (fun j v hj => by
    have hlt : j < n := by have := (List.getElem?_eq_some_iff.mp hj).1; rw [length_seg hn] at this; exact this
    rw [get_seg hlt] at hj
    rw [addr_add, cell?_of_cells h]
    simpa using hj)
  rw [length_seg hn] at this
  exact this

theorem Blk.store (h : Blk w b el L) (hn : o + us.length ≤ L.length) (h1 : ∀ u ∈ us, u.oneCell' = true) : (storeCells ⟨b, o, none⟩ us).run P w = .ok () (w.setRow b (splice L o us).toArray) := by
  have := run_storeCells_at P b o el us 0 L.toArray w h (by simpa using hn) h1
  simpa [splice] using this

end

def iv (n : Nat) : Value := .int .i64 n

theorem setRow_size (w : World) (b : Nat) (A : Array Value) : (w.setRow b A).heap.size = w.heap.size := by simp [World.setRow]

section
variable {P : Program} {w : World} {t e : TypeId} {i ei : TyInfo}

theorem run_bound {x y : Nat} {code : BoundsCode} (h : x ≤ y) : (Instr.sliceBound (iv x) y code).run P w = .ok x w := by
  have h1 : ((x : Int)) ≤ (y : Int) := by omega
  simp [Instr.sliceBound, iv, asIntOf, h1]

/-- Cutting, in so far as there is room. -/
theorem raw_slice (hi : TyOk1 P t i) (hd : i.d = .sl e) (hei : TyOk1 P e ei) {ad : Option Addr} {n cap l h : Nat} {lo hh : Option Value} (hlo : (lo = none ∧ l = 0) ∨ lo = some (iv l)) (hhi : (hh = none ∧ h = n) ∨ hh = some (iv h))
    (h1 : l ≤ h) (h2 : h ≤ cap) (w : World) : (Instr.sliceAt t (.slice ad n cap) lo hh none).run P w = .ok (.slice (if cap = l then ad else ad.map (·.add (l * ei.size))) (h - l) (cap - l)) w := by
  have hu := hi.slice hd
  have hb : (Instr.sliceBounds true n cap lo hh none).run P w = .ok (l, h, cap) w := by
    rcases hlo with ⟨rfl, rfl⟩ | rfl <;> rcases hhi with ⟨rfl, rfl⟩ | rfl <;> simp [Instr.sliceBounds, run_bound h1, run_bound h2]
  simp only [Instr.sliceAt, Instr.slice, Sem.run_bind, run_underlying hu, Result.andThen_ok, hb, hei.run_sizeOf, Sem.run_pure]

/-- The same with a bound on the room. -/
theorem raw_slice3 (hi : TyOk1 P t i) (hd : i.d = .sl e) (hei : TyOk1 P e ei) {ad : Option Addr} {n cap l h m : Nat}
    (h1 : l ≤ h) (h2 : h ≤ m) (h3 : m ≤ cap) (w : World) : (Instr.sliceAt t (.slice ad n cap) (some (iv l)) (some (iv h)) (some (iv m))).run P w = .ok (.slice (if m = l then ad else ad.map (·.add (l * ei.size))) (h - l) (m - l)) w := by
  have hu := hi.slice hd
  have hb : (Instr.sliceBounds true n cap (some (iv l)) (some (iv h)) (some (iv m))).run P w = .ok (l, h, m) w := by
    simp [Instr.sliceBounds, run_bound h1, run_bound h2, run_bound h3]
  simp only [Instr.sliceAt, Instr.slice, Sem.run_bind, run_underlying hu, Result.andThen_ok, hb, hei.run_sizeOf, Sem.run_pure]

theorem run_firstRow {b o n m cap sz : Nat} {el : TypeId} {L : List Value} (h : Blk w b el L) (hn : o + n * sz ≤ L.length) : (Builtin.firstCells sz n (.slice (some ⟨b, o, none⟩) m cap)).run P w = .ok (seg L o (n * sz)).toArray w := by
  simp only [Builtin.firstCells]
  exact h.load hn

/-- Appending where there is room. -/
theorem raw_append {ats : Array TypeId} {ty : TypeId} (h0 : ats[0]? = some t) (h1 : ats[1]? = some t) (hi : TyOk1 P t i) (hd : i.d = .sl e) (hei : TyOk1 P e ei) {b off n cap : Nat} {o2 m c2 : Nat} {b2 : Nat} {el el2 : TypeId} {L L2 : List Value}
    (hb : Blk w b el L) (hb2 : Blk w b2 el2 L2) (hroom : n + m ≤ cap) (hfit : off + n * ei.size + m * ei.size ≤ L.length) (hfit2 : o2 + m * ei.size ≤ L2.length) (hone : ∀ u ∈ seg L2 o2 (m * ei.size), u.oneCell' = true) :
    (Builtin.append_ ats ty #[.slice (some ⟨b, off, none⟩) n cap, .slice (some ⟨b2, o2, none⟩) m c2]).run P w = .ok (.slice (some ⟨b, off, none⟩) (n + m) cap) (w.setRow b (splice L (off + n * ei.size) (seg L2 o2 (m * ei.size))).toArray) := by
  have hu := hi.slice hd
  have hl : (Builtin.lenOf (.slice (some ⟨b2, o2, none⟩) m c2)).run P w = .ok m w := rfl
  have hf := run_firstRow (P := P) (m := m) (cap := c2) hb2 hfit2
  have hst := hb.store (P := P) (o := off + n * ei.size) (us := seg L2 o2 (m * ei.size)) (by rw [length_seg hfit2]; omega) hone
  simp [Builtin.append_, h0, h1, run_underlying hu, hei.run_sizeOf, hl, hroom, hf, addr_add, hst]

/-- Copying. -/
theorem raw_copy {ats : Array TypeId} {ty : TypeId} (h0 : ats[0]? = some t) (hi : TyOk1 P t i) (hd : i.d = .sl e) (hei : TyOk1 P e ei) {b o n cap : Nat} {b2 o2 m c2 k : Nat} {el el2 : TypeId} {L L2 : List Value} (hk : k = min m n)
    (hb : Blk w b el L) (hb2 : Blk w b2 el2 L2) (hfit : o + k * ei.size ≤ L.length) (hfit2 : o2 + k * ei.size ≤ L2.length) (hone : ∀ u ∈ seg L2 o2 (k * ei.size), u.oneCell' = true) :
    (Builtin.copy_ ats ty #[.slice (some ⟨b, o, none⟩) n cap, .slice (some ⟨b2, o2, none⟩) m c2]).run P w = .ok (goInt k) (w.setRow b (splice L o (seg L2 o2 (k * ei.size))).toArray) := by
  have hu := hi.slice hd
  have hl : (Builtin.lenOf (.slice (some ⟨b2, o2, none⟩) m c2)).run P w = .ok m w := rfl
  have hf := run_firstRow (P := P) (m := m) (cap := c2) hb2 hfit2
  have hst := hb.store (P := P) (o := o) (us := seg L2 o2 (k * ei.size)) (by rw [length_seg hfit2]; omega) hone
  have hkk : Nat.min m n = k := by rw [hk]
  simp [Builtin.copy_, h0, run_underlying hu, hei.run_sizeOf, hl, hkk, hf, hst]

theorem zero_one (_hei : TyOk1 P e ei) {z : Value} (_hz : (zeroValue e).run P w = .ok z w) (hone : ∀ u ∈ ei.zero, u.oneCell' = true) (hzz : z.cells.toList = ei.zero) (hsz : 0 < ei.zero.length) (n : Nat) :
    (Builtin.zeroCells z.cells n).size = n * ei.zero.length ∧ (∀ u ∈ (Builtin.zeroCells z.cells n).toList, u.oneCell' = true) ∧ ∀ k, k < n * ei.zero.length → (Builtin.zeroCells z.cells n).toList[k]? = ei.zero[k % ei.zero.length]? := by
  have hs : z.cells.size = ei.zero.length := by rw [← hzz]; simp
  refine ⟨by simp [Builtin.zeroCells, hs], fun u hu => ?_, fun k hk => ?_⟩
  · simp only [Builtin.zeroCells, Array.toList_map, List.mem_map] at hu
    obtain ⟨k, hk, rfl⟩ := hu
    have hlt : k % z.cells.size < z.cells.size := Nat.mod_lt _ (by omega)
    apply hone
    rw [← hzz, getElem!_pos z.cells _ hlt]
    simp
  · have hlt : k % z.cells.size < z.cells.size := Nat.mod_lt _ (by omega)
    rw [← hs] at hk
    simp only [Builtin.zeroCells, Array.toList_map, List.getElem?_map, Array.toList_range]
    rw [List.getElem?_range hk, Option.map_some, getElem!_pos z.cells _ hlt, ← hs, ← hzz, Array.getElem?_toList, Array.getElem?_eq_getElem hlt]

/-- Clearing. -/
theorem raw_clear {ats : Array TypeId} {ty : TypeId} (h0 : ats[0]? = some t) (hi : TyOk1 P t i) (hd : i.d = .sl e) (hei : TyOk1 P e ei) (hone : ∀ u ∈ ei.zero, u.oneCell' = true) (hsz : ei.zero.length = ei.size) (hs0 : 0 < ei.size)
    {b o n cap : Nat} {el : TypeId} {L : List Value} (hb : Blk w b el L) (hn : 0 < n) (hfit : o + n * ei.size ≤ L.length) :
    ∃ us, us.length = n * ei.size ∧ (Builtin.clear_ ats ty #[.slice (some ⟨b, o, none⟩) n cap]).run P w = .ok (.tuple #[]) (w.setRow b (splice L o us).toArray) ∧ ∀ k, k < n * ei.size → us[k]? = ei.zero[k % ei.size]? := by
  have hu := hi.slice hd
  obtain ⟨z, hz1, hz2⟩ := hei.run_zeroValue w
  obtain ⟨g1, g2, g3⟩ := zero_one hei hz1 hone hz2 (by omega) n
  refine ⟨(Builtin.zeroCells z.cells n).toList, by simpa [hsz] using g1, ?_, by rw [← hsz]; exact g3⟩
  have hst := hb.store (P := P) (o := o) (us := (Builtin.zeroCells z.cells n).toList) (by simp [g1, hsz]; exact hfit) g2
  obtain ⟨m, rfl⟩ : ∃ m, n = m + 1 := ⟨n - 1, by omega⟩
  simp [Builtin.clear_, h0, run_underlying hu, hz1, hst]

end
end Go.V

/-! Owned rows are cleared where they stand. -/
namespace Go.V
open Go.RowKit

variable {α : Type}

section
variable {c : Ctx} {B : Base} {s : Sit} {x : X} {a : Act} {w : World}

/-- Another world: turned is only what nobody here speaks of. -/
theorem RelW.worldO (h : RelW B s x a w) {w' : World} {O : Nat → Prop} (hO : ∀ b, O b → (∀ f, ¬ s.S f b) ∧ (∀ r p y, s.Φ r p = some y → blkOf y ≠ some b) ∧ (B.O0 b ∨ B.w0.heap.size ≤ b))
    (hb : ∀ b, b < w.heap.size → ¬ O b → w'.heap[b]? = w.heap[b]?) (hs : w.heap.size ≤ w'.heap.size) (h1 : w'.os = w.os) (h2 : w'.tape = w.tape) (h3 : w'.output = w.output) : RelW B s x a w' :=
  have hS : ∀ f b, s.S f b → w'.heap[b]? = w.heap[b]? := fun f b hR => hb b (h.slt f b hR) (fun e => (hO b e).1 f hR)
  { h with
    env := fun k d hd => by
      obtain ⟨v, e1, e2⟩ := h.env k d hd
      exact ⟨v, e1, e2.mono hS (fun _ _ h => h) rfl (fun _ _ => rfl)⟩
    roots := fun r t hr => by
      obtain ⟨y, hy⟩ := h.roots r t hr
      exact ⟨y, hy.mono hS (fun _ _ h => h) (fun p z b hz hbz => hb b (h.own _ _ _ _ hz hbz).2.1 (fun e => (hO b e).2.1 _ _ _ hz hbz))⟩
    own := fun r p y b e1 e2 => by
      have := h.own r p y b e1 e2
      exact ⟨this.1, by omega, this.2.2⟩
    slt := fun f b hR => by have := h.slt f b hR; omega
    os := h1.trans h.os
    tape := h2.trans h.tape
    output := h3.trans h.output
    grow := by have := h.grow; omega
    kept := fun b e1 e2 => by
      rw [hb b (by have := h.grow; omega) (fun e => by
        rcases (hO b e).2.2 with g | g
        · exact e2 g
        · omega)]
      exact h.kept b e1 e2
    glob := fun g t hg => (h.glob g t hg).mono hS (fun _ _ h => h) }

theorem slTop {S : Fl → Nat → Prop} {e : Ty} {xs : List (den e)} {v : Value} {φ : Lay} (h : RepO w S (.sl .own e xs) v φ) : φ [] = some v := by
  cases h with
  | sh _ _ _ ht => simp [T.isSh] at ht
  | nil _ _ _ h0 => exact h0
  | sl _ _ _ _ _ _ _ _ _ _ _ _ _ _ h0 => exact h0
  | box _ _ ht => simp [T.box?] at ht

/-- An owned slice is taken out, its block turns, and it is put in again. -/
theorem RelW.refill (h : RelW B s x a w) {r : Nat} {p : Path} (hp : p ≠ []) {e : Ty} {xs : List (den e)} {x1 : X} (h1 : x.at r p = some (.sl .own e xs)) (h2 : x.setAt r p (.sl .own e xs) .dead = some x1) :
    ∃ y s1, RepO w s.S (.sl .own e xs) y ((s.Φ r).under p) ∧ s.Φ r p = some y ∧ s1.S = s.S ∧ OwnOut B s1 w ((s.Φ r).under p) ∧
      ∀ (w' : World) (n old1 : T) (ψ : Lay) (x2 : X), (∀ b, b < w.heap.size → (∀ q z, (s.Φ r).under p q = some z → blkOf z ≠ some b) → w'.heap[b]? = w.heap[b]?) → w.heap.size ≤ w'.heap.size → w'.os = w.os → w'.tape = w.tape → w'.output = w.output →
        Same w' w' → RepO w' s.S n y ψ → OwnOut B s1 w' ψ → x1.at r p = some old1 → x1.setAt r p old1 n = some x2 → ∃ s2, RelW B s2 x2 a w' ∧ s2.Φ r p = ψ [] ∧ s2.S = s.S := by
  obtain ⟨q0, i, j, rfl⟩ := last_split hp
  obtain ⟨rowR, k1, k2⟩ := Option.bind_eq_some_iff.mp h1
  obtain ⟨y0, hy0⟩ := h.roots r rowR k1
  obtain ⟨rw1, y, hrw, hch, hu, hblk, hcell⟩ := place_cell hy0 k2
  obtain ⟨-, -, ht1, ho1⟩ := h.take h1 h2
  refine ⟨y, setΦ s r ((s.Φ r).graft (q0 ++ [(i, j)]) noLay), hu, ?_, rfl, ho1, fun w' n old1 ψ x2 hb hs ho2 ht2 hout2 hsame hn ho' g1 g2 => ?_⟩
  · have := slTop hu
    rwa [Lay.under_apply_nil] at this
  have hW := ht1.worldO (w' := w') (O := fun b => ∃ q z, (s.Φ r).under (q0 ++ [(i, j)]) q = some z ∧ blkOf z = some b) (fun b ⟨q, z, e1, e2⟩ => ⟨(ho1.own q z b e1 e2).1, ho1.out q z b e1 e2, (ho1.own q z b e1 e2).2.2⟩)
    (fun b hlt hn => hb b hlt (fun q z e1 e2 => hn ⟨q, z, e1, e2⟩)) hs ho2 ht2 hout2
  have hrow1 : ∃ row1 row1', x.at r q0 = some row1 ∧ putChild row1 i j .dead = some row1' ∧ x1.at r q0 = some row1' := by
    unfold X.setAt at h2
    split at h2
    · cases h2
    · obtain ⟨row, e1, h2⟩ := Option.bind_eq_some_iff.mp h2
      obtain ⟨row', e2, rfl⟩ := Option.map_eq_some_iff.mp h2
      obtain ⟨t', e3, e4⟩ := Option.bind_eq_some_iff.mp e2
      obtain ⟨row1, row1', f1, f2, f3⟩ := setT_snoc e3
      have e5 : t' = .vr row' := by
        cases t' <;> first | (simp only [Option.some.injEq] at e4; rw [e4]) | cases e4
      subst e5
      refine ⟨row1, row1', by simp only [X.at, e1, Option.bind_some]; exact f1, f2, ?_⟩
      have : look (x.turned r (q0 ++ [(i, j)]) row' (and (T.sl Fl.own e xs).isSh T.dead.isSh)).roots r = some row' := by
        unfold X.turned
        split <;> simp [look_cons]
      simp only [X.at, this, Option.bind_some]
      exact f3
  obtain ⟨row1, row1', r1, r2, r3⟩ := hrow1
  have hq0 : (setΦ s r ((s.Φ r).graft (q0 ++ [(i, j)]) noLay)).Φ r q0 = s.Φ r q0 := by
    rw [setΦ_same, graft_eq]
    have : strip (q0 ++ [(i, j)]) q0 = none := by
      cases es : strip (q0 ++ [(i, j)]) q0 with
      | none => rfl
      | some p' => have := congrArg List.length (strip_some es); simp at this
    rw [this]
  have hfin := hW.setAt (w' := w') (ψ := ψ) (y := y) (n := n) g1 g2 hn ho' hsame (fun _ _ => rfl) (fun row' hr' => by
    rw [r3, Option.some.injEq] at hr'
    subst hr'
    rw [hq0]
    have hrw' : x.at r q0 = some rw1 := by simp only [X.at, k1, Option.bind_some]; exact hrw
    rw [r1, Option.some.injEq] at hrw'
    subst hrw'
    have hid := fun k l => putChild_idx r2 (s.Φ r q0) k l
    cases hrv : row1' with
    | vr cs => trivial
    | _ =>
      have hnv1 : ∀ cs, row1 ≠ .vr cs := by
        intro cs e1
        subst e1
        simp only [putChild] at r2
        split at r2
        · cases r2; cases hrv
        · cases r2
      have hb2 : ∃ b, (s.Φ r q0).bind blkOf = some b ∧ ∀ arr el, w'.heap[b]? = some (.cells arr el (0, 0)) → w'.heap[b]? = some (.cells (arr.setIfInBounds (row1.idx (s.Φ r q0) i j) y) el (0, 0)) := by
        revert hblk
        unfold RowBlk
        split
        · exact absurd rfl (hnv1 _)
        · rintro ⟨b, f1, f2⟩
          refine ⟨b, f1, fun arr el ha => ?_⟩
          obtain ⟨z, f3, f4⟩ := Option.bind_eq_some_iff.mp f1
          have hbb : w'.heap[b]? = w.heap[b]? := hb b (h.own r q0 z b f3 f4).2.1 (fun q z' e1 e2 => ho1.out q z' b e1 e2 r q0 z (by rw [hq0]; exact f3) f4)
          rw [hbb] at ha ⊢
          exact f2 arr el ha
      rw [← (hid i j).1, hrv] at hb2
      exact hb2)
  refine ⟨_, hfin, ?_, rfl⟩
  rw [setΦ_same, graft_eq]
  have : strip (q0 ++ [(i, j)]) (q0 ++ [(i, j)]) = some [] := by
    have := strip_append (q0 ++ [(i, j)]) []
    rwa [List.append_nil] at this
  rw [this]

end
end Go.V

/-! The operation that clears. -/
namespace Go.V
open Go.RowKit

variable {α : Type}

def samePath : Path → Path → Bool
  | [], [] => true
  | a :: p, b :: q => and (Nat.beq a.1 b.1) (and (Nat.beq a.2 b.2) (samePath p q))
  | _, _ => false

theorem samePath_eq : ∀ {p q : Path}, samePath p q = true → p = q
  | [], [], _ => rfl
  | [], _ :: _, h => by cases h
  | _ :: _, [], h => by cases h
  | (a, b) :: p, (c, d) :: q, h => by
    simp only [samePath, Bool.and_eq_true] at h
    rw [Nat.eq_of_beq_eq_true h.1, Nat.eq_of_beq_eq_true h.2.1, samePath_eq h.2.2]

/-- A cell that speaks of the slice at this place. -/
def hereC (r : Nat) (p : Path) : C → Bool
  | .own r' p' _ => and (Nat.beq r' r) (samePath p' p)
  | .sub r' p' _ _ _ => and (Nat.beq r' r) (samePath p' p)
  | _ => false

def hereE (env : List (Nat × D)) (r : Nat) (p : Path) : List (Nat × D) → List (Nat × D)
  | [] => []
  | e :: l => match look env e.1 with
    | some d => match d with
      | .v (.c y) => match hereC r p y with
        | true => (e.1, d) :: hereE env r p l
        | false => hereE env r p l
      | _ => hereE env r p l
    | none => hereE env r p l

theorem hereE_some {env : List (Nat × D)} {r : Nat} {p : Path} : ∀ {l : List (Nat × D)} {k : Nat} {d : D}, look (hereE env r p l) k = some d → look env k = some d ∧ ∃ y, d = .v (.c y) ∧ hereC r p y = true
  | [], k, d, h => by cases h
  | e :: l, k, d, h => by
    unfold hereE at h
    split at h
    · rename_i d' hd
      split at h
      · rename_i y
        split at h
        · rename_i hh
          rw [look_cons] at h
          split at h
          · rename_i hk
            simp only [Option.some.injEq] at h
            subst hk h
            exact ⟨hd, y, rfl, hh⟩
          · exact hereE_some h
        · exact hereE_some h
      · exact hereE_some h
    · exact hereE_some h

/-- Where a part of an owned slice is. -/
def subC : C → Option (Nat × (Path × (Nat × (Nat × Ty))))
  | .sub r p lo n e => some (r, (p, (lo, (n, e))))
  | _ => none

def clearK (cx : Ctx) (x : X) (t : TypeId) (d : D) (K : X → Option α) : Option α :=
  (look cx.Ty t).bind fun i => match i.d with
    | .sl e => (look cx.Ty e).bind fun ei => (d.one).bind fun y => (subC y).bind fun z => match z.2.1 with
      | [] => none
      | _ :: _ => match and (Nat.beq z.2.2.2.2.size ei.size) (and (Nat.beq ei.ty.size ei.size) (and (Nat.ble 1 ei.size) (and (zeroOk ei.zero ei.zel) (and (Nat.beq ei.zero.length ei.size) (allB Value.oneCell' ei.zero))))) with
        | true => (packAll .own ei.ty (zTs ei.zero ei.zel)).bind fun z0 => setAtK x z.1 z.2.1 .dead fun t x1 => match t with
          | .sl .own e1 xs => (cast? (.sl e1) (.sl ei.ty) xs).bind fun xs =>
            setAtK x1 z.1 z.2.1 (.sl .own ei.ty (app (xs.take z.2.2.1) (app (List.replicate z.2.2.2.1 z0) (xs.drop (z.2.2.1 + z.2.2.2.1))))) fun _ x2 => K { x2 with env := app (hereE x.env z.1 z.2.1 x.env) x2.env }
          | _ => none
        | false => none
    | _ => none

section
variable {c : Ctx} {B : Base} {s : Sit} {x : X} {a : Act} {w : World}

theorem zrows {e : Ty} {zs : List Value} {zel : List (Option Ty)} {z0 : den e} {n : Nat} {us : List Value} (hp : cells .own e z0 = zTs zs zel) (hl : zs.length = e.size) (hul : us.length = n * e.size)
    (hu : ∀ k, k < n * e.size → us[k]? = zs[k % e.size]?) (htk : Taken B s w (zTs zs zel) (fun j => (zs[j]?).getD .nilIface) (zLay zel)) : RowsAt w s.S e (List.replicate n z0) us (zrLay n zel) := by
  have hzat : ∀ i j, i < n → (zrLay n zel).at i j = (zLay zel).at 0 j := by
    intro i j hi
    funext q
    simp only [Lay.at, zrLay, if_pos hi]
  refine ⟨by simpa using hul, fun i j t e' => ?_, fun i j e' => ?_⟩
  · have hij := rows_lt e'
    simp only [List.length_replicate] at hij
    rw [cellOf_rows, List.getElem?_replicate, if_pos hij.1, Option.bind_some, nth_eq, hp] at e'
    have hg := htk.get j t e'
    rw [hzat i j hij.1]
    have hlt : i * e.size + j < n * e.size := by
      have : (i + 1) * e.size ≤ n * e.size := Nat.mul_le_mul_right _ hij.1
      rw [Nat.add_mul] at this; omega
    refine ⟨_, ?_, hg⟩
    rw [hu _ hlt, Nat.mul_comm i, Nat.mul_add_mod, Nat.mod_eq_of_lt hij.2, List.getElem?_eq_getElem (by omega)]; rfl
  · by_cases hi : i < n
    · rw [hzat i j hi]
      rw [cellOf_rows, List.getElem?_replicate, if_pos hi, Option.bind_some, nth_eq, hp] at e'
      exact htk.out 0 j (.inr e')
    · funext q; simp only [Lay.at, zrLay, if_neg hi]; rfl

theorem look_appC {β : Type} (l m : List (Nat × β)) (k : Nat) : look (app l m) k = match look l k with | some x => some x | none => look m k := by
  induction l with
  | nil => rfl
  | cons e l ih =>
    obtain ⟨j, b⟩ := e
    simp only [app, look_cons]
    by_cases h : k = j
    · simp [h]
    · simp [h, ih]

theorem subC_some {y : C} {z : Nat × (Path × (Nat × (Nat × Ty)))} (h : subC y = some z) : y = .sub z.1 z.2.1 z.2.2.1 z.2.2.2.1 z.2.2.2.2 := by
  cases y <;> simp only [subC, Option.some.injEq, reduceCtorEq] at h
  subst h; rfl

/-- The slices that stand at this place are spoken of as before. -/
theorem RelW.here {s2 : Sit} {x2 : X} {w' : World} (h : RelW B s x a w) (h2 : RelW B s2 x2 a w') {r : Nat} {p : Path} {v : Value} (h3 : s.Φ r p = some v) (h4 : s2.Φ r p = some v) :
    RelW B s2 { x2 with env := app (hereE x.env r p x.env) x2.env } a w' :=
  { h2 with
    env := fun k d hd => by
      have hd : look (app (hereE x.env r p x.env) x2.env) k = some d := hd
      rw [look_appC] at hd
      cases hk : look (hereE x.env r p x.env) k with
      | none => rw [hk] at hd; exact h2.env k d hd
      | some d' =>
        rw [hk] at hd
        simp only [Option.some.injEq] at hd
        subst hd
        obtain ⟨f1, y, rfl, f2⟩ := hereE_some hk
        obtain ⟨u, f3, f4⟩ := h.env k _ f1
        refine ⟨u, f3, ?_⟩
        cases f4 with
        | v _ _ f4 => cases f4 with
          | c _ _ f4 =>
            refine .v _ _ (.c _ _ ?_)
            cases f4 with
            | own r' p' e _ hΦ =>
              simp only [hereC, Bool.and_eq_true] at f2
              rw [Nat.eq_of_beq_eq_true f2.1, samePath_eq f2.2] at hΦ ⊢
              rw [h3] at hΦ
              exact .own r p e _ (by rw [h4]; exact hΦ)
            | sub r' p' lo n e a0 a1 n0 cap cap' hΦ hle hcap hcn hcc h0 hn =>
              simp only [hereC, Bool.and_eq_true] at f2
              rw [Nat.eq_of_beq_eq_true f2.1, samePath_eq f2.2] at hΦ ⊢
              rw [h3] at hΦ
              exact .sub r p lo n e a0 a1 n0 cap cap' (by rw [h4]; exact hΦ) hle hcap hcn hcc h0 hn
            | _ => simp [hereC] at f2 }

theorem clear_sound (h : RelW B s x a w) {t ty : TypeId} {d : D} {v : Value} (hv : RepD w s d v) {K : X → Option α} {q : α} (he : clearK c x t d K = some q) :
    ∃ x' s' w', K x' = some q ∧ (Builtin.clear_ #[t] ty #[v]).run c.P w = .ok (.tuple #[]) w' ∧ RelW B s' x' a w' := by
  unfold clearK at he
  obtain ⟨i, e1, he⟩ := Option.bind_eq_some_iff.mp he
  have hi := c.hTy t i e1
  split at he
  rotate_left
  · cases he
  rename_i e hel
  have hu := hi.slice hel
  obtain ⟨ei, e2, he⟩ := Option.bind_eq_some_iff.mp he
  have hei := c.hTy e ei e2
  obtain ⟨y, hy, he1⟩ := Option.bind_eq_some_iff.mp he
  obtain ⟨z, hz, he2⟩ := Option.bind_eq_some_iff.mp he1
  clear he he1
  have hy' : d = .v (.c y) := by unfold D.one at hy; split at hy <;> cases hy; rfl
  subst hy'
  have hrc : RepC w s y v := by cases hv with | v _ _ hv => cases hv with | c _ _ hv => exact hv
  obtain ⟨r, p, lo, n, e0⟩ := z
  have hz := subC_some hz
  simp only at hz he2
  subst hz
  obtain ⟨c0, p0, rfl⟩ : ∃ c0 p0, p = c0 :: p0 := by
    cases p with
    | nil => cases he2
    | cons c0 p0 => exact ⟨c0, p0, rfl⟩
  simp only at he2
  split at he2
  rotate_left
  · cases he2
  rename_i hb
  simp only [Bool.and_eq_true] at hb
  obtain ⟨hb0, hb1, hb2, hb3, hb4, hb5⟩ := hb
  have hb0 := Nat.eq_of_beq_eq_true hb0
  have hb1 := Nat.eq_of_beq_eq_true hb1
  have hb2 := Nat.le_of_ble_eq_true hb2
  have hb4 := Nat.eq_of_beq_eq_true hb4
  have hone := (allB_iff _ _).1 hb5
  obtain ⟨z0, e7, he3⟩ := Option.bind_eq_some_iff.mp he2
  clear he2
  have hz0 := packAll_some e7
  obtain ⟨old, x1, h1, h2, he⟩ := setAtK_some he3
  clear he3
  split at he
  rotate_left
  · cases he
  rename_i et xs0
  obtain ⟨xs, h3, he4⟩ := Option.bind_eq_some_iff.mp he
  clear he
  obtain ⟨e4, rfl⟩ := cast?_some h3
  cases e4
  obtain ⟨old1, x2, g1, g2, heK⟩ := setAtK_some he4
  clear he4
  simp only [app_eq] at g2
  obtain ⟨y, s1, hrep, hΦ, hs1, ho1, hfin⟩ := h.refill (by simp) h1 h2
  generalize hp : c0 :: p0 = p at *
  cases hrc with
  | sub _ _ _ _ _ ad a' n0 cap cap' hΦ' hle hcap hcn hcc h0 hn =>
  rw [hΦ, Option.some.injEq] at hΦ'
  subst hΦ'
  have htop : ((s.Φ r).under p) [] = some (.slice ad n0 cap) := by rw [Lay.under_apply_nil]; exact hΦ
  by_cases hn0 : n = 0
  · subst hn0
    have hxs : xs0.take lo ++ ([] ++ xs0.drop (lo + 0)) = xs0 := by simp
    rw [List.replicate_zero, hxs] at g2
    obtain ⟨s2, k1, k2, -⟩ := hfin w _ old1 _ x2 (fun _ _ _ => rfl) (Nat.le_refl _) rfl rfl rfl (Same.refl w) hrep ho1 g1 g2
    refine ⟨_, s2, w, heK, ?_, h.here k1 hΦ (by rw [k2, htop])⟩
    cases a' <;> simp [Builtin.clear_, run_underlying hu]
  · have hrep0 := hrep
    generalize hω : (s.Φ r).under p = ω at *
    cases hrep with
    | sh _ _ _ ht => simp [T.isSh] at ht
    | nil _ _ φ k0 kn => simp at hle; omega
    | sl _ _ b off cap arr el vs φ hbk hcapk hsz hcc' hr k0 kn =>
      obtain ⟨b', off', f1, f2⟩ := hn (by omega)
      simp only [Option.some.injEq, Addr.mk.injEq, and_true] at f1
      obtain ⟨rfl, rfl⟩ := f1
      subst f2
      rw [hb0]
      generalize hsz' : ei.size = sz at *
      have hblk : Blk w b el arr.toList := by unfold Blk; rw [hbk]
      rw [hb1] at hsz
      have m1 : (cap + 1) * sz ≥ xs0.length * sz := Nat.mul_le_mul_right _ hcapk
      have m2 : lo * sz + n * sz ≤ xs0.length * sz := by rw [← Nat.add_mul]; exact Nat.mul_le_mul_right _ hle
      have hfitc : off + lo * sz + n * ei.size ≤ arr.toList.length := by rw [hsz']; simp; omega
      obtain ⟨us, q1, q2, q3⟩ := raw_clear (P := c.P) (ats := #[t]) (ty := ty) (o := off + lo * sz) (n := n) (cap := cap') rfl hi hel hei hone (by rw [hb4, hsz']) (by omega) hblk (by omega) hfitc
      rw [hsz'] at q1 q3
      have hfit : off + xs0.length * sz ≤ arr.toList.length := by simp; omega
      have hrows : RowsAt w s.S ei.ty xs0 (seg arr.toList off (xs0.length * sz)) (fun q => match q with | [] => none | q => ω q) := by
        refine ⟨by rw [hb1]; exact length_seg hfit, fun k l t e' => ⟨vs k l, ?_, hr k l t e'⟩, fun k l e' => kn k l e'⟩
        have hkl := rows_lt e'
        have hk2 : k * ei.ty.size + l < xs0.length * ei.ty.size := by
          have : (k + 1) * ei.ty.size ≤ xs0.length * ei.ty.size := Nat.mul_le_mul_right _ hkl.1
          rw [Nat.add_mul] at this; omega
        rw [hb1] at hk2 ⊢
        rw [get_seg hk2, Array.getElem?_toList]
        have := hcc' k l t e'
        rwa [hb1] at this
      have htk := zTaken (B := B) (s := s) (w := w) hb3
      have hzr := zrows (n := n) (us := us) hz0.symm (by rw [hb4, hb1]) (by rw [hb1]; exact q1) (by rw [hb1]; exact q3) htk
      have hall := (hrows.take lo).append (hzr.append (hrows.drop (lo + n)))
      have hlen1 : (xs0.take lo).length = lo := by rw [List.length_take]; omega
      rw [hlen1, List.length_replicate] at hall
      have hzl : ∀ q y, zrLay n ei.zel q = some y → blkOf y = none := by
        intro q y hq
        cases q with
        | nil => cases hq
        | cons c0 q =>
          simp only [zrLay] at hq
          split at hq
          · match q with
            | [] =>
              simp only [zLay, if_true] at hq
              split at hq
              · cases hq; rfl
              · cases hq
            | _ :: _ => cases hq
          · cases hq
      have hχ : ∀ q y b1, (catLay lo (takeLay lo fun q => match q with | [] => none | q => ω q) (catLay n (zrLay n ei.zel) (dropLay (lo + n) fun q => match q with | [] => none | q => ω q))) q = some y → blkOf y = some b1 → q ≠ [] ∧ ω q = some y := by
        intro q y b1 hq hb1
        cases q with
        | nil => cases hq
        | cons c0 q =>
          obtain ⟨k, l⟩ := c0
          refine ⟨by simp, ?_⟩
          simp only [catLay] at hq
          split at hq
          · rename_i hk
            simp only [takeLay, if_pos hk] at hq; exact hq
          · rename_i hk
            split at hq
            · exact absurd ((hzl _ _ hq).symm.trans hb1) nofun
            · rename_i hk2
              simp only [dropLay] at hq
              have : k - lo - n + (lo + n) = k := by omega
              rw [this] at hq; exact hq
      have hbS : ∀ f, ¬ s.S f b := by
        intro f hS
        exact (ho1.own [] _ b k0 rfl).1 f (by rw [hs1]; exact hS)
      have hother : ∀ k, k ≠ b → (w.setRow b (splice arr.toList (off + lo * sz) us).toArray).heap[k]? = w.heap[k]? := fun k hk => setRow_other w b k _ hk
      have hall' := hall.mono (w' := w.setRow b (splice arr.toList (off + lo * sz) us).toArray) (fun f b' hS => hother b' (fun e => hbS f (e ▸ hS))) (fun c1 p1 y1 b1 d1 d2 => hother b1 (fun e => by
        subst e
        obtain ⟨_, d3⟩ := hχ _ _ _ d1 d2
        have := ho1.inj _ _ _ _ b1 d3 d2 k0 rfl
        cases this))
      have hfu : off + lo * sz + us.length ≤ arr.toList.length := by rw [q1]; simp; omega
      have hsl : (splice arr.toList (off + lo * sz) us).length = arr.toList.length := length_splice hfu
      have hxl : (xs0.take lo ++ (List.replicate n z0 ++ xs0.drop (lo + n))).length = xs0.length := by simp only [List.length_append, hlen1, List.length_replicate, List.length_drop]; omega
      have hto := hall'.toSl (b := b) (off := off) (cap := cap) (arr := (splice arr.toList (off + lo * sz) us).toArray) (el := el) (setRow_heap w b _ _ el (0, 0) hbk) (by rw [hxl]; exact hcapk) (by rw [hb1, List.size_toArray, hsl]; simpa using hsz) (fun k u hk => ?_)
      rotate_left
      · rw [List.getElem?_toArray, get_splice hfu, q1]
        rw [hb1] at hk
        have l1 : ((seg arr.toList off (xs0.length * sz)).take (lo * sz)).length = lo * sz := by rw [List.length_take, length_seg hfit]; omega
        rw [List.getElem?_append, l1] at hk
        split at hk
        · rename_i hk1
          have : off + k < off + lo * sz := by omega
          rw [if_pos this]
          rw [List.getElem?_take, if_pos hk1] at hk
          have hk3 : k < xs0.length * sz := by omega
          rwa [get_seg hk3] at hk
        · rename_i hk1
          have : ¬ off + k < off + lo * sz := by omega
          rw [if_neg this]
          rw [List.getElem?_append, q1] at hk
          split at hk
          · rename_i hk2
            have h6 : off + k < off + lo * sz + n * sz := by omega
            rw [if_pos h6, ← hk]
            congr 1; omega
          · rename_i hk2
            have h6 : ¬ off + k < off + lo * sz + n * sz := by omega
            rw [if_neg h6]
            rw [List.getElem?_drop] at hk
            have m3 : (lo + n) * sz = lo * sz + n * sz := Nat.add_mul _ _ _
            have e9 : (lo + n) * sz + (k - lo * sz - n * sz) = k := by omega
            rw [e9] at hk
            have hk3 : k < xs0.length * sz := by
              have := (List.getElem?_eq_some_iff.mp hk).1
              rwa [length_seg hfit] at this
            rwa [get_seg hk3] at hk
      rw [hxl] at hto
      have hout : OwnOut B s1 (w.setRow b (splice arr.toList (off + lo * sz) us).toArray) (topLay (.slice (some ⟨b, off, none⟩) xs0.length (cap + 1)) (catLay lo (takeLay lo fun q => match q with | [] => none | q => ω q) (catLay n (zrLay n ei.zel) (dropLay (lo + n) fun q => match q with | [] => none | q => ω q)))) := by
        have key : ∀ q y b1, topLay (.slice (some ⟨b, off, none⟩) xs0.length (cap + 1)) (catLay lo (takeLay lo fun q => match q with | [] => none | q => ω q) (catLay n (zrLay n ei.zel) (dropLay (lo + n) fun q => match q with | [] => none | q => ω q))) q = some y → blkOf y = some b1 → ω q = some y := by
          intro q y b1 d1 d2
          cases q with
          | nil => simp only [topLay, Option.some.injEq] at d1; subst d1; exact k0
          | cons c1 q1 => exact (hχ (c1 :: q1) y b1 d1 d2).2
        exact ⟨fun q y q' y' b1 d1 d2 d3 d4 => ho1.inj _ _ _ _ b1 (key _ _ _ d1 d2) d2 (key _ _ _ d3 d4) d4, fun q y b1 d1 d2 => by
            have := ho1.own _ _ _ (key _ _ _ d1 d2) d2
            exact ⟨this.1, by rw [setRow_size]; exact this.2.1, this.2.2⟩, fun q y b1 d1 d2 => ho1.out _ _ _ (key _ _ _ d1 d2) d2⟩
      obtain ⟨s2, k1, k2, -⟩ := hfin _ _ old1 _ x2 (fun b1 _ hb1 => hother b1 (fun e => hb1 [] _ k0 (by rw [e]; rfl))) (by rw [setRow_size]; exact Nat.le_refl _) rfl rfl rfl (Same.refl _) hto hout g1 g2
      exact ⟨_, s2, _, heK, q2, h.here k1 hΦ (by rw [k2]; rfl)⟩

end
end Go.V

/-! So many zeros appended to nothing. -/
namespace Go.V
open Go.RowKit

variable {α : Type}

/-- A number stands where the elements would: so many zeros are meant. -/
def zerosT (cx : Ctx) (ats : List TypeId) : Bool := match nth ats 1 with
  | some xt => match look cx.Ty xt with
    | some xi => match xi.d with
      | .int _ => true
      | _ => false
    | none => false
  | none => false

def zerosK (cx : Ctx) (nt : Fr) (x : X) (ats : Array TypeId) (d1 d2 : D) (k : Nat) (K : X → Option α) : Option α :=
  (nth ats.toList 0).bind fun st => (nth ats.toList 1).bind fun xt => (look cx.Ty st).bind fun i => (look cx.Ty xt).bind fun xi => match i.d with
    | .sl e => (look cx.Ty e).bind fun ei => (d1.one).bind fun y => (d2.val).bind fun nv => match nv with
      | .int kk n => match and (kindEq kk .i64) (and (isNilC y) (and (Nat.beq ei.ty.size ei.size) (and (Nat.ble 1 ei.size) (and (Nat.ble 1 ei.bytes) (and (zeroOk ei.zero ei.zel) (and (Nat.beq ei.zero.length ei.size) (match xi.d with | .int _ => true | _ => false))))))) with
        | true => (packAll .own ei.ty (zTs ei.zero ei.zel)).bind fun z0 =>
          cond (and (decide (1 ≤ n)) (roomOk false 0 n.toNat ei.bytes)) (newK nt x k (.sl .own ei.ty (List.replicate n.toNat z0)) (.own k [(0, 0)] ei.ty) K) none
        | false => none
      | _ => none
    | _ => none

section
variable {P : Program} {w : World} {t e : TypeId} {i ei : TyInfo}

theorem run_zeros {ats : Array TypeId} {xt ty : TypeId} {kk : IntKind} (h0 : ats[0]? = some t) (h1 : ats[1]? = some xt) (hi : TyOk1 P t i) (hd : i.d = .sl e) (hxu : P.underlying xt = some (.int kk)) (hei : TyOk1 P e ei)
    {base : Option Addr} {n : Nat} (hn : 0 < n) (hs : 0 < ei.size) (hb : 0 < ei.bytes) (hcap : Builtin.nextslicecap n 0 * ei.bytes ≤ 2 ^ 48) (hnb : n * ei.bytes ≤ 2 ^ 48) :
    ∃ (newCap : Nat) (z : Value), z.cells.toList = ei.zero ∧ n ≤ newCap ∧ (Builtin.append_ ats ty #[.slice base 0 0, .int .i64 n]).run P w =
      .ok (.slice (some ⟨w.heap.size, 0, none⟩) n newCap) { w with drawn := w.drawn + 1, heap := w.heap.push (.cells (Builtin.zeroCells z.cells n ++ Builtin.zeroCells z.cells (newCap - n)) e) } := by
  have hu := hi.slice hd
  obtain ⟨j, hj, hj1, hj2⟩ := hei.run_typeInfo w
  obtain ⟨z, hz1, hz2⟩ := hei.run_zeroValue { w with drawn := w.drawn + 1 }
  have hm1 : n ≤ n * ei.bytes := Nat.le_mul_of_pos_right _ hb
  have hw : IntKind.i64.wrap (n : Int) = n := by
    unfold IntKind.wrap
    simp [IntKind.signed, IntKind.bits]
    omega
  have hno : ¬ (j.bytes = 0) := by rw [hj2]; omega
  have hno2 : ¬ (Builtin.nextslicecap n 0 * j.bytes > 2 ^ 48) := by rw [hj2]; omega
  have hno3 : ¬ (281474976710656 < (n : Int) * (j.bytes : Int)) := by
    rw [hj2]
    have h5 := Int.ofNat_le.2 hnb
    rw [Int.natCast_mul] at h5
    omega
  have hno4 : ¬ ((n : Int) < 0) := by omega
  have hno5 : ¬ (9223372036854775807 < (n : Int)) := by omega
  have hgt : ¬ n = 0 := by omega
  have has : (asIntOf (Value.int .i64 (n : Int))).run P w = .ok (.i64, (n : Int)) w := rfl
  have hno6 : ¬ (n * ei.size = 0) := by
    have := Nat.mul_pos hn hs
    omega
  have hj' : ∀ d, (typeInfo e).run P { w with drawn := d } = .ok j { w with drawn := d } := by
    intro d
    obtain ⟨j', hj', _⟩ := hei.run_typeInfo { w with drawn := d }
    have : j' = j := by
      simp only [typeInfo, Sem.run_bind, run_program, Result.andThen_ok] at hj hj'
      cases e3 : P.info? e with
      | none => simp [e3] at hj
      | some q => simp [e3] at hj hj'; rw [← hj, ← hj']
    rw [hj', this]
  refine ⟨(Question.appendCap n 0 e).cut (w.tape w.drawn (.appendCap n 0 e)), z, hz2, ?_, ?_⟩
  · simp only [Question.cut]; omega
  · have hq : Question.forced (.appendCap n 0 e) = false := rfl
    have g1 : (typeInfo e).run P w.drew = .ok j w.drew := hj' _
    have g4 : (zeroValue e).run P w.drew = .ok z w.drew := hz1
    have g2 : ∀ w : World, (Builtin.firstCells ei.size 0 (.slice base 0 0)).run P w = .ok #[] w := fun w => by cases base <;> simp [Builtin.firstCells, loadCells, loadCellsFrom]
    simp [Builtin.append_, h0, h1, run_underlying hu, run_underlying hxu, hei.run_sizeOf, asInt, has, hw, hgt, hj, hno2, hno3, hno4, hno5, hno6, hq, g1, g2, g4, newRow]
    rfl
end

section
variable {c : Ctx} {B : Base} {s : Sit} {x : X} {a : Act} {w : World}

theorem zeros_sound {nt : Fr} (hnt : B.nt = nt) (h : RelW B s x a w) {ats : Array TypeId} {ty : TypeId} {d1 d2 : D} {v1 v2 : Value} (hv1 : RepD w s d1 v1) (hv2 : RepD w s d2 v2) {k : Nat} {K : X → Option α} {q : α}
    (he : zerosK c nt x ats d1 d2 k K = some q) :
    ∃ x' s' u w', K x' = some q ∧ (Builtin.append_ ats ty #[v1, v2]).run c.P w = .ok u w' ∧ RelW B s' x' (a.gput B k u) w' := by
  unfold zerosK at he
  obtain ⟨st, h00, he⟩ := Option.bind_eq_some_iff.mp he
  obtain ⟨xt, h11, he⟩ := Option.bind_eq_some_iff.mp he
  have h0 : ats[0]? = some st := by rw [nth_eq, Array.getElem?_toList] at h00; exact h00
  have h1 : ats[1]? = some xt := by rw [nth_eq, Array.getElem?_toList] at h11; exact h11
  obtain ⟨i, e1, he⟩ := Option.bind_eq_some_iff.mp he
  obtain ⟨xi, e2, he⟩ := Option.bind_eq_some_iff.mp he
  have hi := c.hTy st i e1
  have hxi := c.hTy xt xi e2
  split at he
  rotate_left
  · cases he
  rename_i e hel
  obtain ⟨ei, e3, he⟩ := Option.bind_eq_some_iff.mp he
  have hei := c.hTy e ei e3
  obtain ⟨y, hy, he⟩ := Option.bind_eq_some_iff.mp he
  obtain ⟨nv, hnv, he⟩ := Option.bind_eq_some_iff.mp he
  have hy' : d1 = .v (.c y) := by unfold D.one at hy; split at hy <;> cases hy; rfl
  rw [hy'] at hv1
  have hrc1 : RepC w s y v1 := by cases hv1 with | v _ _ hv1 => cases hv1 with | c _ _ hv1 => exact hv1
  obtain ⟨e5, -⟩ := D.val_sound hv2 hnv
  split at he
  rotate_left
  · cases he
  rename_i kk n
  split at he
  rotate_left
  · cases he
  rename_i hb
  simp only [Bool.and_eq_true] at hb
  obtain ⟨hk, hb0, hb1, hb2, hb3, hb4, hb5, hb6⟩ := hb
  have hk := kindEq_eq hk
  subst hk
  have hb1 := Nat.eq_of_beq_eq_true hb1
  have hb2 := Nat.le_of_ble_eq_true hb2
  have hb3 := Nat.le_of_ble_eq_true hb3
  have hb5 := Nat.eq_of_beq_eq_true hb5
  obtain ⟨z0, e7, he⟩ := Option.bind_eq_some_iff.mp he
  rcases cond_some he with ⟨hc, he⟩ | ⟨_, he⟩
  rotate_left
  · cases he
  simp only [Bool.and_eq_true, decide_eq_true_eq] at hc
  obtain ⟨c1, c2⟩ := hc
  have hroom : (2 * n.toNat + 192) * ei.bytes ≤ 281474976710656 := by
    unfold roomOk at c2
    have := Nat.le_of_ble_eq_true c2
    rwa [Nat.zero_add] at this
  obtain ⟨base, rfl⟩ : ∃ b, v1 = .slice b 0 0 := by
    cases hrc1 <;> simp [isNilC] at hb0
    exact ⟨_, rfl⟩
  obtain ⟨ki, hxu⟩ : ∃ ki, c.P.underlying xt = some (.int ki) := by
    split at hb6
    · rename_i ki h9; exact ⟨ki, hxi.int h9⟩
    · cases hb6
  have hcap0 := nextslicecap_le n.toNat 0 (by omega)
  have hcap1 : Builtin.nextslicecap n.toNat 0 * ei.bytes ≤ 2 ^ 48 := by
    have := Nat.mul_le_mul_right ei.bytes hcap0
    omega
  have hcap2 : n.toNat * ei.bytes ≤ 2 ^ 48 := by
    have := Nat.mul_le_mul_right ei.bytes (show n.toNat ≤ 2 * n.toNat + 192 by omega)
    omega
  obtain ⟨newCap, z, g5, hnc, hrun⟩ := run_zeros (P := c.P) (w := w) (ty := ty) (base := base) (n := n.toNat) h0 h1 hi hel hxu hei (by omega) (by omega) hb3 hcap1 hcap2
  have hz0 := packAll_some e7
  obtain ⟨hlen, hall⟩ := zeroOk_spec hb4
  have htk := zTaken (B := B) (s := s) (w := w.drew) hb4
  have hzs : z.cells.size = ei.size := by rw [← hb5, ← g5]; simp
  have hsz : (Builtin.zeroCells z.cells n.toNat ++ Builtin.zeroCells z.cells (newCap - n.toNat)).size = newCap * ei.size := by
    simp only [Array.size_append, Builtin.zeroCells, Array.size_map, Array.size_range, hzs]
    rw [← Nat.add_mul]; congr 1; omega
  have harr : ∀ m j', m < n.toNat → j' < ei.size → (Builtin.zeroCells z.cells n.toNat ++ Builtin.zeroCells z.cells (newCap - n.toNat))[m * ei.size + j']? = ei.zero[j']? := by
    intro m j' hm hj'
    have hlt : m * ei.size + j' < n.toNat * ei.size := by
      have : (m + 1) * ei.size ≤ n.toNat * ei.size := Nat.mul_le_mul_right _ hm
      rw [Nat.add_mul, Nat.one_mul] at this
      omega
    have hmod : (m * ei.size + j') % z.cells.size = j' := by rw [hzs, Nat.mul_comm, Nat.mul_add_mod, Nat.mod_eq_of_lt hj']
    have hzj : j' < z.cells.size := by omega
    rw [Array.getElem?_append_left (by simp only [Builtin.zeroCells, Array.size_map, Array.size_range, hzs]; exact hlt)]
    have hmk : (Builtin.zeroCells z.cells n.toNat)[m * ei.size + j']? = some (z.cells[(m * ei.size + j') % z.cells.size]!) := by
      have hlt' : m * ei.size + j' < n.toNat * z.cells.size := by rw [hzs]; exact hlt
      simp [Builtin.zeroCells, hlt']
    rw [hmk, hmod, getElem!_pos z.cells j' hzj, ← g5, Array.getElem?_toList, Array.getElem?_eq_getElem hzj]
  have hzlay : ∀ q y, zrLay n.toNat ei.zel q = some y → blkOf y = none := by
    intro q y hq
    cases q with
    | nil => cases hq
    | cons c0 q =>
      simp only [zrLay] at hq
      split at hq
      · match q with
        | [] =>
          simp only [zLay, if_true] at hq
          split at hq
          · cases hq; rfl
          · cases hq
        | _ :: _ => cases hq
      · cases hq
  have hzout : OwnOut B s w.drew (zrLay n.toNat ei.zel) :=
    ⟨fun q y q' y' b e1 e2 _ _ => absurd ((hzlay _ _ e1).symm.trans e2) nofun, fun q y b e1 e2 => absurd ((hzlay _ _ e1).symm.trans e2) nofun, fun q y b e1 e2 _ _ _ _ => absurd ((hzlay _ _ e1).symm.trans e2) nofun⟩
  have hzat : ∀ i j, i < n.toNat → (zrLay n.toNat ei.zel).at i j = (zLay ei.zel).at 0 j := by
    intro i j hi
    funext q
    simp only [Lay.at, zrLay, if_pos hi]
  have hrd : RelW B s x a w.drew := h.world (w' := w.drew) (fun b _ => rfl) (Nat.le_refl _) rfl rfl rfl
  have hrep := sl_rep (w := w.drew) (el := e) (cap := newCap) (e := ei.ty) (xs := List.replicate n.toNat z0) (arr := Builtin.zeroCells z.cells n.toNat ++ Builtin.zeroCells z.cells (newCap - n.toNat)) hrd hzout (by simp; omega) (by rw [hsz, hb1]; exact Nat.le_refl _)
    (fun i j t e' => by
      have hij := rows_lt e'
      simp only [List.length_replicate] at hij
      rw [cellOf_rows, List.getElem?_replicate, if_pos hij.1, Option.bind_some, nth_eq, ← hz0] at e'
      have hg := htk.get j t e'
      have hj : j < ei.size := by omega
      rw [hzat i j hij.1]
      refine ⟨_, ?_, hg⟩
      rw [hb1, harr i j (by omega) hj, List.getElem?_eq_getElem (by omega)]; rfl)
    (fun i j e' => by
      by_cases hi : i < n.toNat
      · rw [hzat i j hi]
        rw [cellOf_rows, List.getElem?_replicate, if_pos hi, Option.bind_some, nth_eq, ← hz0] at e'
        exact htk.out 0 j (.inr e')
      · funext q; simp only [Lay.at, zrLay, if_neg hi]; rfl)
  simp only [List.length_replicate] at hrep
  have hout := topLay_out (w := w.drew) (o := .cells (Builtin.zeroCells z.cells n.toNat ++ Builtin.zeroCells z.cells (newCap - n.toNat)) e) (v := .slice (some ⟨w.heap.size, 0, none⟩) n.toNat newCap) hrd hzout (fun b hb => by
    cases hcp : newCap with
    | zero => rw [hcp] at hb; simp [blkOf] at hb
    | succ => rw [hcp] at hb; simp only [blkOf, Option.some.injEq] at hb; exact hb.symm)
  obtain ⟨x', s', k1, k2⟩ := new_sound (v := .slice (some ⟨w.heap.size, 0, none⟩) n.toNat newCap) hnt (hrd.push _) he hrep hout (fun s' _ hΦ => .own k [(0, 0)] ei.ty _ (by rw [hΦ []]; rfl))
  refine ⟨x', s', _, _, k1, ?_, k2⟩
  rw [e5, show (n : Int) = ((n.toNat : Nat) : Int) by omega]
  simp only [Int.toNat_natCast]
  exact hrun

end
end Go.V

/-! One operation. -/
namespace Go.V
open Go.RowKit

variable {α : Type}

/-- One of two values; of two plain ones a plain one. -/
def pickV (b : Bool) (p q : D) : Option D := match p.val with
  | some (.bool y) => match q.val with
    | some (.bool z) => some (scal (.bool (cond b y z)))
    | _ => none
  | some (.int k y) => match q.val with
    | some (.int k' z) => match kindEq k k' with
      | true => some (scal (.int k (cond b y z)))
      | false => none
    | _ => none
  | _ => none

def pickK (b : Bool) (p q : Option D) (K : D → Option α) : Option α := match p with
  | none => cond b none (q.bind K)
  | some p => match q with
    | none => cond b (K p) none
    | some q => match pickV b p q with
      | some d => K d
      | none => cond b (K p) (K q)

theorem pickK_sound {b : Bool} {p q : Option D} {K : D → Option α} {r : α} (h : pickK b p q K = some r) : ∃ d, K d = some r ∧ ((b = true ∧ p = some d) ∨ (b = false ∧ q = some d)) := by
  unfold pickK at h
  split at h
  · rcases cond_some h with ⟨_, h⟩ | ⟨hb, h⟩
    · cases h
    · obtain ⟨d, h1, h2⟩ := Option.bind_eq_some_iff.mp h
      exact ⟨d, h2, .inr ⟨hb, h1⟩⟩
  · rename_i p
    split at h
    · rcases cond_some h with ⟨hb, h⟩ | ⟨_, h⟩
      · exact ⟨p, h, .inl ⟨hb, rfl⟩⟩
      · cases h
    · rename_i q
      have hval : ∀ {d : D} {v : Value}, d.val = some v → d = scal v := by
        intro d v hd
        unfold D.val at hd
        split at hd
        · simp only [Option.some.injEq] at hd; subst hd; rfl
        · cases hd
      split at h
      · rename_i d hd
        refine ⟨d, h, ?_⟩
        unfold pickV at hd
        split at hd
        · rename_i y hy
          split at hd
          · rename_i z hz
            simp only [Option.some.injEq] at hd
            subst hd
            cases b with
            | true => exact .inl ⟨rfl, by rw [hval hy]; rfl⟩
            | false => exact .inr ⟨rfl, by rw [hval hz]; rfl⟩
          · cases hd
        · rename_i k y hy
          split at hd
          · rename_i k' z hz
            split at hd
            · rename_i hk
              have hk := kindEq_eq hk
              subst hk
              simp only [Option.some.injEq] at hd
              subst hd
              cases b with
              | true => exact .inl ⟨rfl, by rw [hval hy]; rfl⟩
              | false => exact .inr ⟨rfl, by rw [hval hz]; rfl⟩
            · cases hd
          · cases hd
        · cases hd
      · rcases cond_some h with ⟨hb, h⟩ | ⟨hb, h⟩
        · exact ⟨p, h, .inl ⟨hb, rfl⟩⟩
        · exact ⟨q, h, .inr ⟨hb, rfl⟩⟩

theorem Lawful.pick (b : Bool) (p q : Option D) : Lawful fun _ K => pickK b p q K := by
  unfold pickK
  split
  · exact .cond _ .none (.bind _ fun d => .pure _)
  · split
    · exact .cond _ (.pure _) .none
    · split
      · exact .pure _
      · exact .cond _ (.pure _) (.pure _)

def two (args : Array Operand) : Option (Operand × Operand) := match args.toList with
  | [p, q] => some (p, q)
  | _ => none

def lenB (cx : Ctx) (x : X) (args : List Operand) (ats : List TypeId) (K : D → Option α) : Option α := match args with
  | [p] => match ats with
    | [t] => (evalD cx x p).bind fun d => lenK cx x t d K
    | _ => none
  | _ => none

/-- The room of a nil slice. -/
def capB (cx : Ctx) (x : X) (args : List Operand) (ats : List TypeId) (K : D → Option α) : Option α := match args with
  | [p] => match ats with
    | [t] => (look cx.Ty t).bind fun i => match i.d with
      | .sl _ => (evalD cx x p).bind fun d => match d with
        | .v (.c .nil) => K (scal (.int .i64 0))
        | _ => none
      | _ => none
    | _ => none
  | _ => none

/-- What a function value has hold of: whole boxes. -/
def capsK (cx : Ctx) (x : X) : List Operand → (List (Nat × Path) → Option α) → Option α
  | [], K => K []
  | o :: l, K => (evalD cx x o).bind fun d => match d with
    | .v (.c (.pt r p i j _)) => match and (Nat.beq i 0) (Nat.beq j 0) with
      | true => atK x r p fun t => match t with
        | .pp .own _ => capsK cx x l fun cs => K ((r, p) :: cs)
        | .pt .own _ _ => capsK cx x l fun cs => K ((r, p) :: cs)
        | _ => none
      | false => none
    | _ => none

def fnId (fn : Go.Fn) : Option FuncId := match fn with
  | .func f => some f
  | _ => none

/-- What only looks. -/
def readK (cx : Ctx) (x : X) (op : Op) (K : D → Option α) : Option α := match op with
  | .move e => (evalD cx x e).bind K
  | .assign e => (evalD cx x e).bind K
  | .pick p q r => ((evalD cx x p).bind D.val).bind fun v => match v with
    | .bool b => pickK b (evalD cx x q) (evalD cx x r) K
    | _ => none
  | .build t ps => (buildD cx x t ps).bind K
  | .load t e => (evalD cx x e).bind fun d => loadK cx x t d K
  | .nilCheck e => ((evalD cx x e).bind nilD).bind K
  | .binOp op t p q _ => (evalD cx x p).bind fun d => (evalD cx x q).bind fun d' => binK cx op t d d' K
  | .unOp op _ p => ((evalD cx x p).bind D.val).bind fun v => scalU op v fun u => K (scal u)
  | .convert s t p => (evalD cx x p).bind fun d => convK cx s t d K
  | .fieldAddr t p f => (evalD cx x p).bind fun d => (fieldAddrD cx t f d).bind K
  | .field t p f => (evalD cx x p).bind fun d => (fieldD cx t f d).bind K
  | .indexAddr t p i => (evalD cx x p).bind fun d => (evalD cx x i).bind fun d' => indexAddrK cx x t d d' K
  | .index t p i => (look cx.Ty t).bind fun ti => match ti.d with
    | .str => (evalD cx x p).bind fun d => (evalD cx x i).bind fun d' => byteK d d' K
    | _ => none
  | .extract p j => (evalD cx x p).bind fun d => (extractD d j).bind K
  | .slice t p lo hi mx => (evalD cx x p).bind fun d => sliceK cx x t d lo hi mx K
  | .makeFunc fn first caps => match first.toList with
    | [] => (fnId fn).bind fun f => capsK cx x caps.toList fun cs => K (.v (.c (.fnp f cs)))
    | _ :: _ => none
  | .call cl => match cl.callee with
    | .builtin .len => lenB cx x cl.args.toList cl.argTypes.toList K
    | .builtin .min => (two cl.args).bind fun pq => (evalD cx x pq.1).bind fun d => (evalD cx x pq.2).bind fun d' => (minMax false d d').bind K
    | .builtin .max => (two cl.args).bind fun pq => (evalD cx x pq.1).bind fun d => (evalD cx x pq.2).bind fun d' => (minMax true d d').bind K
    | .builtin .cap => capB cx x cl.args.toList cl.argTypes.toList K
    | _ => none
  | _ => none

/-- What makes new roots or turns old ones. -/
def growK (cx : Ctx) (nt : Fr) (x : X) (op : Op) (k : Nat) (K : X → Option α) : Option α := match op with
  | .alloc t => allocK cx nt x t k K
  | .box t v => (evalD cx x v).bind fun d => boxK cx nt x t d k K
  | .buildSlice t n ps => buildSliceK cx nt x t n ps k K
  | .makeSlice t l c => (evalD cx x l).bind fun d => (evalD cx x c).bind fun d' => makeSliceK cx nt x t d d' k K
  | .call cl => match cl.callee with
    | .builtin .append => (two cl.args).bind fun pq => (evalD cx x pq.1).bind fun d => (evalD cx x pq.2).bind fun d' => match zerosT cx cl.argTypes.toList with
      | true => zerosK cx nt x cl.argTypes d d' k K
      | false => appendK cx nt x cl.argTypes d d' k K
    | _ => none
  | _ => none

def isGrow (op : Op) : Bool := match op with
  | .alloc _ | .box _ _ | .buildSlice _ _ _ | .makeSlice _ _ _ => true
  | .call cl => match cl.callee with
    | .builtin .append => true
    | _ => false
  | _ => false

/-- An operation that is done for what it turns. -/
def clearO (cx : Ctx) (x : X) (op : Op) (K : X → Option α) : Option α := match op with
  | .call cl => match cl.callee with
    | .builtin .clear => match cl.args.toList with
      | [] => none
      | p :: l => match l with
        | [] => match cl.argTypes.toList with
          | [] => none
          | t :: l => match l with
            | [] => (evalD cx x p).bind fun d => clearK cx x t d K
            | _ :: _ => none
        | _ :: _ => none
    | _ => none
  | _ => none

def oneK (cx : Ctx) (nt : Fr) (x : X) (o : Oper) (K : X → Option α) : Option α := match o.op with
  | .store t p v => match o.dst with
    | none => (evalD cx x p).bind fun d => (evalD cx x v).bind fun d' => storeK cx x t d d' K
    | some _ => none
  | op => match o.dst with
    | none => clearO cx x op K
    | some k => match isGrow op with
      | true => growK cx nt x op (nt.off + k) K
      | false => readK cx x op fun d => putK nt x (nt.off + k) d K

section
variable {c : Ctx} {B : Base} {s : Sit} {x : X} {a : Act} {w : World} {nt : Fr}

theorem two_some {args : Array Operand} {pq : Operand × Operand} (h : two args = some pq) : args = #[pq.1, pq.2] := by
  unfold two at h
  split at h
  · rename_i p q e
    simp only [Option.some.injEq] at h
    subst h
    exact Array.ext' e
  · cases h

theorem caps_sound (hG : Fit B c) (h : RelW B s x a w) : ∀ (l : List Operand) {K : List (Nat × Path) → Option α} {q : α}, capsK c x l K = some q → ∃ cs, K cs = some q ∧ ∀ f, RepC w s (.fnp f cs) (.func (.func f) #[] (l.map a.eval).toArray)
  | [], K, q, he => ⟨[], he, fun f => .fnp f [] _ (by simp) (fun m r p e => by simp at e)⟩
  | o :: l, K, q, he => by
    obtain ⟨d, h1, he1⟩ := Option.bind_eq_some_iff.mp he
    have hr := evalD_sound hG h h1
    split at he1
    rotate_left
    · cases he1
    rename_i r p i j sz
    split at he1
    rotate_left
    · cases he1
    rename_i hz
    simp only [Bool.and_eq_true] at hz
    have hi := Nat.eq_of_beq_eq_true hz.1
    have hj := Nat.eq_of_beq_eq_true hz.2
    subst hi hj
    obtain ⟨t, h2, he2⟩ := atK_some he1
    have hbox : (∃ cs, t.box? = some cs) ∧ capsK c x l (fun cs => K ((r, p) :: cs)) = some q := by
      split at he2
      · exact ⟨⟨_, rfl⟩, he2⟩
      · exact ⟨⟨_, rfl⟩, he2⟩
      · cases he2
    obtain ⟨⟨cs0, hb⟩, he3⟩ := hbox
    obtain ⟨cs, k1, k2⟩ := caps_sound hG h l he3
    refine ⟨_, k1, fun f => ?_⟩
    -- the box
    obtain ⟨row, g1, g2⟩ := Option.bind_eq_some_iff.mp h2
    obtain ⟨y0, hy0⟩ := h.roots r row g1
    obtain ⟨y, hy⟩ := getT_own p hy0 g2
    have hlay : ∃ b, s.Φ r p = some (.pointer (some ⟨b, 0, none⟩)) := by
      rw [← Lay.under_apply_nil (s.Φ r) p]
      generalize (s.Φ r).under p = ψ at hy
      cases hy with
      | sh _ _ _ ht => cases t with
        | pp f0 cs' => cases f0 <;> simp [T.box?, T.isSh] at hb ht
        | pt f0 e d => cases f0 <;> simp [T.box?, T.isSh] at hb ht
        | po => simp [T.isSh] at ht
        | _ => simp [T.box?] at hb
      | box _ cs1 ht b arr el vs φ hbb hsz hc hrr h0 hn => exact ⟨b, h0⟩
      | nil => simp [T.box?] at hb
      | sl => simp [T.box?] at hb
      | slo => simp [T.box?] at hb
      | vr => simp [T.box?] at hb
    obtain ⟨b, hb2⟩ := hlay
    have hval : a.eval o = .pointer (some ⟨b, 0, none⟩) := by
      generalize a.eval o = u at hr
      cases hr with
      | v _ _ hr => cases hr with
        | c _ _ hr => cases hr with
          | pt _ _ _ _ _ z b' hΦ hbb =>
            rw [hb2, Option.some.injEq] at hΦ
            subst hΦ
            simp only [blkOf, Option.some.injEq] at hbb
            subst hbb
            simp [offOf]
    cases k2 f with
    | fnp _ _ cap hs hc =>
      refine .fnp f _ _ (by simpa using hs) (fun m r' p' e => ?_)
      cases m with
      | zero =>
        simp only [List.getElem?_cons_zero, Option.some.injEq, Prod.mk.injEq] at e
        obtain ⟨rfl, rfl⟩ := e
        exact ⟨b, hb2, by simp [hval]⟩
      | succ m =>
        obtain ⟨b', e1, e2⟩ := hc m r' p' (by simpa using e)
        exact ⟨b', e1, by simpa using e2⟩

theorem read_sound (hG : Fit B c) (h : RelW B s x a w) {o : Oper} {K : D → Option α} {r : α} (he : readK c x o.op K = some r) :
    ∃ e v, K e = some r ∧ (execOp a.eval o).run c.P w = .ok (.value v) w ∧ RepD w s e v := by
  obtain ⟨dst, op, type, pos, after, guard⟩ := o
  simp only at he
  unfold readK at he
  split at he
  · obtain ⟨d, hd, he⟩ := Option.bind_eq_some_iff.mp he
    exact ⟨d, _, he, rfl, evalD_sound hG h hd⟩
  · obtain ⟨d, hd, he⟩ := Option.bind_eq_some_iff.mp he
    exact ⟨d, _, he, rfl, evalD_sound hG h hd⟩
  · obtain ⟨v, hv, he⟩ := Option.bind_eq_some_iff.mp he
    obtain ⟨d0, h0, h1⟩ := Option.bind_eq_some_iff.mp hv
    obtain ⟨e0, -⟩ := D.val_sound (evalD_sound hG h h0) h1
    split at he
    · rename_i b
      obtain ⟨d, hK, hcase⟩ := pickK_sound he
      rcases hcase with ⟨rfl, hp⟩ | ⟨rfl, hp⟩
      · exact ⟨d, _, hK, by simp [execOp, e0, asBool], evalD_sound hG h hp⟩
      · exact ⟨d, _, hK, by simp [execOp, e0, asBool], evalD_sound hG h hp⟩
    · cases he
  · obtain ⟨d, hd, he⟩ := Option.bind_eq_some_iff.mp he
    obtain ⟨u, h1, h2⟩ := buildD_sound hG h hd
    exact ⟨d, u, he, by simp only [execOp, Sem.run_bind]; rw [h1]; rfl, h2⟩
  · obtain ⟨d, hd, he⟩ := Option.bind_eq_some_iff.mp he
    obtain ⟨e, u, hK, h1, h2⟩ := load_sound h (evalD_sound hG h hd) he
    exact ⟨e, u, hK, by simp only [execOp, Sem.run_bind]; rw [h1]; rfl, h2⟩
  · obtain ⟨d, hd, he⟩ := Option.bind_eq_some_iff.mp he
    obtain ⟨d0, h0, h1⟩ := Option.bind_eq_some_iff.mp hd
    have hr := evalD_sound hG h h0
    obtain ⟨rfl, ad, h2⟩ := nilD_sound hr h1
    rename_i e1 _
    have h2 : a.eval e1 = .pointer (some ad) := h2
    refine ⟨d, _, he, ?_, hr⟩
    simp only [execOp, h2]
    rfl
  · obtain ⟨d, hd, he⟩ := Option.bind_eq_some_iff.mp he
    obtain ⟨d', hd', he⟩ := Option.bind_eq_some_iff.mp he
    rename_i bop bt p q yt _ _
    obtain ⟨e, z, hK, h1, h2⟩ := bin_sound (p := p) (q := q) (evalD_sound hG h hd) (evalD_sound hG h hd') he
    exact ⟨e, z, hK, by simp only [execOp]; rw [Sem.run_bind, h1 w]; rfl, h2⟩
  · obtain ⟨v, hv, he⟩ := Option.bind_eq_some_iff.mp he
    obtain ⟨d0, h0, h1⟩ := Option.bind_eq_some_iff.mp hv
    obtain ⟨e0, -⟩ := D.val_sound (evalD_sound hG h h0) h1
    obtain ⟨u, hK, h2, h3⟩ := scalU_sound he
    exact ⟨_, u, hK, by simp only [execOp]; rw [Sem.run_bind, e0, h3]; rfl, scal_rep u h2⟩
  · obtain ⟨d, hd, he⟩ := Option.bind_eq_some_iff.mp he
    obtain ⟨e, z, hK, h1, h2⟩ := conv_sound (evalD_sound hG h hd) he
    exact ⟨e, z, hK, by simp only [execOp]; rw [Sem.run_bind, h1 w]; rfl, h2⟩
  · obtain ⟨d, hd, he⟩ := Option.bind_eq_some_iff.mp he
    obtain ⟨e, h4, he⟩ := Option.bind_eq_some_iff.mp he
    obtain ⟨z, h1, h2⟩ := fieldAddr_sound (evalD_sound hG h hd) h4
    exact ⟨e, z, he, by simp only [execOp]; rw [Sem.run_bind, h1 w]; rfl, h2⟩
  · obtain ⟨d, hd, he⟩ := Option.bind_eq_some_iff.mp he
    obtain ⟨e, h4, he⟩ := Option.bind_eq_some_iff.mp he
    obtain ⟨z, h1, h2⟩ := field_sound (evalD_sound hG h hd) h4
    exact ⟨e, z, he, by simp only [execOp]; rw [Sem.run_bind, h1 w]; rfl, h2⟩
  · obtain ⟨d, hd, he⟩ := Option.bind_eq_some_iff.mp he
    obtain ⟨d', hd', he⟩ := Option.bind_eq_some_iff.mp he
    obtain ⟨e, z, hK, h1, h2⟩ := indexAddr_sound h (evalD_sound hG h hd) (evalD_sound hG h hd') he
    exact ⟨e, z, hK, by simp only [execOp]; rw [Sem.run_bind, h1 w]; rfl, h2⟩
  · obtain ⟨ti, hti, he⟩ := Option.bind_eq_some_iff.mp he
    split at he
    · rename_i hstr
      obtain ⟨d, hd, he⟩ := Option.bind_eq_some_iff.mp he
      obtain ⟨d', hd', he⟩ := Option.bind_eq_some_iff.mp he
      obtain ⟨e, z, hK, h1, h2⟩ := byte_sound (evalD_sound hG h hd) (evalD_sound hG h hd') ⟨ti, hti, hstr⟩ he
      exact ⟨e, z, hK, by simp only [execOp]; rw [Sem.run_bind, h1 w]; rfl, h2⟩
    · cases he
  · obtain ⟨d, hd, he⟩ := Option.bind_eq_some_iff.mp he
    obtain ⟨e, h4, he⟩ := Option.bind_eq_some_iff.mp he
    obtain ⟨z, h1, h2⟩ := extract_sound (c := c) (evalD_sound hG h hd) h4
    exact ⟨e, z, he, by simp only [execOp]; rw [Sem.run_bind, h1 w]; rfl, h2⟩
  · obtain ⟨d, hd, he⟩ := Option.bind_eq_some_iff.mp he
    obtain ⟨e, z, hK, h1, h2⟩ := slice_sound hG h (evalD_sound hG h hd) he
    exact ⟨e, z, hK, by simp only [execOp]; rw [Sem.run_bind, h1 w]; rfl, h2⟩
  · rename_i fn first caps
    split at he
    · rename_i hfirst
      obtain ⟨f, hf, he⟩ := Option.bind_eq_some_iff.mp he
      obtain ⟨cs, k1, k2⟩ := caps_sound hG h caps.toList he
      have hfn : fn = .func f := by
        unfold fnId at hf
        split at hf
        · simp only [Option.some.injEq] at hf; subst hf; rfl
        · cases hf
      subst hfn
      have hfe : first = #[] := Array.ext' hfirst
      subst hfe
      refine ⟨_, .func (.func f) #[] (caps.map a.eval), k1, by simp [execOp, Instr.makeFunc], .v _ _ (.c _ _ ?_)⟩
      have e : (List.map a.eval caps.toList).toArray = caps.map a.eval := by apply Array.ext'; simp
      have := k2 f
      rwa [e] at this
    · cases he
  · rename_i cl
    obtain ⟨callee, args, ats⟩ := cl
    simp only at he
    split at he
    · skip
      unfold lenB at he
      split at he
      · rename_i p e1
        split at he
        · rename_i t e2
          obtain rfl : args = #[p] := Array.ext' e1
          obtain rfl : ats = #[t] := Array.ext' e2
          obtain ⟨d, hd, he⟩ := Option.bind_eq_some_iff.mp he
          obtain ⟨e, z, hK, h1, h2⟩ := len_sound (ty := type) h (evalD_sound hG h hd) he
          exact ⟨e, z, hK, by simp [execOp, resolve, invoke, builtin, h1 w], h2⟩
        · cases he
      · cases he
    · skip
      obtain ⟨pq, e1, he1⟩ := Option.bind_eq_some_iff.mp he
      have e2 := two_some e1
      subst e2
      obtain ⟨d, hd, he2⟩ := Option.bind_eq_some_iff.mp he1
      obtain ⟨d', hd', he3⟩ := Option.bind_eq_some_iff.mp he2
      obtain ⟨e, h4, he4⟩ := Option.bind_eq_some_iff.mp he3
      obtain ⟨z, h1, h2⟩ := minMax_sound (c := c) (b := false) (ats := ats) (ty := type) (evalD_sound hG h hd) (evalD_sound hG h hd') h4
      have h1 := h1 w
      exact ⟨e, z, he4, by simp only [Bool.false_eq_true, if_false] at h1; simp [execOp, resolve, invoke, builtin, h1], h2⟩
    · skip
      obtain ⟨pq, e1, he1⟩ := Option.bind_eq_some_iff.mp he
      have e2 := two_some e1
      subst e2
      obtain ⟨d, hd, he2⟩ := Option.bind_eq_some_iff.mp he1
      obtain ⟨d', hd', he3⟩ := Option.bind_eq_some_iff.mp he2
      obtain ⟨e, h4, he4⟩ := Option.bind_eq_some_iff.mp he3
      obtain ⟨z, h1, h2⟩ := minMax_sound (c := c) (b := true) (ats := ats) (ty := type) (evalD_sound hG h hd) (evalD_sound hG h hd') h4
      have h1 := h1 w
      exact ⟨e, z, he4, by simp only [if_true] at h1; simp [execOp, resolve, invoke, builtin, h1], h2⟩
    · skip
      unfold capB at he
      split at he
      · rename_i p e1
        split at he
        · rename_i t e2
          obtain rfl : args = #[p] := Array.ext' e1
          obtain rfl : ats = #[t] := Array.ext' e2
          obtain ⟨i, hi, he⟩ := Option.bind_eq_some_iff.mp he
          have hok := c.hTy t i hi
          split at he
          · rename_i el hel
            have hu := hok.slice hel
            obtain ⟨d, hd, he⟩ := Option.bind_eq_some_iff.mp he
            split at he
            · have hv := evalD_sound hG h hd
              generalize hav : a.eval p = v at hv
              cases hv with
              | v _ _ hv => cases hv with
                | c _ _ hv => cases hv with
                  | nil ad => exact ⟨_, .int .i64 0, he, by simp [execOp, resolve, invoke, builtin, hav, Builtin.cap_, run_underlying hu, goInt], scal_rep _ rfl⟩
            · cases he
          · cases he
        · cases he
      · cases he
    · cases he
  · cases he

theorem grow_sound (hG : Fit B c) (hnt : B.nt = nt) (h : RelW B s x a w) {o : Oper} {k : Nat} {K : X → Option α} {q : α} (he : growK c nt x o.op k K = some q) :
    ∃ x' s' v w', K x' = some q ∧ (execOp a.eval o).run c.P w = .ok (.value v) w' ∧ RelW B s' x' (a.gput B k v) w' := by
  obtain ⟨dst, op, type, pos, after, guard⟩ := o
  simp only at he
  unfold growK at he
  split at he
  · obtain ⟨x', s', u, w', k1, k2, k3⟩ := alloc_sound hnt h he
    exact ⟨x', s', u, w', k1, by simp [execOp, k2], k3⟩
  · obtain ⟨d, hd, he⟩ := Option.bind_eq_some_iff.mp he
    obtain ⟨x', s', u, w', k1, k2, k3⟩ := box_sound hnt h (evalD_sound hG h hd) he
    exact ⟨x', s', u, w', k1, by simp [execOp, k2], k3⟩
  · obtain ⟨x', s', u, w', k1, k2, k3⟩ := buildSlice_sound hG hnt h he
    exact ⟨x', s', u, w', k1, by simp only [execOp, Sem.run_bind]; rw [k2]; rfl, k3⟩
  · obtain ⟨d, hd, he⟩ := Option.bind_eq_some_iff.mp he
    obtain ⟨d', hd', he⟩ := Option.bind_eq_some_iff.mp he
    obtain ⟨x', s', u, w', k1, k2, k3⟩ := makeSlice_sound hnt h (evalD_sound hG h hd) (evalD_sound hG h hd') he
    exact ⟨x', s', u, w', k1, by simp only [execOp, Sem.run_bind]; rw [k2]; rfl, k3⟩
  · rename_i cl
    obtain ⟨callee, args, ats⟩ := cl
    simp only at he
    split at he
    · skip
      obtain ⟨pq, e1, he1⟩ := Option.bind_eq_some_iff.mp he
      have e2 := two_some e1
      subst e2
      obtain ⟨d, hd, he2⟩ := Option.bind_eq_some_iff.mp he1
      obtain ⟨d', hd', he3⟩ := Option.bind_eq_some_iff.mp he2
      split at he3
      · obtain ⟨x', s', u, w', k1, k2, k3⟩ := zeros_sound (ty := type) hnt h (evalD_sound hG h hd) (evalD_sound hG h hd') he3
        exact ⟨x', s', u, w', k1, by simp [execOp, resolve, invoke, builtin, k2], k3⟩
      · obtain ⟨x', s', u, w', k1, k2, k3⟩ := append_sound (ty := type) hnt h (evalD_sound hG h hd) (evalD_sound hG h hd') he3
        exact ⟨x', s', u, w', k1, by simp [execOp, resolve, invoke, builtin, k2], k3⟩
    · cases he
  · cases he

/-- What an operation comes to, in the machine. -/
def Good (c : Ctx) (B : Base) (s' : Sit) (x' : X) (o : Oper) (a : Act) (w : World) : Prop :=
  ∃ n w', (execOp a.eval o).run c.P w = .ok n w' ∧ ((∃ v, n = .value v ∧ RelW B s' x' (a.put o.dst v) w') ∨ (n = .skip ∧ RelW B s' x' (a.put o.dst undef) w'))

theorem one_sound (hG : Fit B c) (hnt : B.nt = nt) (h : RelW B s x a w) {o : Oper} {K : X → Option α} {q : α} (he : oneK c nt x o K = some q) :
    ∃ x' s', K x' = some q ∧ Good c B s' x' o a w := by
  unfold oneK at he
  split at he
  · rename_i t p v hop
    split at he
    · rename_i hdst
      obtain ⟨d, hd, he⟩ := Option.bind_eq_some_iff.mp he
      obtain ⟨d', hd', he⟩ := Option.bind_eq_some_iff.mp he
      obtain ⟨x', s', w', k1, k2, k3⟩ := store_sound h (evalD_sound hG h hd) (evalD_sound hG h hd') he
      refine ⟨x', s', k1, .skip, w', by simp only [execOp, hop, Sem.run_bind]; rw [k2]; rfl, .inr ⟨rfl, ?_⟩⟩
      rw [hdst]
      exact k3
    · cases he
  · split at he
    · rename_i hdst
      obtain ⟨dst, op, type, pos, after, guard⟩ := o
      simp only at he hdst
      subst hdst
      unfold clearO at he
      split at he
      · rename_i cl _
        obtain ⟨callee, args, ats⟩ := cl
        simp only at he
        split at he
        · skip
          split at he
          · cases he
          rename_i p l e1
          split at he
          rotate_left
          · cases he
          split at he
          · cases he
          rename_i t l2 e2
          split at he
          rotate_left
          · cases he
          obtain rfl : args = #[p] := Array.ext' e1
          obtain rfl : ats = #[t] := Array.ext' e2
          obtain ⟨d, hd, he⟩ := Option.bind_eq_some_iff.mp he
          obtain ⟨x', s', w', k1, k2, k3⟩ := clear_sound (ty := type) h (evalD_sound hG h hd) he
          exact ⟨x', s', k1, .value (.tuple #[]), w', by simp [execOp, resolve, invoke, builtin, k2], .inl ⟨_, rfl, k3⟩⟩
        · cases he
      · cases he
    · rename_i k hk
      split at he
      · obtain ⟨x', s', v, w', k1, k2, k3⟩ := grow_sound hG hnt h he
        rw [← hnt, gput_local] at k3
        exact ⟨x', s', k1, _, w', k2, .inl ⟨v, rfl, by rw [hk]; exact k3⟩⟩
      · obtain ⟨e, v, k1, k2, k3⟩ := read_sound hG h he
        obtain ⟨x', k4, k5⟩ := put_sound hnt h k1 k3
        rw [← hnt, gput_local] at k5
        exact ⟨x', s, k4, _, w, k2, .inl ⟨v, rfl, by rw [hk]; exact k5⟩⟩

end
end Go.V

/-! What is read is read the same in a state that says more. -/
namespace Go.V
open Go.RowKit

variable {α : Type}

theorem look_app {β : Type} (l m : List (Nat × β)) (k : Nat) : look (app l m) k = match look l k with | some x => some x | none => look m k := by
  induction l with
  | nil => rfl
  | cons e l ih =>
    simp only [app, look]
    cases Nat.beq e.1 k with
    | true => rfl
    | false => exact ih

/-- The second state says what the first one says, and perhaps more. -/
structure LeX (x x' : X) : Prop where
  env : ∀ k d, look x.env k = some d → look x'.env k = some d
  roots : ∀ r row, look x.roots r = some row → look x'.roots r = some row

theorem LeX.refl (x : X) : LeX x x := ⟨fun _ _ h => h, fun _ _ h => h⟩
theorem LeX.trans {x y z : X} (h1 : LeX x y) (h2 : LeX y z) : LeX x z := ⟨fun k d h => h2.env k d (h1.env k d h), fun r row h => h2.roots r row (h1.roots r row h)⟩

end Go.V

/-! Reading operations: the same in a state that says more; and what is done with the answer hangs on it alone. -/
namespace Go.V
open Go.RowKit

variable {α : Type}

section
variable {c : Ctx} {x : X}

theorem Lawful.scalU (op : UnOp) (v : Value) : Lawful fun _ K => scalU op v K := by
  unfold V.scalU
  split
  · split
    · exact .pure _
    · exact .none
  · split
    · exact .pure _
    · exact .none
  · exact .none

theorem Lawful.lenB (cx : Ctx) (x : X) (args : List Operand) (ats : List TypeId) : Lawful fun _ K => lenB cx x args ats K := by
  unfold V.lenB
  split
  · split
    · exact .bind _ fun d => .len _ _ _ _
    · exact .none
  · exact .none

theorem Lawful.capB (cx : Ctx) (x : X) (args : List Operand) (ats : List TypeId) : Lawful fun _ K => capB cx x args ats K := by
  unfold V.capB
  split
  · split
    · refine .bind _ fun i => ?_
      split
      · refine .bind _ fun d => ?_
        split
        · exact .pure _
        · exact .none
      · exact .none
    · exact .none
  · exact .none

theorem Lawful.caps (cx : Ctx) (x : X) : ∀ l : List Operand, Lawful fun _ K => capsK cx x l K
  | [] => .pure _
  | o :: l => by
    unfold capsK
    refine .bind _ fun d => ?_
    split
    · split
      · refine .comp (.at _ _ _) fun t => ?_
        split
        · exact .comp (.caps cx x l) fun cs => .pure _
        · exact .comp (.caps cx x l) fun cs => .pure _
        · exact .none
      · exact .none
    · exact .none

theorem Lawful.read (cx : Ctx) (x : X) (op : Op) : Lawful fun _ K => readK cx x op K := by
  unfold readK
  split
  · exact .bind _ fun d => .pure _
  · exact .bind _ fun d => .pure _
  · refine .bind _ fun v => ?_
    split
    · exact .pick _ _ _
    · exact .none
  · exact .bind _ fun d => .pure _
  · exact .bind _ fun d => .load _ _ _ _
  · exact .bind _ fun d => .pure _
  · exact .bind _ fun d => .bind _ fun d' => .bin _ _ _ _ _
  · exact .bind _ fun v => .comp (.scalU _ _) fun u => .pure _
  · exact .bind _ fun d => .conv _ _ _ _
  · exact .bind _ fun d => .bind _ fun e => .pure _
  · exact .bind _ fun d => .bind _ fun e => .pure _
  · exact .bind _ fun d => .bind _ fun d' => .indexAddr _ _ _ _ _
  · refine .bind _ fun ti => ?_
    split
    · exact .bind _ fun d => .bind _ fun d' => .byte _ _
    · exact .none
  · exact .bind _ fun d => .bind _ fun e => .pure _
  · exact .bind _ fun d => .slice _ _ _ _ _ _ _
  · split
    · exact .bind _ fun f => .comp (.caps _ _ _) fun cs => .pure _
    · exact .none
  · split
    · exact .lenB _ _ _ _
    · exact .bind _ fun pq => .bind _ fun d => .bind _ fun d' => .bind _ fun e => .pure _
    · exact .bind _ fun pq => .bind _ fun d => .bind _ fun d' => .bind _ fun e => .pure _
    · exact .capB _ _ _ _
    · exact .none
  · exact .none

/-- A reading has one answer. -/
theorem read_some {op : Op} {K : D → Option α} {q : α} (h : readK c x op K = some q) : ∃ d, readK c x op some = some d ∧ K d = some q := by
  have e : readK c x op K = (readK c x op some).bind K := Lawful.read c x op α K
  rw [e] at h
  exact Option.bind_eq_some_iff.mp h

end
end Go.V

/-! Drawn regions, the machine's side: what comes up in whatever order first, and in one order then. -/
namespace Go.V
open Go.RowKit

def depE : List Edge → List Nat
  | [] => []
  | e :: l => match Region.binds .any e with
    | true => e.on :: depE l
    | false => depE l

theorem depE_mem {l : List Edge} {k : Nat} : k ∈ depE l ↔ ∃ e ∈ l, Region.binds .any e = true ∧ e.on = k := by
  induction l with
  | nil => simp [depE]
  | cons e l ih =>
    unfold depE
    cases h : Region.binds .any e with
    | true =>
      simp only [List.mem_cons, ih]
      constructor
      · rintro (rfl | ⟨e', h1, h2⟩)
        · exact ⟨e, .inl rfl, h, rfl⟩
        · exact ⟨e', .inr h1, h2⟩
      · rintro ⟨e', h1 | h1, h2, h3⟩
        · subst h1; exact .inl h3.symm
        · exact .inr ⟨e', h1, h2, h3⟩
    | false =>
      simp only [List.mem_cons, ih]
      constructor
      · rintro ⟨e', h1, h2⟩; exact ⟨e', .inr h1, h2⟩
      · rintro ⟨e', h1 | h1, h2, h3⟩
        · subst h1; rw [h] at h2; cases h2
        · exact ⟨e', h1, h2, h3⟩

def deps (ops : Array Oper) (j : Nat) : List Nat := match nth ops.toList j with
  | some o => depE o.after.toList
  | none => []

theorem deps_mem {ops : Array Oper} {j k : Nat} : k ∈ deps ops j ↔ ∃ o, ops[j]? = some o ∧ ∃ e ∈ o.after, Region.binds .any e = true ∧ e.on = k := by
  unfold deps
  rw [nth_eq, Array.getElem?_toList]
  cases ops[j]? with
  | none => simp
  | some o => simp [depE_mem]

/-- Number i comes up before number j. -/
def before (ops : Array Oper) : Nat → Nat → Nat → Bool
  | 0, _, _ => false
  | n + 1, j, i => match mem (deps ops j) i with
    | true => true
    | false => anyL (fun k => before ops n k i) (deps ops j)

/-- What has come up: with each, all that it waits for. -/
def Closed (ops : Array Oper) (listed : Array Bool) : Prop := ∀ (j : Nat) , listed.getD j false = true → ∀ k ∈ deps ops j, listed.getD k false = true

section
variable {P : Program} {ops : Array Oper} {Q : Exit → Act → World → Prop} {m : Nat}

theorem before_listed : ∀ (n : Nat) {listed : Array Bool} {j i : Nat}, Closed ops listed → (∀ k ∈ deps ops j, listed.getD k false = true) → before ops n j i = true → listed.getD i false = true := by
  intro n
  induction n with
  | zero => intro listed j i _ _ h; simp [before] at h
  | succ n ih =>
    intro listed j i hc hj h
    unfold before at h
    split at h
    · rename_i hm; exact hj i ((mem_iff _ _).1 hm)
    · obtain ⟨k, hk, h⟩ := (anyL_iff _ _).1 h
      exact ih hc (hc k (hj k hk)) h

theorem ready_deps {j : Nat} {listed : Array Bool} (h : j ∈ Region.ready .any ops listed) : ∀ k ∈ deps ops j, listed.getD k false = true := by
  obtain ⟨-, o, ho, hall⟩ := mem_ready.1 h
  intro k hk
  obtain ⟨o', ho', e, he, hb, rfl⟩ := deps_mem.1 hk
  rw [ho, Option.some.injEq] at ho'
  subst ho'
  exact hall e he hb

theorem Closed.set {listed : Array Bool} (hc : Closed ops listed) {j : Nat} (h : j ∈ Region.ready .any ops listed) : Closed ops (listed.setIfInBounds j true) := by
  intro i hi k hk
  by_cases e : i = j
  · subst e; exact getD_set_true (ready_deps h k hk)
  · rw [getD_set_ne false (fun e' => e e'.symm)] at hi
    exact getD_set_true (hc i hi k hk)

theorem getD_tf {listed : Array Bool} {j : Nat} (h : j < listed.size) (d : Bool) : listed.getD j d = listed.getD j false := by
  simp [h]

theorem ready_of {j : Nat} {listed : Array Bool} (hs : listed.size = ops.size) (hj : j < ops.size) (hu : listed.getD j false = false) (hd : ∀ k ∈ deps ops j, listed.getD k false = true) : j ∈ Region.ready .any ops listed := by
  refine mem_ready.2 ⟨by rw [getD_tf (by omega)]; exact hu, ops[j], Array.getElem?_eq_getElem hj, fun e he hb => hd _ (deps_mem.2 ⟨_, Array.getElem?_eq_getElem hj, e, he, hb, rfl⟩)⟩

theorem ready_un {j : Nat} {listed : Array Bool} (hs : listed.size = ops.size) (h : j ∈ Region.ready .any ops listed) : j < ops.size ∧ listed.getD j false = false := by
  obtain ⟨h1, o, ho, -⟩ := mem_ready.1 h
  have hlt := (Array.getElem?_eq_some_iff.1 ho).1
  exact ⟨hlt, by rw [← getD_tf (by omega) true]; exact h1⟩

/-- How many have not come up. -/
def unl : Nat → Array Bool → Nat
  | 0, _ => 0
  | k + 1, l => unl k l + (if l.getD k false = true then 0 else 1)

theorem unl_set {l : Array Bool} {i : Nat} (hi : i < l.size) (hu : l.getD i false = false) : ∀ k, unl k (l.setIfInBounds i true) + (if i < k then 1 else 0) = unl k l
  | 0 => by simp [unl]
  | k + 1 => by
    have ih := unl_set hi hu k
    simp only [unl]
    by_cases e : k = i
    · subst e
      have h1 : (l.setIfInBounds k true).getD k false = true := by simp [hi]
      rw [h1, hu]
      simp at ih ⊢
      omega
    · rw [getD_set_ne false (fun e' => e e'.symm)]
      have hne : k ≠ i := e
      by_cases hlt : i < k
      · have hlt' : i < k + 1 := Nat.lt_succ_of_lt hlt
        simp only [if_pos hlt] at ih; simp only [if_pos hlt']; omega
      · have hlt' : ¬ i < k + 1 := fun h => hlt (Nat.lt_of_le_of_ne (Nat.le_of_lt_succ h) (Ne.symm hne))
        simp only [if_neg hlt] at ih; simp only [if_neg hlt']; omega

theorem unl_split {l : Array Bool} (h1 : ∀ j, j < m → l.getD j false = true) (h2 : ∀ j, m ≤ j → l.getD j false = false) : ∀ k, unl k l = k - m
  | 0 => by simp [unl]
  | k + 1 => by
    simp only [unl, unl_split h1 h2 k]
    by_cases e : k < m
    · rw [h1 k e]; simp; omega
    · rw [h2 k (by omega)]; simp; omega

theorem unl_zero {l : Array Bool} : ∀ {k : Nat}, unl k l = 0 → ∀ j, j < k → l.getD j false = true
  | 0, _, j, hj => by omega
  | k + 1, h, j, hj => by
    simp only [unl] at h
    by_cases e : j = k
    · subst e
      cases hh : l.getD j false with
      | true => rfl
      | false => rw [hh] at h; simp at h
    · exact unl_zero (k := k) (by omega) j (by omega)

theorem any_tail {J : Nat → Act → World → Prop} (hdep : ∀ j k, k ∈ deps ops j → k < j) (hseq : ∀ j, m ≤ j → j < ops.size → ∀ k, k < j → ∃ n, before ops n j k = true)
    (hJ : ∀ t a w, m ≤ t → t < ops.size → J t a w → wpOp P ops Q t (fun a' w' => J (t + 1) a' w') a w) (hQ : ∀ a w, J ops.size a w → Q .normal a w) :
    ∀ (n t : Nat) (listed : Array Bool) (a : Act) (w : World), m ≤ t → t ≤ ops.size → Closed ops listed → (∀ j, j < t → listed.getD j false = true) → (∀ j, t ≤ j → listed.getD j false = false) → listed.size = ops.size →
      ops.size ≤ n + t → J t a w → wpAny P .any ops Q n listed a w := by
  intro n
  induction n with
  | zero =>
    intro t listed a w hm ht hc h1 h2 hs hn hj
    have : t = ops.size := by omega
    subst this
    refine ⟨?_, hQ a w hj⟩
    cases hr : Region.ready .any ops listed with
    | nil => rfl
    | cons i l =>
      obtain ⟨g1, g2⟩ := ready_un hs (by rw [hr]; exact List.mem_cons_self : i ∈ Region.ready .any ops listed)
      rw [h1 i g1] at g2; cases g2
  | succ n ih =>
    intro t listed a w hm ht hc h1 h2 hs hn hj
    refine ⟨fun hr => ?_, fun i hi => ?_⟩
    · by_cases e : t = ops.size
      · subst e; exact hQ a w hj
      · have := ready_of (j := t) hs (by omega) (h2 t (Nat.le_refl _)) (fun k hk => h1 k (hdep t k hk))
        rw [hr] at this; cases this
    · obtain ⟨g1, g2⟩ := ready_un hs hi
      have hit : i = t := by
        rcases Nat.lt_trichotomy i t with h | h | h
        · rw [h1 i h] at g2; cases g2
        · exact h
        · obtain ⟨k, hk⟩ := hseq i (by omega) g1 t h
          have := before_listed k hc (ready_deps hi) hk
          rw [h2 t (Nat.le_refl _)] at this; cases this
      subst hit
      refine wpOp_mono (fun a' w' hj' => ih (i + 1) _ a' w' (by omega) (by omega) (hc.set hi) (fun j hj2 => ?_) (fun j hj2 => ?_) (by simpa using hs) (by omega) hj') (hJ i a w hm g1 hj)
      · by_cases e : j = i
        · subst e; simp [show j < listed.size by omega]
        · exact getD_set_true (h1 j (by omega))
      · rw [getD_set_ne false (by omega)]; exact h2 j (by omega)

/-- The first m in whatever order, the others one behind the other. -/
theorem any_two {I : Array Bool → Act → World → Prop} {J : Nat → Act → World → Prop} (hmo : m ≤ ops.size) (hdep : ∀ j k, k ∈ deps ops j → k < j) (hseq : ∀ j, m ≤ j → j < ops.size → ∀ k, k < j → ∃ n, before ops n j k = true)
    (hI : ∀ listed a w i, I listed a w → Closed ops listed → i ∈ Region.ready .any ops listed → i < m → wpOp P ops Q i (fun a' w' => I (listed.setIfInBounds i true) a' w') a w)
    (hIJ : ∀ listed a w, I listed a w → (∀ j, j < m → listed.getD j false = true) → J m a w)
    (hJ : ∀ t a w, m ≤ t → t < ops.size → J t a w → wpOp P ops Q t (fun a' w' => J (t + 1) a' w') a w) (hQ : ∀ a w, J ops.size a w → Q .normal a w) :
    ∀ (n : Nat) (listed : Array Bool) (a : Act) (w : World), Closed ops listed → (∀ j, m ≤ j → listed.getD j false = false) → listed.size = ops.size → unl ops.size listed ≤ n → I listed a w → wpAny P .any ops Q n listed a w := by
  intro n
  induction n with
  | zero =>
    intro listed a w hc h2 hs hn hi
    have hall := unl_zero (l := listed) (k := ops.size) (by omega)
    exact any_tail hdep hseq hJ hQ 0 m listed a w (Nat.le_refl _) hmo hc (fun j hj => hall j (by omega)) h2 hs (by
      have := unl_split (fun j hj => hall j (by omega)) h2 ops.size; omega) (hIJ listed a w hi (fun j hj => hall j (by omega)))
  | succ n ih =>
    intro listed a w hc h2 hs hn hi
    by_cases hall : ∀ j, j < m → listed.getD j false = true
    · exact any_tail hdep hseq hJ hQ (n + 1) m listed a w (Nat.le_refl _) hmo hc hall h2 hs (by
        have := unl_split hall h2 ops.size; omega) (hIJ listed a w hi hall)
    · have hex : ∃ j, j < m ∧ listed.getD j false = false ∧ ∀ k, k < j → listed.getD k false = true := by
        have key : ∀ b, (∀ k, k < b → listed.getD k false = true) ∨ ∃ j, j < b ∧ listed.getD j false = false ∧ ∀ k, k < j → listed.getD k false = true := by
          intro b
          induction b with
          | zero => exact .inl (fun k hk => by omega)
          | succ b ihb =>
            rcases ihb with h | ⟨j, hj, h⟩
            · cases hb : listed.getD b false with
              | true => exact .inl (fun k hk => by
                  by_cases e : k = b
                  · subst e; exact hb
                  · exact h k (by omega))
              | false => exact .inr ⟨b, by omega, hb, h⟩
            · exact .inr ⟨j, by omega, h⟩
        rcases key m with h | h
        · exact absurd h hall
        · exact h
      obtain ⟨j0, hj0, hu0, hlt0⟩ := hex
      have hr0 := ready_of (j := j0) hs (by omega) hu0 (fun k hk => hlt0 k (hdep j0 k hk))
      refine ⟨fun hr => (by rw [hr] at hr0; cases hr0), fun i hii => ?_⟩
      obtain ⟨g1, g2⟩ := ready_un hs hii
      have him : i < m := by
        refine Nat.lt_of_not_le fun hge => ?_
        obtain ⟨k, hk⟩ := hseq i hge g1 j0 (by omega)
        have := before_listed k hc (ready_deps hii) hk
        rw [hu0] at this; cases this
      refine wpOp_mono (fun a' w' hi' => ih _ a' w' (hc.set hii) (fun j hj => ?_) (by simpa using hs) ?_ hi') (hI listed a w i hi hc hii him)
      · rw [getD_set_ne false (by omega)]; exact h2 j hj
      · have := unl_set (l := listed) (i := i) (by omega) g2 ops.size
        rw [if_pos g1] at this
        omega

end
end Go.V
