/- Appending to owned data. -/
import Derived.Test.YtmcaghldcabnnaaRvSixteen
namespace Go.V
open Go.RowKit

section
variable {c : Ctx} {B : Base} {s : Sit} {x : X} {a : Act} {w : World}
variable {ats : Array TypeId} {st xt e ty : TypeId} {i xi ei : TyInfo} {e' : TypeId}

theorem out_row {w' : World} {b n m off cap : Nat} {φ χ : Lay} (hφ : OwnOut B s w φ) (hχ : OwnOut B s w χ) (hd : ∀ q y b, χ q = some y → blkOf y = some b → ∀ q' y', φ q' = some y' → blkOf y' ≠ some b)
    (hsize : w.heap.size ≤ w'.heap.size) (hb1 : ∀ f, ¬ s.S f b) (hb2 : b < w'.heap.size) (hb3 : B.O0 b ∨ B.w0.heap.size ≤ b) (hb4 : ∀ r p z, s.Φ r p = some z → blkOf z ≠ some b)
    (hb5 : ∀ q y, q ≠ [] → φ q = some y → blkOf y ≠ some b) (hb6 : ∀ q y, χ q = some y → blkOf y ≠ some b) :
    OwnOut B s w' (topLay (.slice (some ⟨b, off, none⟩) m (cap + 1)) (catLay n φ χ)) := by
  have key : ∀ q y b', topLay (.slice (some ⟨b, off, none⟩) m (cap + 1)) (catLay n φ χ) q = some y → blkOf y = some b' →
      (q = [] ∧ b' = b) ∨ (∃ i j q', q = (i, j) :: q' ∧ i < n ∧ φ q = some y) ∨ (∃ i j q', q = (i, j) :: q' ∧ n ≤ i ∧ χ ((i - n, j) :: q') = some y) := by
    intro q y b' h1 h2
    cases q with
    | nil =>
      simp only [topLay, Option.some.injEq] at h1
      subst h1
      simp only [blkOf, Option.some.injEq] at h2
      exact .inl ⟨rfl, h2.symm⟩
    | cons c0 q => exact .inr (catLay_some h1)
  refine ⟨?_, ?_, ?_⟩
  · intro p y p' y' b' h1 b1 h2 b2
    rcases key _ _ _ h1 b1 with ⟨e1, e1'⟩ | ⟨i, j, q, e1, hi, g1⟩ | ⟨i, j, q, e1, hi, g1⟩ <;> rcases key _ _ _ h2 b2 with ⟨e2, e2'⟩ | ⟨k, l, q', e2, hk, g2⟩ | ⟨k, l, q', e2, hk, g2⟩
    · rw [e1, e2]
    · subst e1'; exact absurd b2 (hb5 _ _ (by rw [e2]; simp) g2)
    · subst e1'; exact absurd b2 (hb6 _ _ g2)
    · subst e2'; exact absurd b1 (hb5 _ _ (by rw [e1]; simp) g1)
    · exact hφ.inj _ _ _ _ _ g1 b1 g2 b2
    · exact absurd b1 (hd _ _ _ g2 b2 _ _ g1)
    · subst e2'; exact absurd b1 (hb6 _ _ g1)
    · exact absurd b2 (hd _ _ _ g1 b1 _ _ g2)
    · have := hχ.inj _ _ _ _ _ g1 b1 g2 b2
      simp only [List.cons.injEq, Prod.mk.injEq] at this
      obtain ⟨⟨h3, h4⟩, h5⟩ := this
      subst h4 h5
      rw [e1, e2]
      congr 2
      omega
  · intro q y b' h1 b1
    rcases key _ _ _ h1 b1 with ⟨e1, e1'⟩ | ⟨i, j, q, e1, hi, g1⟩ | ⟨i, j, q, e1, hi, g1⟩
    · subst e1'; exact ⟨hb1, hb2, hb3⟩
    · have := hφ.own _ _ _ g1 b1; exact ⟨this.1, by omega, this.2.2⟩
    · have := hχ.own _ _ _ g1 b1; exact ⟨this.1, by omega, this.2.2⟩
  · intro q y b' h1 b1
    rcases key _ _ _ h1 b1 with ⟨e1, e1'⟩ | ⟨i, j, q, e1, hi, g1⟩ | ⟨i, j, q, e1, hi, g1⟩
    · subst e1'; exact hb4
    · exact hφ.out _ _ _ g1 b1
    · exact hχ.out _ _ _ g1 b1

/-- So much is there room for. -/
def roomOk (z : Bool) (n m bytes : Nat) : Bool := match z with
  | true => Nat.ble (m * bytes) 281474976710656
  | false => Nat.ble ((2 * (n + m) + 192) * bytes) 281474976710656

theorem append_core (h0 : ats[0]? = some st) (h1 : ats[1]? = some xt) (hi : TyOk1 c.P st i) (hd : i.d = .sl e) {xd : TypeDesc} (hxu : c.P.underlying xt = some xd) (hxd : ∀ k, xd ≠ .int k) (hei : TyOk1 c.P e ei)
    (hz : ei.zero.length = ei.size) (hby : 0 < ei.bytes) (h : RelW B s x a w) {te : Ty} (hte : te.size = ei.size) (hsz : 0 < te.size) {xs ys : List (den te)} {base : Option Addr} {n0 cap0 : Nat} {ψ χ : Lay}
    (hb : RepO w s.S (.sl .own te xs) (.slice base n0 cap0) ψ) (hψ : OwnOut B s w ψ) {us : List Value} (hc : RowsAt w s.S te ys us χ) (hχ : OwnOut B s w χ)
    (hdis : ∀ q y b, χ q = some y → blkOf y = some b → ∀ q' y', ψ q' = some y' → blkOf y' ≠ some b) {v2 : Value} {n : Nat} (hn : n = ys.length)
    (hsrc : SrcRuns c.P w ei.size v2 n us) {z : Bool} (hzz : z = true → cap0 = 0) (hroom : roomOk z n0 n ei.bytes = true) :
    ∃ v' w' ψ', (Builtin.append_ ats ty #[.slice base n0 cap0, v2]).run c.P w = .ok v' w' ∧ RelW B s x a w' ∧ RepO w' s.S (.sl .own te (xs ++ ys)) v' ψ' ∧ OwnOut B s w' ψ' ∧ ψ' [] = some v' := by
  obtain ⟨hin, hgrow⟩ := run_append (w := w) (ty := ty) (base := base) (sLen := n0) (sCap := cap0) h0 h1 hi hd hxu hxd hei hsrc
  have hone := hc.one
  have hroom' : ¬ n0 + n ≤ cap0 → Builtin.nextslicecap (n0 + n) cap0 * ei.bytes ≤ 2 ^ 48 := by
    intro hgt
    cases z with
    | true =>
      have h0c := hzz rfl
      subst h0c
      have hr : n * ei.bytes ≤ 281474976710656 := Nat.le_of_ble_eq_true hroom
      have hn00 : n0 = 0 := by
        generalize hval : Value.slice base n0 0 = val at hb
        cases hb with
        | sh _ _ _ ht => simp [T.isSh] at ht
        | nil => simp only [Value.slice.injEq] at hval; exact hval.2.1
        | sl => simp at hval
        | box _ cs ht => simp [T.box?] at ht
      subst hn00
      rw [Nat.zero_add, nextslicecap_zero _ (by omega)]
      omega
    | false =>
      have hr : (2 * (n0 + n) + 192) * ei.bytes ≤ 281474976710656 := Nat.le_of_ble_eq_true hroom
      have := Nat.mul_le_mul_right ei.bytes (nextslicecap_le (n0 + n) cap0 (by omega))
      omega
  -- growing: out of the old cells
  have grow : ¬ n0 + n ≤ cap0 → n0 = xs.length → ∀ (os : List Value) (φe : Lay), RowsAt w s.S te xs os φe → (∀ d, (Builtin.firstCells ei.size n0 (.slice base n0 cap0)).run c.P { w with drawn := d } = .ok os.toArray { w with drawn := d }) →
      OwnOut B s w φe → (∀ q y b, χ q = some y → blkOf y = some b → ∀ q' y', φe q' = some y' → blkOf y' ≠ some b) →
      ∃ v' w' ψ', (Builtin.append_ ats ty #[.slice base n0 cap0, v2]).run c.P w = .ok v' w' ∧ RelW B s x a w' ∧ RepO w' s.S (.sl .own te (xs ++ ys)) v' ψ' ∧ OwnOut B s w' ψ' ∧ ψ' [] = some v' := by
    intro hgt hn0 os φe hco hos hφe hdis'
    obtain ⟨newCap, rest, w', hnc, hrest, hheap, ho1, ho2, ho3, hrun⟩ := hgrow hgt hby (hroom' hgt) os.toArray hos
    obtain ⟨k, rfl⟩ : ∃ k, newCap = k + 1 := ⟨newCap - 1, by omega⟩
    have hbold : ∀ b' : Nat, b' < w.heap.size → w'.heap[b']? = w.heap[b']? := fun b' hb' => by rw [hheap, Array.getElem?_push, if_neg (by omega)]
    have hbnew : w'.heap[w.heap.size]? = some (.cells (os.toArray ++ us.toArray ++ rest) e (0, 0)) := by rw [hheap]; simp
    have hsize : w'.heap.size = w.heap.size + 1 := by rw [hheap]; simp
    have hlt2 : ∀ q y b', catLay xs.length φe χ q = some y → blkOf y = some b' → b' < w.heap.size := by
      intro q y b' e1 e2
      rcases catLay_some e1 with ⟨i, j, q', -, -, g⟩ | ⟨i, j, q', -, -, g⟩
      · exact (hφe.own _ _ _ g e2).2.1
      · exact (hχ.own _ _ _ g e2).2.1
    have hcat := (hco.append hc).mono (w' := w') (fun f b' hb' => hbold b' (h.slt f b' hb')) (fun c0 p y b' e1 e2 => hbold b' (hlt2 _ _ _ e1 e2))
    have hrow := hcat.toSl (b := w.heap.size) (off := 0) (cap := k) hbnew (by rw [List.length_append]; omega)
      (by
        simp only [Array.size_append, hrest, hz, List.size_toArray, hco.len, hc.len, ← hte]
        rw [← Nat.add_mul, ← Nat.add_mul, Nat.zero_add]
        refine Nat.mul_le_mul_right _ ?_
        omega)
      (fun k u hk => by
        rw [Nat.zero_add, Array.getElem?_append_left (by
          have := (List.getElem?_eq_some_iff.mp hk).1
          simpa using this)]
        simpa using hk)
    have hlen : (xs ++ ys).length = n0 + n := by simp; omega
    rw [hlen] at hrow
    refine ⟨_, w', _, hrun, h.world hbold (by omega) ho1 ho2 ho3, hrow, ?_, rfl⟩
    exact out_row hφe hχ hdis' (by omega) (fun f hR => by have := h.slt _ _ hR; omega) (by omega) (.inr h.grow)
      (fun r p z e1 e2 => by have := (h.own _ _ _ _ e1 e2).2.1; omega)
      (fun q y _ e1 e2 => by have := (hφe.own _ _ _ e1 e2).2.1; omega)
      (fun q y e1 e2 => by have := (hχ.own _ _ _ e1 e2).2.1; omega)
  generalize hval : Value.slice base n0 cap0 = val at hb
  cases hb with
  | sh _ _ _ ht => simp [T.isSh] at ht
  | box _ cs ht => simp [T.box?] at ht
  | nil _ a0 φ hφ0 hφn =>
    simp only [Value.slice.injEq] at hval
    obtain ⟨rfl, rfl, rfl⟩ := hval
    by_cases hm : n = 0
    · have hy : ys = [] := by
        have : ys.length = 0 := by omega
        simpa using this
      subst hy
      have hu0 : us = [] := by
        have := hc.len
        simpa using this
      subst hu0
      refine ⟨.slice base 0 0, w, fun p => match p with | [] => some (.slice base 0 0) | _ => none, ?_, h, .nil _ base _ rfl (fun _ _ => rfl), ?_, rfl⟩
      · have := hin (by omega)
        rw [this, hm]
        cases base with
        | none => rfl
        | some ad => simp [storeCells]
      · have hs : ∀ (p : Path) y b, (match p with | [] => some (Value.slice base 0 0) | _ => none) = some y → blkOf y = some b → False := by
          intro p y b e1 e2
          cases p with
          | nil => simp only [Option.some.injEq] at e1; subst e1; rw [blk_cap0] at e2; simp at e2
          | cons => simp at e1
        exact ⟨fun p y p' y' b e1 e2 => (hs p y b e1 e2).elim, fun p y b e1 e2 => (hs p y b e1 e2).elim, fun p y b e1 e2 => (hs p y b e1 e2).elim⟩
    · exact grow (by omega) rfl [] noLay ⟨by simp, fun i j t e => by simp [cellOf, rows] at e, fun _ _ _ => rfl⟩
        (fun d => run_firstCells (w := { w with drawn := d }) (us := []) (by simp) (.inl rfl)) (OwnOut.none B s w) (fun q y b _ _ q' y' e => by simp [noLay] at e)
  | sl _ es1 bb off capx arr el vs φ hbb hcap hszz hcc hrr h00 hnn =>
    simp only [Value.slice.injEq] at hval
    obtain ⟨rfl, rfl, rfl⟩ := hval
    have hdb : blkOf (.slice (some ⟨bb, off, none⟩) xs.length (capx + 1)) = some bb := rfl
    let φe : Lay := fun q => match q with | [] => none | q => ψ q
    have hφs : ∀ q y, φe q = some y → q ≠ [] ∧ ψ q = some y := by
      intro q y e1
      cases q with
      | nil => simp [φe] at e1
      | cons => exact ⟨by simp, e1⟩
    have hφe : OwnOut B s w φe := ⟨fun p y p' y' b e1 e2 e3 e4 => hψ.inj _ _ _ _ _ (hφs _ _ e1).2 e2 (hφs _ _ e3).2 e4, fun q y b e1 => hψ.own _ _ _ (hφs _ _ e1).2, fun q y b e1 => hψ.out _ _ _ (hφs _ _ e1).2⟩
    have hnb : ∀ q y, q ≠ [] → φe q = some y → blkOf y ≠ some bb := by
      intro q y hq e1 e2
      have := hψ.inj _ _ _ _ _ (hφs _ _ e1).2 e2 h00 hdb
      exact hq this
    have hχb : ∀ q y, χ q = some y → blkOf y ≠ some bb := fun q y e1 e2 => hdis _ _ _ e1 e2 _ _ h00 hdb
    have hlenm : off + xs.length * te.size ≤ arr.size := by
      have := Nat.mul_le_mul_right te.size hcap
      omega
    let os := (arr.toList.drop off).take (xs.length * te.size)
    have hosl : os.length = xs.length * te.size := by simp only [os, List.length_take, List.length_drop, Array.length_toList]; omega
    have hosg : ∀ k, k < xs.length * te.size → os[k]? = arr[off + k]? := fun k hk => by
      simp only [os, List.getElem?_take, if_pos hk, List.getElem?_drop, Array.getElem?_toList]
    have hoscells : RowsAt w s.S te xs os φe := by
      refine ⟨hosl, fun i j t e => ?_, fun i j e => hnn i j e⟩
      have hij := rows_lt e
      have hlt : i * te.size + j < xs.length * te.size := by
        have : (i + 1) * te.size ≤ xs.length * te.size := Nat.mul_le_mul_right _ hij.1
        rw [Nat.add_mul, Nat.one_mul] at this
        omega
      exact ⟨vs i j, by rw [hosg _ hlt]; exact hcc i j t e, hrr i j t e⟩
    by_cases hle : xs.length + n ≤ capx + 1
    · -- in place
      have hfit : off + xs.length * te.size + us.length ≤ arr.size := by
        rw [hc.len, Nat.add_assoc, ← Nat.add_mul]
        have := Nat.mul_le_mul_right te.size hle
        rw [hn] at this
        omega
      have hst := run_storeCells_at c.P bb (off + xs.length * te.size) el us 0 arr w hbb (by omega) hone
      simp only [Nat.add_zero] at hst
      let arr' : Array Value := (arr.toList.take (off + xs.length * te.size) ++ us ++ arr.toList.drop (off + xs.length * te.size + us.length)).toArray
      have harr' : arr'.size = arr.size := by
        simp only [arr', List.size_toArray, List.length_append, List.length_take, List.length_drop, Array.length_toList]; omega
      have hbad : ∀ b' : Nat, b' ≠ bb → (w.setRow bb arr').heap[b']? = w.heap[b']? := fun b' hb' => setRow_other w bb b' arr' hb'
      have hcat := (hoscells.append hc).mono (w' := w.setRow bb arr')
        (fun f b' hb' => hbad b' (fun e => (hψ.own _ _ _ h00 hdb).1 f (e ▸ hb')))
        (fun c0 p y b' e1 e2 => hbad b' (fun e3 => by
          subst e3
          rcases catLay_some e1 with ⟨i, j, q', -, -, g⟩ | ⟨i, j, q', -, -, g⟩
          · exact hnb (c0 :: p) _ (List.cons_ne_nil _ _) g e2
          · exact hχb _ _ g e2))
      have hrow := hcat.toSl (b := bb) (off := off) (cap := capx) (arr := arr') (el := el)
        (setRow_heap w bb arr arr' el (0, 0) hbb) (by simp; omega) (by rw [harr']; exact hszz)
        (fun k u hk => by
          have hlt := (List.getElem?_eq_some_iff.mp hk).1
          rw [List.length_append, hosl] at hlt
          have hl1 : (arr.toList.take (off + xs.length * te.size)).length = off + xs.length * te.size := by simp; omega
          simp only [arr', List.getElem?_toArray]
          by_cases hk2 : k < xs.length * te.size
          · rw [List.getElem?_append_left (by omega)] at hk
            rw [List.append_assoc, List.getElem?_append_left (by omega), List.getElem?_take, if_pos (by omega), Array.getElem?_toList, ← hosg _ hk2]
            exact hk
          · rw [List.getElem?_append_right (by omega), hosl] at hk
            rw [List.append_assoc, List.getElem?_append_right (by omega), hl1, List.getElem?_append_left (by omega)]
            rw [show off + k - (off + xs.length * te.size) = k - xs.length * te.size by omega]
            exact hk)
      have hlen : (xs ++ ys).length = xs.length + n := by simp; omega
      rw [hlen] at hrow
      refine ⟨_, w.setRow bb arr', _, ?_, ?_, hrow, ?_, rfl⟩
      · rw [hin hle]
        simp only [addr_add, ← hte, hst]
        rfl
      · exact h.worldBut (b0 := bb) (fun b' _ hb' => hbad b' hb') (by simp) rfl rfl rfl (hψ.own _ _ _ h00 hdb).1
          (fun r p z e1 => hψ.out _ _ _ h00 hdb _ _ _ e1) (hψ.own _ _ _ h00 hdb).2.2
      · exact out_row hφe hχ (fun q y b e1 e2 q' y' e3 => hdis _ _ _ e1 e2 _ _ (hφs _ _ e3).2) (by simp) (hψ.own _ _ _ h00 hdb).1 (by simpa using (hψ.own _ _ _ h00 hdb).2.1) (hψ.own _ _ _ h00 hdb).2.2
          (fun r p z e1 => hψ.out _ _ _ h00 hdb _ _ _ e1) hnb hχb
    · refine grow hle rfl os φe hoscells (fun d => ?_) hφe (fun q y b e1 e2 q' y' e3 => hdis _ _ _ e1 e2 _ _ (hφs _ _ e3).2)
      refine run_firstCells (w := { w with drawn := d }) (by rw [hosl, hte]) (.inr ⟨bb, off, rfl, fun k u hk => ?_⟩)
      have : ({ w with drawn := d } : World).cell? ⟨bb, off + k, none⟩ = arr[off + k]? := cell?_of_cells (w := { w with drawn := d }) hbb
      rw [this, ← hosg k (by rw [← hosl]; exact (List.getElem?_eq_some_iff.mp hk).1)]
      exact hk

end
end Go.V
