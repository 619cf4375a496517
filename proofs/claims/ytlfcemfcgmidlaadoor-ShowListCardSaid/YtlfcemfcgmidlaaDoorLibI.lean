/- A library of typed data in memory: What slices.Delete and slices.Insert come to. A function that deletes, as one that takes a slice in and hands one back. What slices.Insert comes to: the steps in memory. A function that inserts, as one that takes a slice in and hands one back. A function that inserts is sound. For walks through functions that delete and insert. Functions run in the caller's place: entering and leaving. No conditions. -/
import Derived.Test.YtlfcemfcgmidlaaDoorLibH
import Derived.Test.YtlfcemfcgmidlaaDoorLibE
import Derived.Test.YtlfcemfcgmidlaaDoorLibG
import Derived.Laws.Externs

/-! What slices.Delete and slices.Insert come to. -/
namespace Go.V
open Go.RowKit

/-- Only this block has turned. -/
structure Turned (w w' : World) (b : Nat) (el : TypeId) (L' : List Value) : Prop where
  heap : w'.heap[b]? = some (.cells L'.toArray el (0, 0))
  other : ∀ k, k ≠ b → w'.heap[k]? = w.heap[k]?
  size : w'.heap.size = w.heap.size
  os : w'.os = w.os
  tape : w'.tape = w.tape
  output : w'.output = w.output


theorem Turned.of {w : World} {b : Nat} {el : TypeId} {L : List Value} (h : Blk w b el L) (L' : List Value) : Turned w (w.setRow b L'.toArray) b el L' :=
  ⟨setRow_heap w b _ _ el (0, 0) h, fun k hk => setRow_other w b k _ hk, setRow_size _ _ _, rfl, rfl, rfl⟩

/-- A function that deletes. -/
def DelOk (P : Program) (f : FuncId) (sz : Nat) : Prop :=
  (∀ (w : World) (ad : Option Addr) (n cap i : Nat), i ≤ n → n ≤ cap → Calls P f #[.slice ad n cap, iv i, iv i] w fun e w' => e = .returned (.slice ad n cap) ∧ w' = w) ∧
  ∀ (w : World) (b off n cap i j : Nat) (el : TypeId) (L : List Value), i < j → j ≤ n → n ≤ cap → Blk w b el L → off + cap * sz ≤ L.length → (∀ u ∈ seg L off (n * sz), u.oneCell' = true) →
    Calls P f #[.slice (some ⟨b, off, none⟩) n cap, iv i, iv j] w fun e w' => e = .returned (.slice (some ⟨b, off, none⟩) (n - (j - i)) cap) ∧
      ∃ L', L'.length = L.length ∧ Turned w w' b el L' ∧ ∀ k, k < (n - (j - i)) * sz → L'[off + k]? = if k < i * sz then L[off + k]? else L[off + k + (j - i) * sz]?

/-- The steps of a deletion. -/
theorem del_steps {P : Program} {t e : TypeId} {ti ei : TyInfo} (hi : TyOk1 P t ti) (hd : ti.d = .sl e) (hei : TyOk1 P e ei) (hone : ∀ u ∈ ei.zero, u.oneCell' = true) (hsz : ei.zero.length = ei.size) (hs0 : 0 < ei.size)
    {w : World} {b off n cap i j : Nat} {el : TypeId} {L : List Value} (hij : i < j) (hjn : j ≤ n) (hnc : n ≤ cap) (hb : Blk w b el L) (hfit : off + cap * ei.size ≤ L.length) (hL : ∀ u ∈ seg L off (n * ei.size), u.oneCell' = true) :
    ∃ v1 v3 v5 w3, (∀ w, (Instr.sliceAt t (.slice (some ⟨b, off, none⟩) n cap) (some (iv i)) (some (iv j)) (some (iv n))).run P w = .ok v1 w) ∧
      (∀ w, (Instr.sliceAt t (.slice (some ⟨b, off, none⟩) n cap) none (some (iv i)) none).run P w = .ok (.slice (some ⟨b, off, none⟩) i cap) w) ∧
      (∀ w, (Instr.sliceAt t (.slice (some ⟨b, off, none⟩) n cap) (some (iv j)) none none).run P w = .ok v3 w) ∧
      (∃ w2, (Builtin.append_ #[t, t] t #[.slice (some ⟨b, off, none⟩) i cap, v3]).run P { w with drawn := w.drawn + 1 } = .ok (.slice (some ⟨b, off, none⟩) (n - (j - i)) cap) w2 ∧
        (∀ w, (Instr.sliceAt t (.slice (some ⟨b, off, none⟩) (n - (j - i)) cap) (some (iv (n - (j - i)))) (some (iv n)) none).run P w = .ok v5 w) ∧
        (Builtin.clear_ #[t] 0 #[v5]).run P w2 = .ok (.tuple #[]) w3) ∧
      ∃ L', L'.length = L.length ∧ Turned w w3 b el L' ∧ ∀ k, k < (n - (j - i)) * ei.size → L'[off + k]? = if k < i * ei.size then L[off + k]? else L[off + k + (j - i) * ei.size]? := by
  have m1 : (n - (j - i)) * ei.size = i * ei.size + (n - j) * ei.size := by rw [← Nat.add_mul]; congr 1; omega
  have m2 : n * ei.size = j * ei.size + (n - j) * ei.size := by rw [← Nat.add_mul]; congr 1; omega
  have m3 : j * ei.size = i * ei.size + (j - i) * ei.size := by rw [← Nat.add_mul]; congr 1; omega
  have m4 : n * ei.size ≤ cap * ei.size := Nat.mul_le_mul_right _ hnc
  have m6 : 0 < (j - i) * ei.size := Nat.mul_pos (by omega) hs0
  have hnn : n - (n - (j - i)) = j - i := by omega
  have hb' : Blk { w with drawn := w.drawn + 1 } b el L := hb
  -- the part behind
  have hv3 : ∃ o2 c2, (∀ w, (Instr.sliceAt t (.slice (some ⟨b, off, none⟩) n cap) (some (iv j)) none none).run P w = .ok (.slice (some ⟨b, o2, none⟩) (n - j) c2) w) ∧ (n - j = 0 ∧ o2 ≤ L.length ∨ o2 = off + j * ei.size) := by
    have h1 := fun w => raw_slice (P := P) hi hd hei (ad := some ⟨b, off, none⟩) (n := n) (cap := cap) (l := j) (h := n) (lo := some (iv j)) (hh := none) (.inr rfl) (.inl ⟨rfl, rfl⟩) hjn hnc w
    by_cases hc : cap = j
    · refine ⟨off, cap - j, fun w => ?_, .inl ⟨by omega, by omega⟩⟩
      rw [h1, if_pos hc]
    · refine ⟨off + j * ei.size, cap - j, fun w => ?_, .inr rfl⟩
      rw [h1, if_neg hc]
      simp [addr_add]
  obtain ⟨o2, c2, hv3, ho2⟩ := hv3
  have hfit2 : o2 + (n - j) * ei.size ≤ L.length := by
    rcases ho2 with ⟨h1, h2⟩ | h1
    · rw [h1]; omega
    · omega
  have hseg : ∀ u ∈ seg L o2 ((n - j) * ei.size), u.oneCell' = true := by
    intro u hu
    obtain ⟨k, k1, k2, k3⟩ := mem_seg hu
    have ho2 : o2 = off + j * ei.size := by
      rcases ho2 with ⟨h1, h2⟩ | h1
      · rw [h1] at k2; omega
      · exact h1
    refine hL u (List.mem_of_getElem? (i := k - off) ?_)
    rw [get_seg (by omega), ← k3]
    congr 1; omega
  have q1 : i + (n - j) ≤ cap := by omega
  have q2 : off + i * ei.size + (n - j) * ei.size ≤ L.length := by omega
  have hap := raw_append (P := P) (ats := #[t, t]) (ty := t) rfl rfl hi hd hei (n := i) (cap := cap) (o2 := o2) (m := n - j) (c2 := c2) hb' hb' q1 q2 hfit2 hseg
  have hlen1 : (splice L (off + i * ei.size) (seg L o2 ((n - j) * ei.size))).length = L.length := length_splice (by rw [length_seg hfit2]; exact q2)
  have hb2 : Blk ({ w with drawn := w.drawn + 1 }.setRow b (splice L (off + i * ei.size) (seg L o2 ((n - j) * ei.size))).toArray) b el (splice L (off + i * ei.size) (seg L o2 ((n - j) * ei.size))) := hb'.set
  have hfit3 : off + (n - (j - i)) * ei.size + (j - i) * ei.size ≤ (splice L (off + i * ei.size) (seg L o2 ((n - j) * ei.size))).length := by rw [hlen1]; omega
  have hji : 0 < j - i := by omega
  obtain ⟨us, hus, hcl, -⟩ := raw_clear (P := P) (ats := #[t]) (ty := 0) (o := off + (n - (j - i)) * ei.size) (n := j - i) (cap := cap - (n - (j - i))) rfl hi hd hei hone hsz hs0 hb2 hji hfit3
  rw [setRow_setRow hb'] at hcl
  have e1 : i + (n - j) = n - (j - i) := by omega
  rw [e1] at hap
  have hs1 : (seg L o2 ((n - j) * ei.size)).length = (n - j) * ei.size := length_seg hfit2
  have s2 := fun w => raw_slice (P := P) hi hd hei (ad := some ⟨b, off, none⟩) (n := n) (cap := cap) (l := 0) (h := i) (lo := none) (hh := some (iv i)) (.inl ⟨rfl, rfl⟩) (.inr rfl) (Nat.zero_le _) (by omega) w
  have s5 := fun w => raw_slice (P := P) hi hd hei (ad := some ⟨b, off, none⟩) (n := n - (j - i)) (cap := cap) (l := n - (j - i)) (h := n) (lo := some (iv (n - (j - i)))) (hh := some (iv n)) (.inr rfl) (.inr rfl) (by omega) hnc w
  have s1 := fun w => raw_slice3 (P := P) hi hd hei (ad := some ⟨b, off, none⟩) (n := n) (cap := cap) (l := i) (h := j) (m := n) (by omega) (by omega) hnc w
  have hz : some (Addr.mk b off none) = (if cap = 0 then some ⟨b, off, none⟩ else (some (Addr.mk b off none)).map (·.add (0 * ei.size))) := by simp [addr_add]
  rw [← hz, Nat.sub_zero, Nat.sub_zero] at s2
  have hne : ¬ cap = n - (j - i) := by omega
  rw [if_neg hne, hnn] at s5
  simp only [Option.map_some, addr_add] at s5
  generalize hL1 : splice L (off + i * ei.size) (seg L o2 ((n - j) * ei.size)) = L1 at *
  have f1 : off + (n - (j - i)) * ei.size + us.length ≤ L1.length := by rw [hlen1, hus]; omega
  have htu := Turned.of hb' (splice L1 (off + (n - (j - i)) * ei.size) us)
  refine ⟨_, _, _, _, s1, s2, hv3, ⟨_, hap, s5, hcl⟩, splice L1 (off + (n - (j - i)) * ei.size) us, by rw [length_splice f1, hlen1], ⟨htu.heap, htu.other, htu.size, htu.os, htu.tape, htu.output⟩, fun k hk => ?_⟩
  have f2 : off + i * ei.size + (seg L o2 ((n - j) * ei.size)).length ≤ L.length := by rw [hs1]; omega
  have f3 : off + k < off + (n - (j - i)) * ei.size := by omega
  rw [get_splice f1, if_pos f3, ← hL1, get_splice f2, hs1]
  by_cases hki : k < i * ei.size
  · have f4 : off + k < off + i * ei.size := by omega
    rw [if_pos f4, if_pos hki]
  · have f4 : ¬ off + k < off + i * ei.size := by omega
    have f5 : off + k < off + i * ei.size + (n - j) * ei.size := by omega
    have f6 : off + k - (off + i * ei.size) < (n - j) * ei.size := by omega
    rw [if_neg f4, if_neg hki, if_pos f5, get_seg f6]
    have ho2 : o2 = off + j * ei.size := by
      rcases ho2 with ⟨h1, h2⟩ | h1
      · rw [h1] at m1; omega
      · exact h1
    have f7 : o2 + (off + k - (off + i * ei.size)) = off + k + (j - i) * ei.size := by omega
    rw [f7]

end Go.V

/-! A function that deletes, as one that takes a slice in and hands one back. -/
namespace Go.V
open Go.RowKit

theorem Inj.remap {ψ χ : Lay} (h : Inj ψ) (f : Path → Path) (hf : ∀ q y, χ q = some y → ∃ y0, ψ (f q) = some y0 ∧ blkOf y0 = blkOf y)
    (hinj : ∀ q q' y y', χ q = some y → χ q' = some y' → f q = f q' → q = q') : Inj χ := fun q y q' y' b h1 h2 h3 h4 => by
  obtain ⟨y0, g1, g2⟩ := hf _ _ h1
  obtain ⟨y1, g3, g4⟩ := hf _ _ h3
  exact hinj _ _ _ _ h1 h3 (h _ _ _ _ b g1 (g2.trans h2) g3 (g4.trans h4))

def intS : PS := ⟨false, .bo, .int .i64⟩
def delS (e : Ty) : Sig := ⟨[⟨false, .own, .sl e⟩, intS, intS], [⟨false, .own, .sl e⟩]⟩

/-- What is left behind a deletion. -/
def delR {α : Type} (d : List α × (Int × Int)) : Option (List α) :=
  bif and (decide (0 ≤ d.2.1)) (and (decide (d.2.1 ≤ d.2.2)) (decide (d.2.2 ≤ (d.1.length : Int)))) then some (app (d.1.take d.2.1.toNat) (d.1.drop d.2.2.toNat)) else none

theorem int_arg {w : World} {s : Sit} {n : Int} {v : Value} (h : RepD w s (paramD intS n) v) : v = .int .i64 n := by
  cases h with
  | v _ _ h => cases h with
    | c _ _ h => cases h with
      | k _ _ h =>
        cases h with
        | v _ _ => rfl
        | box _ _ _ hb => cases hb

section
variable {P : Program}

theorem ints_arg {w : World} {s : Sit} {i j : Int} {vs : List Value} (hl : vs.length = 2) (h : ∀ (k : Nat) D, (paramsD [intS, intS] ((i, j) : Int × Int))[k]? = some D → ∃ v, vs[k]? = some v ∧ RepD w s D v) : vs = [.int .i64 i, .int .i64 j] := by
  obtain ⟨v0, e0, r0⟩ := h 0 _ rfl
  obtain ⟨v1, e1, r1⟩ := h 1 _ rfl
  have r0 := int_arg r0
  have r1 := int_arg r1
  subst r0 r1
  match vs, hl with
  | [a, b], _ =>
    simp only [List.getElem?_cons_zero, List.getElem?_cons_succ, Option.some.injEq] at e0 e1
    rw [e0, e1]

theorem LeftD.same {w : World} {S : Fl → Nat → Prop} {ψ : Lay} {e : Ty} {r : List (den e)} {v : Value} (h : RepO w S (.sl .own e r) v ψ) (h0 : ψ [] = some v) (hi : Inj ψ) (ho : ∀ q y b, ψ q = some y → blkOf y = some b → b < w.heap.size) : LeftD w S ψ w e r v ψ :=
  ⟨rfl, rfl, rfl, Nat.le_refl _, fun _ _ _ => rfl, h, h0, hi, fun q y b e1 e2 => ⟨ho q y b e1 e2, .inr ⟨q, y, e1, e2⟩⟩⟩

theorem seg_all (L : List Value) (o n k : Nat) (u : Value) (h : (seg L o n)[k]? = some u) : L[o + k]? = some u := by
  have hk : k < n := by
    have := (List.getElem?_eq_some_iff.mp h).1
    unfold seg at this
    rw [List.length_take] at this
    omega
  rwa [get_seg hk] at h

theorem del_sound {e : Ty} {f : FuncId} (h : DelOk P f e.size) : SoundD P f (delS e) delR := by
  intro w S s v ψ vs xs d r hrep htop hinj _ _ _ hown hSs hslt hlen hargs hsem
  obtain ⟨i, j⟩ := d
  have hvs := ints_arg hlen hargs
  subst hvs
  unfold delR at hsem
  simp only at hsem
  rcases cond_some hsem with ⟨hc, hsem⟩ | ⟨_, hsem⟩
  rotate_left
  · cases hsem
  simp only [Bool.and_eq_true, decide_eq_true_eq] at hc
  obtain ⟨hi0, hij, hjn⟩ := hc
  obtain ⟨i, rfl⟩ := Int.eq_ofNat_of_zero_le hi0
  obtain ⟨j, rfl⟩ := Int.eq_ofNat_of_zero_le (Int.le_trans hi0 hij)
  simp only [Int.ofNat_le, Int.toNat_natCast, app_eq, Option.some.injEq] at hij hjn hsem
  subst hsem
  have hown' : ∀ q y b, ψ q = some y → blkOf y = some b → b < w.heap.size := fun q y b e1 e2 => (hown q y b e1 e2).2.2
  by_cases hee : i = j
  · subst hee
    rw [List.take_append_drop]
    have key : ∀ ad cap, xs.length ≤ cap → v = .slice ad xs.length cap → Calls P f (v :: [.int .i64 (i : Int), .int .i64 (i : Int)]).toArray w fun ex w' => ∃ v' ψ', ex = .returned v' ∧ LeftD w S ψ w' e xs v' ψ' := by
      intro ad cap hcap hv
      subst hv
      refine (h.1 w ad xs.length cap i hjn hcap).mono (fun ex w' he => ?_)
      obtain ⟨rfl, rfl⟩ := he
      exact ⟨_, ψ, rfl, .same hrep htop hinj hown'⟩
    cases hrep with
    | sh _ _ _ ht => simp [T.isSh] at ht
    | box _ cs ht => simp [T.box?] at ht
    | nil _ ad φ h0 hn => exact key ad 0 (by simp) rfl
    | sl _ _ b off cap arr el vs φ hb hcap hsz hc hr h0 hn => exact key _ _ hcap rfl
  · have hlt : i < j := by omega
    have hrep0 := hrep
    cases hrep with
    | sh _ _ _ ht => simp [T.isSh] at ht
    | box _ cs ht => simp [T.box?] at ht
    | nil _ ad φ h0 hn => simp at hjn; omega
    | sl _ _ b off cap arr el vs φ hb hcap hsz hcc hr h0 hn =>
      generalize hsz' : e.size = sz at *
      have hfit : off + xs.length * sz ≤ arr.toList.length := by
        have : xs.length * sz ≤ (cap + 1) * sz := Nat.mul_le_mul_right _ hcap
        simp; omega
      have hrows : RowsAt w S e xs (seg arr.toList off (xs.length * sz)) (fun q => match q with | [] => none | q => ψ q) := by
        refine ⟨by rw [hsz']; exact length_seg hfit, fun k l t e' => ⟨vs k l, ?_, hr k l t e'⟩, fun k l e' => hn k l e'⟩
        have hkl := rows_lt e'
        have hk2 : k * e.size + l < xs.length * e.size := by
          have : (k + 1) * e.size ≤ xs.length * e.size := Nat.mul_le_mul_right _ hkl.1
          rw [Nat.add_mul] at this; omega
        rw [hsz'] at hk2 ⊢
        rw [get_seg hk2, Array.getElem?_toList]
        exact hcc k l t e'
      have hone := hrows.one
      have hblk : Blk w b el arr.toList := by unfold Blk; rw [hb]
      refine (h.2 w b off xs.length (cap + 1) i j el arr.toList hlt hjn hcap hblk (by simpa using hsz) hone).mono (fun ex w' he => ?_)
      obtain ⟨rfl, L', hL1, ht, hL2⟩ := he
      -- the rows that stay
      have hr2 := (hrows.take i).append (hrows.drop j)
      have hlen1 : (xs.take i).length = i := by rw [List.length_take]; omega
      rw [hlen1] at hr2
      have hbS : ∀ f, ¬ S f b := (hown [] _ b h0 rfl).1
      -- where they stood
      let g : Path → Path := fun q => match q with
        | [] => []
        | (k, l) :: q => if k < i then (k, l) :: q else (k - i + j, l) :: q
      have hχ : ∀ k l q y, (catLay i (takeLay i fun q => match q with | [] => none | q => ψ q) (dropLay j fun q => match q with | [] => none | q => ψ q)) ((k, l) :: q) = some y → ψ (g ((k, l) :: q)) = some y := by
        intro k l q y hy
        simp only [catLay, takeLay, dropLay] at hy
        simp only [g]
        split at hy
        · rename_i hk
          rw [if_pos hk]; exact hy
        · rename_i hk
          rw [if_neg hk]; exact hy
      have hr3 := hr2.mono (w' := w') (fun f b' hS => ht.other b' (fun e => hbS f (e ▸ hS))) (fun c0 p y b' e1 e2 => ht.other b' (fun e => by
        subst e
        obtain ⟨k, l⟩ := c0
        have h5 := hχ k l p y e1
        have h6 := hinj _ _ _ _ b' h5 e2 h0 rfl
        simp only [g] at h6
        split at h6 <;> cases h6))
      have hlen2 : (xs.take i ++ xs.drop j).length = xs.length - (j - i) := by simp; omega
      have hto := hr3.toSl (b := b) (off := off) (cap := cap) (arr := L'.toArray) (el := el) ht.heap (by rw [hlen2]; omega) (by rw [hsz', List.size_toArray, hL1]; simpa using hsz) (fun k u hk => ?_)
      rotate_left
      · have hk1 : k < (xs.length - (j - i)) * sz := by
          have := (List.getElem?_eq_some_iff.mp hk).1
          rw [hr3.len, hlen2, hsz'] at this; exact this
        rw [List.getElem?_toArray, hL2 k hk1]
        have m1 : i * sz ≤ xs.length * sz := Nat.mul_le_mul_right _ (by omega)
        have m2 : j * sz = i * sz + (j - i) * sz := by rw [← Nat.add_mul]; congr 1; omega
        have l1 : ((seg arr.toList off (xs.length * sz)).take (i * sz)).length = i * sz := by rw [List.length_take, length_seg hfit]; omega
        rw [hsz', List.getElem?_append, l1] at hk
        split at hk
        · rename_i hki
          rw [if_pos hki]
          rw [List.getElem?_take, if_pos hki] at hk
          exact seg_all _ _ _ _ _ hk
        · rename_i hki
          rw [if_neg hki]
          rw [List.getElem?_drop] at hk
          have := seg_all _ _ _ _ _ hk
          rw [← this]
          congr 1; omega
      rw [hlen2] at hto
      refine ⟨_, _, rfl, ht.os, ht.tape, ht.output, by rw [ht.size]; exact Nat.le_refl _, fun b' _ hb' => ht.other b' (fun e => hb' [] _ h0 (by rw [e]; rfl)), hto, rfl, ?_, fun q y b' e1 e2 => ?_⟩
      · refine hinj.remap g (fun q y hy => ?_) (fun q q' y y' h1 h2 hg => ?_)
        · cases q with
          | nil =>
            simp only [topLay, Option.some.injEq] at hy
            subst hy
            exact ⟨_, h0, rfl⟩
          | cons c0 q => obtain ⟨k, l⟩ := c0; exact ⟨y, hχ k l q y hy, rfl⟩
        · cases q with
          | nil =>
            cases q' with
            | nil => rfl
            | cons c0 q' => obtain ⟨k, l⟩ := c0; simp only [g] at hg; split at hg <;> cases hg
          | cons c0 q =>
            obtain ⟨k, l⟩ := c0
            cases q' with
            | nil => simp only [g] at hg; split at hg <;> cases hg
            | cons c1 q' =>
              obtain ⟨k', l'⟩ := c1
              simp only [g] at hg
              split at hg <;> split at hg <;> simp only [List.cons.injEq, Prod.mk.injEq] at hg ⊢ <;> exact ⟨⟨by omega, hg.1.2⟩, hg.2⟩
      · cases q with
        | nil =>
          simp only [topLay, Option.some.injEq] at e1
          subst e1
          cases e2
          exact ⟨by rw [ht.size]; exact hown' [] _ _ h0 rfl, .inr ⟨[], _, h0, rfl⟩⟩
        | cons c0 q =>
          obtain ⟨k, l⟩ := c0
          have := hχ k l q y e1
          exact ⟨by rw [ht.size]; exact hown' _ _ _ this e2, .inr ⟨_, _, this, e2⟩⟩

end
end Go.V

/-! What slices.Insert comes to: the steps in memory. -/
namespace Go.V
open Go.RowKit

section
variable {P : Program} {w : World} {t e : TypeId} {i ei : TyInfo}

/-- Where plain memory that is nobody else's is held against other memory, they don't overlap. -/
theorem run_apart {tS tR : TypeId} (hi : TyOk1 P tS i) (hd : i.d = .sl e) (hei : TyOk1 P e ei) {a b : Addr} {la ca lb cb : Nat} (hne : a.block ≠ b.block) {tA : TypeId} {kA : Nat} (hsa : w.shape? a.block = some (tA, kA)) (hkA : kA ≠ 0)
    {el : TypeId} {L : List Value} (hb : Blk w b.block el L) :
    (Extern.SlicesOverlaps.overlaps #[tS, tS] #[tR] #[.slice (some a) la ca, .slice (some b) lb cb]).run P w = .ok (.bool false) w := by
  have hnb : (a.block != b.block) = true := by simpa using hne
  have hnb' : (a.block == b.block) = false := by simpa using hne
  have hb' : w.heap[b.block]? = some (.cells L.toArray el (0, 0)) := hb
  have hsb : w.shape? b.block = some (el, L.length) := by simp [World.shape?, hb']
  have hfb : ∀ o, w.frozen? { block := b.block, off := o } = false := fun o => by simp [World.frozen?, hb']
  have hfb' : w.frozen? b = false := by simp [World.frozen?, hb']
  have hu := hi.slice hd
  obtain ⟨k, rfl⟩ : ∃ k, kA = k + 1 := ⟨kA - 1, by omega⟩
  change Sem.run P (α := Value) (do
    let some t := (#[tS, tS] : Array TypeId)[0]? | stuck "slices.overlaps: no parameter types"
    let .slice elem ← underlying t | stuck "slices.overlaps: slice type expected"
    let size ← sizeOf elem
    match (some a : Option Addr), (some b : Option Addr) with
    | some a, some b =>
      if la = 0 ∨ lb = 0 ∨ size = 0 then pure (Value.bool false)
      else if a.block != b.block && (← frozen a) && (← frozen b) then unsupported .addressObserved
      else do
        if a.block != b.block then do
          noView a; noView b
          if ← mayBeOne a b then return Value.bool ((← choose (.extern "sameAddr.stringBytes" 2)) == 1)
        pure (Value.bool (a.block == b.block && a.off < b.off + lb * size && b.off < a.off + la * size))
    | _, _ => pure (Value.bool false)) w = _
  by_cases h0 : la = 0 ∨ lb = 0 ∨ ei.size = 0
  · simp [run_underlying hu, hei.run_sizeOf, h0]
  · cases hfa : w.frozen? a <;> cases hfe : w.frozen? { block := a.block, off := k + 1 } <;> simp [run_underlying hu, hei.run_sizeOf, h0, hnb, hnb', frozen, noView, viewAt, mayBeOne, stringish, shape, Sem.run, hsa, hsb, hfb, hfb', hfa, hfe]

/-- Zeros appended, where there is no room. -/
theorem run_append_zeros {ats : Array TypeId} {xt ty : TypeId} {kk : IntKind} (h0 : ats[0]? = some t) (h1 : ats[1]? = some xt) (hi : TyOk1 P t i) (hd : i.d = .sl e) (hxu : P.underlying xt = some (.int kk)) (hei : TyOk1 P e ei)
    {base : Option Addr} {sLen sCap n : Nat} (hn : 0 < n) (hs : 0 < ei.size) (hb : 0 < ei.bytes) (hgt : ¬ sLen + n ≤ sCap) (hcap : Builtin.nextslicecap (sLen + n) sCap * ei.bytes ≤ 2 ^ 48) (hnb : (sLen + n) * ei.bytes ≤ 2 ^ 48)
    {old : Array Value} (hold : ∀ d, (Builtin.firstCells ei.size sLen (.slice base sLen sCap)).run P { w with drawn := d } = .ok old { w with drawn := d }) :
    ∃ newCap zs rest w', sLen + n ≤ newCap ∧ zs.size = n * ei.zero.length ∧ rest.size = (newCap - (sLen + n)) * ei.zero.length ∧ w'.heap = w.heap.push (.cells (old ++ zs ++ rest) e) ∧ w'.os = w.os ∧ w'.tape = w.tape ∧ w'.output = w.output ∧
        (Builtin.append_ ats ty #[.slice base sLen sCap, iv n]).run P w = .ok (.slice (some ⟨w.heap.size, 0, none⟩) (sLen + n) newCap) w' := by
  have hu := hi.slice hd
  obtain ⟨j, hj, hj1, hj2⟩ := hei.run_typeInfo w
  obtain ⟨z, hz1, hz2⟩ := hei.run_zeroValue { w with drawn := w.drawn + 1 }
  have hz3 : z.cells.size = ei.zero.length := by rw [← hz2]; simp
  have hm1 : sLen + n ≤ (sLen + n) * ei.bytes := Nat.le_mul_of_pos_right _ hb
  have hw : IntKind.i64.wrap (n : Int) = n := by
    unfold IntKind.wrap
    simp [IntKind.signed, IntKind.bits]
    omega
  have hno : ¬ (j.bytes = 0) := by rw [hj2]; omega
  have hno2 : ¬ (Builtin.nextslicecap (sLen + n) sCap * j.bytes > 2 ^ 48) := by rw [hj2]; omega
  have hm2 : n * ei.bytes ≤ (sLen + n) * ei.bytes := Nat.mul_le_mul_right _ (by omega)
  have hno3 : ¬ (281474976710656 < (n : Int) * (j.bytes : Int)) := by
    rw [hj2]
    have h4 : n * ei.bytes ≤ 281474976710656 := by omega
    have h5 := Int.ofNat_le.2 h4
    rw [Int.natCast_mul] at h5
    omega
  have hno4 : ¬ ((n : Int) < 0) := by omega
  have hno5 : ¬ (9223372036854775807 < (sLen : Int) + (n : Int)) := by omega
  have has : (asIntOf (Value.int .i64 (n : Int))).run P w = .ok (.i64, (n : Int)) w := rfl
  have hno6 : ¬ (n * ei.size = 0) := by
    have := Nat.mul_pos hn hs
    omega
  have hj' : ∀ d, (typeInfo e).run P { w with drawn := d } = .ok j { w with drawn := d } := by
    intro d
    obtain ⟨j', hj', _⟩ := hei.run_typeInfo { w with drawn := d }
    have : j' = j := by
      simp only [typeInfo, Sem.run_bind, run_program, Result.andThen_ok] at hj hj'
      cases e3 : P.info? e with
      | none => simp [e3] at hj
      | some q => simp [e3] at hj hj'; rw [← hj, ← hj']
    rw [hj', this]
  refine ⟨(Question.appendCap (sLen + n) sCap e).cut (w.tape w.drawn (.appendCap (sLen + n) sCap e)), Builtin.zeroCells z.cells n, Builtin.zeroCells z.cells ((Question.appendCap (sLen + n) sCap e).cut (w.tape w.drawn (.appendCap (sLen + n) sCap e)) - (sLen + n)),
    { w with drawn := w.drawn + 1, heap := w.heap.push (.cells (old ++ Builtin.zeroCells z.cells n ++ Builtin.zeroCells z.cells ((Question.appendCap (sLen + n) sCap e).cut (w.tape w.drawn (.appendCap (sLen + n) sCap e)) - (sLen + n))) e) },
    ?_, ?_, ?_, rfl, rfl, rfl, rfl, ?_⟩
  · simp only [Question.cut]; omega
  · simp [Builtin.zeroCells, hz3]
  · simp [Builtin.zeroCells, hz3]
  · have hq : Question.forced (.appendCap (sLen + n) sCap e) = false := rfl
    have g1 : (typeInfo e).run P w.drew = .ok j w.drew := hj' _
    have g2 : (Builtin.firstCells ei.size sLen (.slice base sLen sCap)).run P w.drew = .ok old w.drew := hold _
    have g4 : (zeroValue e).run P w.drew = .ok z w.drew := hz1
    have hxx : (match (TypeDesc.int kk : TypeDesc) with | .int _ => true | _ => false) = true := rfl
    simp [Builtin.append_, h0, h1, run_underlying hu, run_underlying hxu, hei.run_sizeOf, iv, asInt, has, hw, hgt, hj, hno2, hno3, hno4, hno5, hno6, hq, g1, g2, g4, newRow]
    rfl

/-- Copying out of whatever has these cells. -/
theorem raw_copyS {ats : Array TypeId} {ty : TypeId} (h0 : ats[0]? = some t) (hi : TyOk1 P t i) (hd : i.d = .sl e) (hei : TyOk1 P e ei) {b o n cap m k : Nat} {v : Value} {el : TypeId} {L us : List Value} (hk : k = min m n)
    (hb : Blk w b el L) (hl : (Builtin.lenOf v).run P w = .ok m w) (hf : (Builtin.firstCells ei.size k v).run P w = .ok us.toArray w) (hfit : o + us.length ≤ L.length) (hone : ∀ u ∈ us, u.oneCell' = true) :
    (Builtin.copy_ ats ty #[.slice (some ⟨b, o, none⟩) n cap, v]).run P w = .ok (goInt k) (w.setRow b (splice L o us).toArray) := by
  have hu := hi.slice hd
  have hst := hb.store (P := P) (o := o) (us := us) hfit hone
  have hkk : Nat.min m n = k := by rw [hk]
  simp [Builtin.copy_, h0, run_underlying hu, hei.run_sizeOf, hl, hkk, hf, hst]

theorem wrap_nat {n : Nat} (h : n ≤ 281474976710656) : IntKind.i64.wrap (n : Int) = n := by
  unfold IntKind.wrap
  simp [IntKind.signed, IntKind.bits]
  omega

/-- What a slice's cells come to, after others have turned. -/
structure Holds' (P : Program) (w : World) (b : Nat) (sz : Nat) (v : Value) (m : Nat) (us : List Value) : Prop where
  len : us.length = m * sz
  one : ∀ u ∈ us, u.oneCell' = true
  run : ∀ w1 : World, (∀ k, k < w.heap.size → k ≠ b → w1.heap[k]? = w.heap[k]?) → (Builtin.lenOf v).run P w1 = .ok m w1 ∧ (Builtin.firstCells sz m v).run P w1 = .ok us.toArray w1

/-- The cells as an insertion leaves them. -/
def insCells (L us : List Value) (o n i m : Nat) (k : Nat) : Option Value := if k < i then L[o + k]? else if k < i + m then us[k - i]? else if k < n + m then L[o + k - m]? else none

/-- In place. -/
theorem shift_steps (hi : TyOk1 P t i) (hd : i.d = .sl e) (hei : TyOk1 P e ei)
    {w : World} {b off n cap j m : Nat} {el : TypeId} {L us : List Value} {v : Value} (hjn : j < n) (hm : 0 < m) (hroom : n + m ≤ cap) (hb : Blk w b el L) (hfit : off + cap * ei.size ≤ L.length) (hL : ∀ u ∈ seg L off (n * ei.size), u.oneCell' = true)
    (hv : Holds' P w b ei.size v m us) :
    (∀ w, (Instr.sliceAt t (.slice (some ⟨b, off, none⟩) n cap) none (some (iv (n + m))) none).run P w = .ok (.slice (some ⟨b, off, none⟩) (n + m) cap) w) ∧
      (∀ w, (Instr.sliceAt t (.slice (some ⟨b, off, none⟩) (n + m) cap) (some (iv (j + m))) none none).run P w = .ok (.slice (some ⟨b, off + (j + m) * ei.size, none⟩) (n + m - (j + m)) (cap - (j + m))) w) ∧
      (∀ w, (Instr.sliceAt t (.slice (some ⟨b, off, none⟩) (n + m) cap) (some (iv j)) none none).run P w = .ok (.slice (some ⟨b, off + j * ei.size, none⟩) (n + m - j) (cap - j)) w) ∧
      ∃ w2 w3, (∀ ty, (Builtin.copy_ #[t, t] ty #[.slice (some ⟨b, off + (j + m) * ei.size, none⟩) (n + m - (j + m)) (cap - (j + m)), .slice (some ⟨b, off + j * ei.size, none⟩) (n + m - j) (cap - j)]).run P { w with drawn := w.drawn + 1 } = .ok (goInt ((n - j : Nat) : Int)) w2) ∧
        (∀ ty, (Builtin.copy_ #[t, t] ty #[.slice (some ⟨b, off + j * ei.size, none⟩) (n + m - j) (cap - j), v]).run P w2 = .ok (goInt m) w3) ∧
        ∃ L', L'.length = L.length ∧ Turned w w3 b el L' ∧ ∀ k, k < (n + m) * ei.size → L'[off + k]? = insCells L us off (n * ei.size) (j * ei.size) (m * ei.size) k := by
  have hnc : n ≤ cap := by omega
  have m1 : (n + m) * ei.size = n * ei.size + m * ei.size := Nat.add_mul _ _ _
  have m2 : (j + m) * ei.size = j * ei.size + m * ei.size := Nat.add_mul _ _ _
  have m3 : n * ei.size = j * ei.size + (n - j) * ei.size := by rw [← Nat.add_mul]; congr 1; omega
  have m4 : (n + m) * ei.size ≤ cap * ei.size := Nat.mul_le_mul_right _ hroom
  have s1 := fun w => raw_slice (P := P) hi hd hei (ad := some ⟨b, off, none⟩) (n := n) (cap := cap) (l := 0) (h := n + m) (lo := none) (hh := some (iv (n + m))) (.inl ⟨rfl, rfl⟩) (.inr rfl) (Nat.zero_le _) hroom w
  have s2 := fun w => raw_slice (P := P) hi hd hei (ad := some ⟨b, off, none⟩) (n := n + m) (cap := cap) (l := j + m) (h := n + m) (lo := some (iv (j + m))) (hh := none) (.inr rfl) (.inl ⟨rfl, rfl⟩) (by omega) hroom w
  have s3 := fun w => raw_slice (P := P) hi hd hei (ad := some ⟨b, off, none⟩) (n := n + m) (cap := cap) (l := j) (h := n + m) (lo := some (iv j)) (hh := none) (.inr rfl) (.inl ⟨rfl, rfl⟩) (by omega) hroom w
  have hz : some (Addr.mk b off none) = (if cap = 0 then some ⟨b, off, none⟩ else (some (Addr.mk b off none)).map (·.add (0 * ei.size))) := by simp [addr_add]
  rw [← hz, Nat.sub_zero, Nat.sub_zero] at s1
  have hne2 : ¬ cap = j + m := by omega
  have hne3 : ¬ cap = j := by omega
  rw [if_neg hne2] at s2
  rw [if_neg hne3] at s3
  simp only [Option.map_some, addr_add] at s2 s3
  have hb' : Blk { w with drawn := w.drawn + 1 } b el L := hb
  have q1 : off + (j + m) * ei.size + (n - j) * ei.size ≤ L.length := by omega
  have q2 : off + j * ei.size + (n - j) * ei.size ≤ L.length := by omega
  have hone : ∀ u ∈ seg L (off + j * ei.size) ((n - j) * ei.size), u.oneCell' = true := by
    intro u hu
    obtain ⟨k, k1, k2, k3⟩ := mem_seg hu
    refine hL u (List.mem_of_getElem? (i := k - off) ?_)
    have k4 : k - off < n * ei.size := by omega
    rw [get_seg k4, ← k3]
    congr 1; omega
  have hc1 := fun ty => raw_copy (P := P) (ats := #[t, t]) (ty := ty) rfl hi hd hei (n := n + m - (j + m)) (cap := cap - (j + m)) (m := n + m - j) (c2 := cap - j) (k := n - j) (by simp only [Nat.min_def]; split <;> omega) hb' hb' q1 q2 hone
  have l1 : (seg L (off + j * ei.size) ((n - j) * ei.size)).length = (n - j) * ei.size := length_seg q2
  have f1 : off + (j + m) * ei.size + (seg L (off + j * ei.size) ((n - j) * ei.size)).length ≤ L.length := by rw [l1]; exact q1
  have l2 := length_splice f1
  have hb2 := hb'.set (L' := splice L (off + (j + m) * ei.size) (seg L (off + j * ei.size) ((n - j) * ei.size)))
  have f2 : off + j * ei.size + us.length ≤ (splice L (off + (j + m) * ei.size) (seg L (off + j * ei.size) ((n - j) * ei.size))).length := by rw [l2, hv.len]; omega
  obtain ⟨r1, r2⟩ := hv.run ({ w with drawn := w.drawn + 1 }.setRow b (splice L (off + (j + m) * ei.size) (seg L (off + j * ei.size) ((n - j) * ei.size))).toArray) (fun k _ hk => setRow_other _ b k _ hk)
  have hc2 := fun ty => raw_copyS (P := P) (ats := #[t, t]) (ty := ty) (v := v) (m := m) (n := n + m - j) (cap := cap - j) (k := m) rfl hi hd hei (by simp only [Nat.min_def]; split <;> omega) hb2 r1 r2 f2 hv.one
  simp only [setRow_setRow hb'] at hc2
  have htu := Turned.of hb' (splice (splice L (off + (j + m) * ei.size) (seg L (off + j * ei.size) ((n - j) * ei.size))) (off + j * ei.size) us)
  refine ⟨s1, s2, s3, _, _, hc1, hc2, _, by rw [length_splice f2, l2], ⟨htu.heap, htu.other, htu.size, htu.os, htu.tape, htu.output⟩, fun k hk => ?_⟩
  unfold insCells
  rw [get_splice f2, hv.len]
  by_cases c1 : k < j * ei.size
  · have g1 : off + k < off + j * ei.size := by omega
    have g2 : off + k < off + (j + m) * ei.size := by omega
    rw [if_pos g1, get_splice f1, if_pos g2, if_pos c1]
  · have g1 : ¬ off + k < off + j * ei.size := by omega
    rw [if_neg g1, if_neg c1]
    by_cases c2 : k < j * ei.size + m * ei.size
    · have g2 : off + k < off + j * ei.size + m * ei.size := by omega
      rw [if_pos g2, if_pos c2]
      congr 1; omega
    · have g2 : ¬ off + k < off + j * ei.size + m * ei.size := by omega
      have g3 : ¬ off + k < off + (j + m) * ei.size := by omega
      have g4 : off + k < off + (j + m) * ei.size + (n - j) * ei.size := by omega
      have g5 : k < n * ei.size + m * ei.size := by omega
      have g6 : off + k - (off + (j + m) * ei.size) < (n - j) * ei.size := by omega
      rw [if_neg g2, if_neg c2, get_splice f1, l1, if_neg g3, if_pos g4, if_pos g5, get_seg g6]
      congr 1; omega

/-- In a block of its own. -/
theorem grow_steps {xt : TypeId} {kk : IntKind} (hxu : P.underlying xt = some (.int kk)) (hi : TyOk1 P t i) (hd : i.d = .sl e) (hei : TyOk1 P e ei) (hzl : ei.zero.length = ei.size) (hs0 : 0 < ei.size) (hby : 0 < ei.bytes)
    {w : World} {b off n cap j m : Nat} {el : TypeId} {L us : List Value} {v : Value} (hjn : j < n) (hm : 0 < m) (hnc : n ≤ cap) (hroom : cap < n + m) (hbig : (2 * (n + m) + 192) * ei.bytes ≤ 281474976710656) (hb : Blk w b el L) (hfit : off + cap * ei.size ≤ L.length)
    (hL : ∀ u ∈ seg L off (n * ei.size), u.oneCell' = true) (hbs : b < w.heap.size) (hv : ∀ b', b' = w.heap.size → Holds' P w b' ei.size v m us) :
    ∃ newCap w1, n + m ≤ newCap ∧ (∀ w, (Instr.sliceAt t (.slice (some ⟨b, off, none⟩) n cap) none (some (iv j)) none).run P w = .ok (.slice (some ⟨b, off, none⟩) j cap) w) ∧
      (Builtin.append_ #[t, xt] t #[.slice (some ⟨b, off, none⟩) j cap, iv (n + m - j)]).run P w = .ok (.slice (some ⟨w.heap.size, 0, none⟩) (n + m) newCap) w1 ∧
      (∀ w1, (Instr.sliceAt t (.slice (some ⟨w.heap.size, 0, none⟩) (n + m) newCap) (some (iv j)) none none).run P w1 = .ok (.slice (some ⟨w.heap.size, j * ei.size, none⟩) (n + m - j) (newCap - j)) w1) ∧
      (∀ w1, (Instr.sliceAt t (.slice (some ⟨w.heap.size, 0, none⟩) (n + m) newCap) (some (iv (j + m))) none none).run P w1 = .ok (.slice (some ⟨w.heap.size, (j + m) * ei.size, none⟩) (n + m - (j + m)) (newCap - (j + m))) w1) ∧
      (∀ w1, (Instr.sliceAt t (.slice (some ⟨b, off, none⟩) n cap) (some (iv j)) none none).run P w1 = .ok (.slice (some ⟨b, off + j * ei.size, none⟩) (n - j) (cap - j)) w1) ∧
      ∃ w2 w3, (∀ ty, (Builtin.copy_ #[t, t] ty #[.slice (some ⟨w.heap.size, j * ei.size, none⟩) (n + m - j) (newCap - j), v]).run P w1 = .ok (goInt m) w2) ∧
        (∀ ty, (Builtin.copy_ #[t, t] ty #[.slice (some ⟨w.heap.size, (j + m) * ei.size, none⟩) (n + m - (j + m)) (newCap - (j + m)), .slice (some ⟨b, off + j * ei.size, none⟩) (n - j) (cap - j)]).run P { w2 with drawn := w2.drawn + 1 } = .ok (goInt ((n - j : Nat) : Int)) w3) ∧
        ∃ L' : List Value, L'.length = newCap * ei.size ∧ w3.heap[w.heap.size]? = some (.cells L'.toArray e (0, 0)) ∧ w3.heap.size = w.heap.size + 1 ∧ (∀ k, k < w.heap.size → w3.heap[k]? = w.heap[k]?) ∧ w3.os = w.os ∧ w3.tape = w.tape ∧ w3.output = w.output ∧
          ∀ k, k < (n + m) * ei.size → L'[k]? = insCells L us off (n * ei.size) (j * ei.size) (m * ei.size) k := by
  have m1 : (n + m) * ei.size = n * ei.size + m * ei.size := Nat.add_mul _ _ _
  have m2 : (j + m) * ei.size = j * ei.size + m * ei.size := Nat.add_mul _ _ _
  have m3 : n * ei.size = j * ei.size + (n - j) * ei.size := by rw [← Nat.add_mul]; congr 1; omega
  have m4 : n * ei.size ≤ cap * ei.size := Nat.mul_le_mul_right _ hnc
  have hjm : j + (n + m - j) = n + m := by omega
  have s1 := fun w => raw_slice (P := P) hi hd hei (ad := some ⟨b, off, none⟩) (n := n) (cap := cap) (l := 0) (h := j) (lo := none) (hh := some (iv j)) (.inl ⟨rfl, rfl⟩) (.inr rfl) (Nat.zero_le _) (by omega) w
  have hz : some (Addr.mk b off none) = (if cap = 0 then some ⟨b, off, none⟩ else (some (Addr.mk b off none)).map (·.add (0 * ei.size))) := by simp [addr_add]
  rw [← hz, Nat.sub_zero, Nat.sub_zero] at s1
  have s4 := fun w => raw_slice (P := P) hi hd hei (ad := some ⟨b, off, none⟩) (n := n) (cap := cap) (l := j) (h := n) (lo := some (iv j)) (hh := none) (.inr rfl) (.inl ⟨rfl, rfl⟩) (by omega) hnc w
  have hne4 : ¬ cap = j := by omega
  rw [if_neg hne4] at s4
  simp only [Option.map_some, addr_add] at s4
  have qf : off + j * ei.size ≤ L.length := by omega
  have hold : ∀ d, (Builtin.firstCells ei.size j (.slice (some ⟨b, off, none⟩) j cap)).run P { w with drawn := d } = .ok (seg L off (j * ei.size)).toArray { w with drawn := d } := fun d => run_firstRow (w := { w with drawn := d }) (P := P) (m := j) (cap := cap) (n := j) hb qf
  have hcap := nextslicecap_le (j + (n + m - j)) cap (by omega)
  have hb1 : Builtin.nextslicecap (j + (n + m - j)) cap * ei.bytes ≤ 2 ^ 48 := by
    rw [hjm] at hcap ⊢
    have := Nat.mul_le_mul_right ei.bytes hcap
    omega
  have hb2 : (j + (n + m - j)) * ei.bytes ≤ 2 ^ 48 := by
    rw [hjm]
    have := Nat.mul_le_mul_right ei.bytes (show n + m ≤ 2 * (n + m) + 192 by omega)
    omega
  obtain ⟨newCap, zs, rest, w1, k1, k2, k3, k4, k5, k6, k7, k8⟩ := run_append_zeros (P := P) (w := w) (ats := #[t, xt]) (ty := t) (n := n + m - j) rfl rfl hi hd hxu hei (by omega) hs0 hby (by omega) hb1 hb2 hold
  rw [hjm] at k1 k3 k8
  have hnew : w1.heap[w.heap.size]? = some (.cells ((seg L off (j * ei.size)).toArray ++ zs ++ rest) e (0, 0)) := by rw [k4]; simp
  have hzl1 : zs.size = (n + m - j) * ei.size := by rw [k2, hzl]
  have hzl2 : rest.size = (newCap - (n + m)) * ei.size := by rw [k3, hzl]
  have hseg0 : (seg L off (j * ei.size)).length = j * ei.size := length_seg qf
  have mm : (n + m - j) * ei.size + j * ei.size = (n + m) * ei.size := by rw [← Nat.add_mul]; congr 1; omega
  have mn : (newCap - (n + m)) * ei.size + (n + m) * ei.size = newCap * ei.size := by rw [← Nat.add_mul]; congr 1; omega
  generalize hZ : seg L off (j * ei.size) ++ zs.toList ++ rest.toList = Z at *
  have hZl : Z.length = newCap * ei.size := by
    rw [← hZ]
    simp only [List.length_append, hseg0, Array.length_toList, hzl1, hzl2]
    omega
  have hblk1 : Blk w1 w.heap.size e Z := by
    unfold Blk
    rw [hnew, ← hZ]
    congr 2
    apply Array.ext'
    simp
  have s2 := fun w1 => raw_slice (P := P) hi hd hei (ad := some ⟨w.heap.size, 0, none⟩) (n := n + m) (cap := newCap) (l := j) (h := n + m) (lo := some (iv j)) (hh := none) (.inr rfl) (.inl ⟨rfl, rfl⟩) (by omega) k1 w1
  have s3 := fun w1 => raw_slice (P := P) hi hd hei (ad := some ⟨w.heap.size, 0, none⟩) (n := n + m) (cap := newCap) (l := j + m) (h := n + m) (lo := some (iv (j + m))) (hh := none) (.inr rfl) (.inl ⟨rfl, rfl⟩) (by omega) k1 w1
  have hne2 : ¬ newCap = j := by omega
  have hne3 : ¬ newCap = j + m := by omega
  rw [if_neg hne2] at s2
  rw [if_neg hne3] at s3
  simp only [Option.map_some, addr_add, Nat.zero_add] at s2 s3
  have hv0 := hv _ rfl
  obtain ⟨r1, r2⟩ := hv0.run w1 (fun k hk _ => by rw [k4, Array.getElem?_push, if_neg (by omega)])
  have f1 : j * ei.size + us.length ≤ Z.length := by rw [hZl, hv0.len]; omega
  have hc1 := fun ty => raw_copyS (P := P) (ats := #[t, t]) (ty := ty) (v := v) (m := m) (n := n + m - j) (cap := newCap - j) (k := m) rfl hi hd hei (by simp only [Nat.min_def]; split <;> omega) hblk1 r1 r2 f1 hv0.one
  have l1 := length_splice f1
  have hb3 : Blk { (w1.setRow w.heap.size (splice Z (j * ei.size) us).toArray) with drawn := (w1.setRow w.heap.size (splice Z (j * ei.size) us).toArray).drawn + 1 } w.heap.size e (splice Z (j * ei.size) us) := hblk1.set
  have hbo : Blk { (w1.setRow w.heap.size (splice Z (j * ei.size) us).toArray) with drawn := (w1.setRow w.heap.size (splice Z (j * ei.size) us).toArray).drawn + 1 } b el L := by
    show (w1.setRow _ _).heap[b]? = _
    rw [setRow_other _ _ _ _ (by omega), k4, Array.getElem?_push, if_neg (by omega)]
    exact hb
  have q2 : off + j * ei.size + (n - j) * ei.size ≤ L.length := by omega
  have hone : ∀ u ∈ seg L (off + j * ei.size) ((n - j) * ei.size), u.oneCell' = true := by
    intro u hu
    obtain ⟨k, g1, g2, g3⟩ := mem_seg hu
    refine hL u (List.mem_of_getElem? (i := k - off) ?_)
    have g4 : k - off < n * ei.size := by omega
    rw [get_seg g4, ← g3]
    congr 1; omega
  have l2 : (seg L (off + j * ei.size) ((n - j) * ei.size)).length = (n - j) * ei.size := length_seg q2
  have q1 : (j + m) * ei.size + (n - j) * ei.size ≤ (splice Z (j * ei.size) us).length := by rw [l1, hZl]; omega
  have hc2 := fun ty => raw_copy (P := P) (ats := #[t, t]) (ty := ty) rfl hi hd hei (n := n + m - (j + m)) (cap := newCap - (j + m)) (m := n - j) (c2 := cap - j) (k := n - j) (by simp only [Nat.min_def]; split <;> omega) hb3 hbo q1 q2 hone
  have f2 : (j + m) * ei.size + (seg L (off + j * ei.size) ((n - j) * ei.size)).length ≤ (splice Z (j * ei.size) us).length := by rw [l2]; exact q1
  refine ⟨newCap, w1, k1, s1, k8, s2, s3, s4, _, _, hc1, hc2, splice (splice Z (j * ei.size) us) ((j + m) * ei.size) (seg L (off + j * ei.size) ((n - j) * ei.size)), by rw [length_splice f2, l1, hZl], setRow_heap _ _ _ _ e (0, 0) hb3, ?_, fun k hk => ?_, k5, k6, k7, fun k hk => ?_⟩
  · rw [setRow_size]
    show (w1.setRow _ _).heap.size = _
    rw [setRow_size, k4]; simp
  · rw [setRow_other _ _ _ _ (by omega)]
    show (w1.setRow _ _).heap[k]? = _
    rw [setRow_other _ _ _ _ (by omega), k4, Array.getElem?_push, if_neg (by omega)]
  · unfold insCells
    rw [get_splice f2, l2]
    by_cases c1 : k < j * ei.size
    · have g1 : k < (j + m) * ei.size := by omega
      rw [if_pos g1, get_splice f1, if_pos c1, if_pos c1, ← hZ, List.append_assoc, List.getElem?_append, hseg0, if_pos c1, get_seg c1]
    · rw [if_neg c1]
      by_cases c2 : k < j * ei.size + m * ei.size
      · have g1 : k < (j + m) * ei.size := by omega
        rw [if_pos g1, get_splice f1, if_neg c1, hv0.len, if_pos c2, if_pos c2]
      · have g1 : ¬ k < (j + m) * ei.size := by omega
        have g2 : k < (j + m) * ei.size + (n - j) * ei.size := by omega
        have g3 : k < n * ei.size + m * ei.size := by omega
        have g4 : k - (j + m) * ei.size < (n - j) * ei.size := by omega
        rw [if_neg g1, if_pos g2, if_neg c2, if_pos g3, get_seg g4]
        congr 1; omega

end
end Go.V

/-! A function that inserts, as one that takes a slice in and hands one back. -/
namespace Go.V
open Go.RowKit

/-- A function that inserts. -/
structure InsOk (P : Program) (f : FuncId) (t xt ov tb : TypeId) : Prop where
  none : ∀ (w : World) (ad bd : Option Addr) (n cap j cv : Nat), j ≤ n → n ≤ cap → Calls P f #[.slice ad n cap, iv j, .slice bd 0 cv] w fun e w' => e = .returned (.slice ad n cap) ∧ w' = w
  stop : ∀ (w w1 : World) (ad bd : Option Addr) (n cap m cv : Nat) (v : Value), n ≤ cap → 0 < m → (Builtin.append_ #[t, t] t #[.slice ad n cap, .slice bd m cv]).run P w = .ok v w1 →
    Calls P f #[.slice ad n cap, iv n, .slice bd m cv] w fun e w' => e = .returned v ∧ w' = w1
  shift : ∀ (w w2 w3 : World) (a66 av a76 : Option Addr) (b off n cap j m cv l66 c66 l76 c76 : Nat), j < n → n ≤ cap → 0 < m → n + m ≤ cap → n + m ≤ 281474976710656 →
    (Instr.sliceAt t (.slice (some ⟨b, off, .none⟩) n cap) .none (some (iv (n + m))) .none).run P w = .ok (.slice (some ⟨b, off, .none⟩) (n + m) cap) w →
    (∀ w, (Instr.sliceAt t (.slice (some ⟨b, off, .none⟩) (n + m) cap) (some (iv (j + m))) .none .none).run P w = .ok (.slice a66 l66 c66) w) →
    (∀ w, (Instr.sliceAt t (.slice (some ⟨b, off, .none⟩) (n + m) cap) (some (iv j)) .none .none).run P w = .ok (.slice a76 l76 c76) w) →
    (callFunc ov #[.slice av m cv, .slice a66 l66 c66]).run P w = .ok (.value (.bool false)) w →
    (∀ ty, (Builtin.copy_ #[t, t] ty #[.slice a66 l66 c66, .slice a76 l76 c76]).run P { w with drawn := w.drawn + 1 } = .ok (goInt ((n - j : Nat) : Int)) w2) →
    (∀ ty, (Builtin.copy_ #[t, t] ty #[.slice a76 l76 c76, .slice av m cv]).run P w2 = .ok (goInt m) w3) →
    Calls P f #[.slice (some ⟨b, off, .none⟩) n cap, iv j, .slice av m cv] w fun e w' => e = .returned (.slice (some ⟨b, off, .none⟩) (n + m) cap) ∧ w' = w3
  grow : ∀ (w w1 w2 w3 : World) (av a34 a43 a50 a53 : Option Addr) (b off n cap j m cv l43 c43 l50 c50 l53 c53 l34 c34 newCap W : Nat), j < n → n ≤ cap → 0 < m → cap < n + m → n + m ≤ 281474976710656 →
    (∀ w, (Instr.sliceAt t (.slice (some ⟨b, off, .none⟩) n cap) .none (some (iv j)) .none).run P w = .ok (.slice a34 l34 c34) w) →
    (Builtin.append_ #[t, xt] t #[.slice a34 l34 c34, iv (n + m - j)]).run P w = .ok (.slice (some ⟨W, 0, .none⟩) (n + m) newCap) w1 →
    (∀ w1, (Instr.sliceAt t (.slice (some ⟨W, 0, .none⟩) (n + m) newCap) (some (iv j)) .none .none).run P w1 = .ok (.slice a43 l43 c43) w1) →
    (∀ w1, (Instr.sliceAt t (.slice (some ⟨W, 0, .none⟩) (n + m) newCap) (some (iv (j + m))) .none .none).run P w1 = .ok (.slice a50 l50 c50) w1) →
    (∀ w1, (Instr.sliceAt t (.slice (some ⟨b, off, .none⟩) n cap) (some (iv j)) .none .none).run P w1 = .ok (.slice a53 l53 c53) w1) →
    (∀ ty, (Builtin.copy_ #[t, t] ty #[.slice a43 l43 c43, .slice av m cv]).run P w1 = .ok (goInt m) w2) →
    (∀ ty, (Builtin.copy_ #[t, t] ty #[.slice a50 l50 c50, .slice a53 l53 c53]).run P { w2 with drawn := w2.drawn + 1 } = .ok (goInt ((n - j : Nat) : Int)) w3) →
    Calls P f #[.slice (some ⟨b, off, .none⟩) n cap, iv j, .slice av m cv] w fun e w' => e = .returned (.slice (some ⟨W, 0, .none⟩) (n + m) newCap) ∧ w' = w3
  over : ∀ (args : Array Value) (w : World), (callFunc ov args).run P w = ((Extern.SlicesOverlaps.overlaps #[t, t] #[tb] args).run P w).andThen fun v w' => .ok (.value v) w'

def insS (e : Ty) : Sig := ⟨[⟨false, .own, .sl e⟩, intS, ⟨false, .bo, .sl e⟩], [⟨false, .own, .sl e⟩]⟩

/-- What an insertion makes. -/
def insR {α : Type} (bytes : Nat) (d : List α × (Int × List α)) : Option (List α) :=
  bif and (decide (0 ≤ d.2.1)) (and (decide (d.2.1 ≤ (d.1.length : Int))) (roomOk false d.1.length d.2.2.length bytes)) then some (app (d.1.take d.2.1.toNat) (app d.2.2 (d.1.drop d.2.1.toNat))) else none

/-- What is shared for good in all of it. -/
inductive AllRo : T → Prop where
  | v (x : Value) : AllRo (.v x)
  | sl (e : Ty) (xs : List (den e)) : AllRo (.sl .ro e xs)
  | pt (e : Ty) (d : den e) : AllRo (.pt .ro e d)
  | ifc (b : Bool) : AllRo (.ifc b)
  | dead : AllRo .dead

theorem allRo_cells : ∀ {e : Ty} (d : den e), ∀ t ∈ cells .ro e d, AllRo t := by
  intro e
  induction e with
  | pair a b iha ihb =>
    intro d t ht
    simp only [cells, app_eq, List.mem_append] at ht
    rcases ht with ht | ht
    · exact iha _ t ht
    · exact ihb _ t ht
  | unit | nat | sum | fn => intro d t ht; simp [cells] at ht
  | int | bool | str => intro d t ht; simp only [cells, List.mem_singleton] at ht; subst ht; exact .v _
  | sl => intro d t ht; simp only [cells, List.mem_singleton] at ht; subst ht; exact .sl _ _
  | rsl => intro d t ht; simp only [cells, List.mem_singleton] at ht; subst ht; exact .sl _ _
  | ptr => intro d t ht; simp only [cells, List.mem_singleton] at ht; subst ht; exact .pt _ _
  | ifc => intro d t ht; simp only [cells, List.mem_singleton] at ht; subst ht; exact .ifc _
  | bld => intro d t ht; simp only [cells, List.mem_singleton] at ht; subst ht; exact .dead

theorem allRo_flat {f : Fl} : ∀ {e : Ty} (_ : e.flat = true) (d : den e), ∀ t ∈ cells f e d, AllRo t := by
  intro e h d t ht
  rw [flat_cells (g := .ro) h d] at ht
  exact allRo_cells d t ht

theorem RepR.allRo {w : World} {S S' : Fl → Nat → Prop} {t : T} {u : Value} (h : RepR w S t u) (hS : ∀ b, S .ro b → S' .ro b) : AllRo t → RepR w S' t u := by
  induction h with
  | v x h1 => intro _; exact .v x h1
  | dead x => intro _; exact .dead x
  | ifcN => intro _; exact .ifcN
  | ifcS u y => intro _; exact .ifcS u y
  | nil f e a c => intro _; exact .nil f e a c
  | sl f e xs b off cap vs hR hcap hc hr ih =>
    intro h
    cases h
    refine .sl .ro e xs b off cap vs (hS b hR) hcap hc (fun i j t e' => ih i j t e' ?_)
    rw [cellOf_rows] at e'
    obtain ⟨d, _, e'⟩ := Option.bind_eq_some_iff.mp e'
    rw [nth_eq] at e'
    exact allRo_cells d t (List.mem_of_getElem? e')
  | box t f cs hb b off vs hR hc hr ih =>
    intro h
    cases h with
    | v => cases hb
    | sl => cases hb
    | ifc => cases hb
    | dead => cases hb
    | pt e d =>
      simp only [T.shBox?, Option.some.injEq, Prod.mk.injEq] at hb
      obtain ⟨rfl, rfl⟩ := hb
      exact .box _ .ro _ rfl b off vs (hS b hR) hc (fun j t e' => ih j t e' (allRo_cells d t (List.mem_of_getElem? e')))
  | ga e xs b off vs hR hw hc hr ih => intro h; cases h

theorem cell_shape {w : World} {b o : Nat} {v : Value} (h : w.cell? ⟨b, o, none⟩ = some v) : ∃ t k, w.shape? b = some (t, k) ∧ k ≠ 0 := by
  unfold World.cell? at h
  split at h
  · rename_i c el fz hb
    simp only at h hb
    refine ⟨el, c.size, by simp [World.shape?, hb], fun e => ?_⟩
    have : c = #[] := Array.eq_empty_of_size_eq_zero e
    subst this
    simp at h
  · cases h

section
variable {c : Ctx} {w : World}

/-- Shared elements, wherever the world has turned elsewhere. -/
theorem bo_src {S : Fl → Nat → Prop} {f : Fl} {e : Ty} {ys : List (den e)} {v : Value} (hf : e.flat = true) (h : RepR w S (.sl f e ys) v) :
    ∃ us ad cap, v = .slice ad ys.length cap ∧ us.length = ys.length * e.size ∧ RowsAt w S e ys us noLay ∧ (∀ w1 : World, (∀ f b, S f b → w1.heap[b]? = w.heap[b]?) → SrcRuns c.P w1 e.size v ys.length us) ∧
      (0 < ys.length → 0 < e.size → ∃ b o, ad = some ⟨b, o, none⟩ ∧ (∃ f, S f b) ∧ ∃ t k, w.shape? b = some (t, k) ∧ k ≠ 0) := by
  cases h with
  | box _ _ _ hb => simp [T.shBox?] at hb
  | nil _ _ ad cap => exact ⟨[], ad, cap, rfl, by simp, ⟨by simp, fun i j t e' => by simp [cellOf, rows] at e', fun _ _ _ => rfl⟩, fun _ _ => src_slice (by simp) (.inl rfl), fun h => by simp at h⟩
  | sl _ _ _ b off cap vs hR hcap hc hr =>
    have hcell : ∀ i j t, cellOf (rows .own e ys) i j = some t → cellOf (rows f e ys) i j = some t := by
      intro i j t e'
      rw [cellOf_rows] at e' ⊢
      obtain ⟨d, h1, h2⟩ := Option.bind_eq_some_iff.mp e'
      rw [h1, Option.bind_some, flat_cells (f := f) (g := .own) hf d]
      exact h2
    have hex : ∀ i j, i < ys.length → j < e.size → w.cell? ⟨b, off + i * e.size + j, none⟩ = some (vs i j) := by
      intro i j hi hj
      have hex : ∃ t, cellOf (rows .own e ys) i j = some t := by
        rw [cellOf_rows, List.getElem?_eq_getElem hi, Option.bind_some, nth_eq]
        exact ⟨_, List.getElem?_eq_getElem (by rw [length_cells]; exact hj)⟩
      obtain ⟨t, ht⟩ := hex
      exact hc i j t (hcell i j t ht)
    refine ⟨flatU ys.length e.size vs, _, _, rfl, by simp [flatU], ⟨by simp [flatU], fun i j t e' => ?_, fun _ _ _ => rfl⟩, fun w1 hw1 => src_slice (by simp [flatU]) (.inr ⟨b, off, rfl, fun k u hk => ?_⟩), fun h1 h2 => ⟨b, off, rfl, ⟨_, hR⟩, cell_shape (hex 0 0 h1 h2)⟩⟩
    · have hij := rows_lt e'
      refine ⟨vs i j, flatU_get hij.1 hij.2, .sh _ _ (hr i j t (hcell i j t e')) ?_⟩
      rw [cellOf_rows] at e'
      obtain ⟨d, _, e'⟩ := Option.bind_eq_some_iff.mp e'
      rw [nth_eq] at e'
      exact flat_sh hf d t (List.mem_of_getElem? e')
    · obtain ⟨i, j, hi, hj, rfl, rfl⟩ := flatU_some hk
      have := hex i j hi hj
      simp only [World.cell?] at this ⊢
      rw [hw1 _ _ hR, ← Nat.add_assoc]
      exact this

theorem RowsAt.flatRo {S S' : Fl → Nat → Prop} {e : Ty} {ys : List (den e)} {us : List Value} (hf : e.flat = true) (h : RowsAt w S e ys us noLay) (hS : ∀ b, S .ro b → S' .ro b) : RowsAt w S' e ys us noLay := by
  refine ⟨h.len, fun i j t e' => ?_, h.out⟩
  obtain ⟨u, g1, g2⟩ := h.get i j t e'
  rw [cellOf_rows] at e'
  obtain ⟨d, _, e'⟩ := Option.bind_eq_some_iff.mp e'
  rw [nth_eq] at e'
  have hm := List.mem_of_getElem? e'
  have hsh := flat_sh hf d t hm
  have hr := allRo_flat hf d t hm
  refine ⟨u, g1, ?_⟩
  cases g2 with
  | sh _ _ g3 _ => exact .sh _ _ (g3.allRo hS hr) hsh
  | nil => cases hr
  | sl => cases hr
  | slo => cases hr
  | vr => cases hr
  | bld => cases hr
  | box _ _ ht => cases hr <;> cases ht

end

/-- Rows of an owned slice that stands in a block. -/
theorem seg_rows {w : World} {S : Fl → Nat → Prop} {e : Ty} {xs : List (den e)} {off : Nat} {arr : Array Value} {vs : Nat → Nat → Value} {ψ : Lay} {sz : Nat} (hsz' : e.size = sz) (hfit : off + xs.length * sz ≤ arr.toList.length)
    (hcc : ∀ i j t, cellOf (rows .own e xs) i j = some t → arr[off + (i * sz + j)]? = some (vs i j)) (hr : ∀ i j t, cellOf (rows .own e xs) i j = some t → RepO w S t (vs i j) (ψ.at i j)) (hn : ∀ i j, cellOf (rows .own e xs) i j = none → ψ.at i j = noLay) :
    RowsAt w S e xs (seg arr.toList off (xs.length * sz)) (fun q => match q with | [] => none | q => ψ q) := by
  refine ⟨by rw [hsz']; exact length_seg hfit, fun k l t e' => ⟨vs k l, ?_, hr k l t e'⟩, fun k l e' => hn k l e'⟩
  have hkl := rows_lt e'
  have hk2 : k * e.size + l < xs.length * e.size := by
    have : (k + 1) * e.size ≤ xs.length * e.size := Nat.mul_le_mul_right _ hkl.1
    rw [Nat.add_mul] at this; omega
  rw [hsz'] at hk2 ⊢
  rw [get_seg hk2, Array.getElem?_toList]
  exact hcc k l t e'

/-- Rows set between others. -/
theorem ins_left {w w' : World} {S : Fl → Nat → Prop} {e : Ty} {xs ys : List (den e)} {ψ : Lay} {b off b' off' cap' j sz : Nat} {L L' us : List Value} {el' : TypeId} {v0 : Value} (hsz' : e.size = sz) (hj : j ≤ xs.length)
    (hfit : off + xs.length * sz ≤ L.length) (hrows : RowsAt w S e xs (seg L off (xs.length * sz)) (fun q => match q with | [] => none | q => ψ q)) (hys : RowsAt w S e ys us noLay) (hul : us.length = ys.length * sz)
    (h0 : ψ [] = some v0) (hb0 : blkOf v0 = some b) (hinj : Inj ψ) (hown : ∀ q y b, ψ q = some y → blkOf y = some b → (∀ f, ¬ S f b) ∧ b < w.heap.size) (hSlt : ∀ f b, S f b → b < w.heap.size)
    (hb' : w'.heap[b']? = some (.cells L'.toArray el' (0, 0))) (hfit' : off' + (cap' + 1) * sz ≤ L'.length) (hlen : xs.length + ys.length ≤ cap' + 1)
    (hcells : ∀ k, k < (xs.length + ys.length) * sz → L'[off' + k]? = insCells L us off (xs.length * sz) (j * sz) (ys.length * sz) k)
    (hother : ∀ k, k < w.heap.size → k ≠ b → w'.heap[k]? = w.heap[k]?) (hbb : b' = b ∨ w.heap.size ≤ b') (hlt' : b' < w'.heap.size) (hsize : w.heap.size ≤ w'.heap.size) (ho : w'.os = w.os) (ht : w'.tape = w.tape) (hout : w'.output = w.output) :
    ∃ ψ', LeftD w S ψ w' e (xs.take j ++ (ys ++ xs.drop j)) (.slice (some ⟨b', off', none⟩) (xs.length + ys.length) (cap' + 1)) ψ' := by
  have hall := (hrows.take j).append (hys.append (hrows.drop j))
  have hlen1 : (xs.take j).length = j := by rw [List.length_take]; omega
  rw [hlen1] at hall
  let g : Path → Path := fun q => match q with
    | [] => []
    | (k, l) :: q => if k < j then (k, l) :: q else (k - ys.length, l) :: q
  have hχ : ∀ q y, (catLay j (takeLay j fun q => match q with | [] => none | q => ψ q) (catLay ys.length noLay (dropLay j fun q => match q with | [] => none | q => ψ q))) q = some y →
      ψ (g q) = some y ∧ ∃ k l q', q = (k, l) :: q' ∧ (k < j ∨ j + ys.length ≤ k) := by
    intro q y hy
    cases q with
    | nil => cases hy
    | cons c0 q =>
      obtain ⟨k, l⟩ := c0
      simp only [catLay] at hy
      split at hy
      · rename_i hk
        simp only [takeLay, if_pos hk] at hy
        exact ⟨by simp only [g, if_pos hk]; exact hy, k, l, q, rfl, .inl hk⟩
      · rename_i hk
        split at hy
        · cases hy
        · rename_i hk2
          simp only [dropLay] at hy
          have e1 : k - j - ys.length + j = k - ys.length := by omega
          rw [e1] at hy
          exact ⟨by simp only [g, if_neg hk]; exact hy, k, l, q, rfl, .inr (by omega)⟩
  have hbS : ∀ f, ¬ S f b := (hown [] _ b h0 hb0).1
  have hall' := hall.mono (w' := w') (fun f b1 hS => hother b1 (hSlt f b1 hS) (fun e => hbS f (e ▸ hS))) (fun c0 p y b1 e1 e2 => by
    obtain ⟨h1, k, l, q', h2, h3⟩ := hχ _ _ e1
    refine hother b1 (hown _ _ _ h1 e2).2 (fun e => ?_)
    subst e
    have h6 := hinj _ _ _ _ b1 h1 e2 h0 hb0
    rw [h2] at h6
    simp only [g] at h6
    split at h6 <;> cases h6)
  have hxl : (xs.take j ++ (ys ++ xs.drop j)).length = xs.length + ys.length := by simp only [List.length_append, hlen1, List.length_drop]; omega
  have m1 : j * sz ≤ xs.length * sz := Nat.mul_le_mul_right _ hj
  have m2 : (xs.length + ys.length) * sz = xs.length * sz + ys.length * sz := Nat.add_mul _ _ _
  have hto := hall'.toSl (b := b') (off := off') (cap := cap') (arr := L'.toArray) (el := el') hb' (by rw [hxl]; exact hlen) (by rw [hsz', List.size_toArray]; exact hfit') (fun k u hk => ?_)
  rotate_left
  · have hk1 : k < (xs.length + ys.length) * sz := by
      have := (List.getElem?_eq_some_iff.mp hk).1
      rw [hall'.len, hxl, hsz'] at this; exact this
    rw [List.getElem?_toArray, hcells k hk1]
    unfold insCells
    rw [hsz'] at hk
    have l1 : ((seg L off (xs.length * sz)).take (j * sz)).length = j * sz := by rw [List.length_take, length_seg hfit]; omega
    rw [List.getElem?_append, l1] at hk
    split at hk
    · rename_i hk2
      rw [if_pos hk2]
      rw [List.getElem?_take, if_pos hk2] at hk
      exact seg_all _ _ _ _ _ hk
    · rename_i hk2
      rw [if_neg hk2]
      rw [List.getElem?_append, hul] at hk
      split at hk
      · rename_i hk3
        have : k < j * sz + ys.length * sz := by omega
        rw [if_pos this]; exact hk
      · rename_i hk3
        have h4 : ¬ k < j * sz + ys.length * sz := by omega
        have h5 : k < xs.length * sz + ys.length * sz := by omega
        rw [if_neg h4, if_pos h5]
        rw [List.getElem?_drop] at hk
        have := seg_all _ _ _ _ _ hk
        rw [← this]
        congr 1; omega
  rw [hxl] at hto
  refine ⟨_, ho, ht, hout, hsize, fun b1 h1 h2 => hother b1 h1 (fun e => h2 [] _ h0 (by rw [e]; exact hb0)), hto, rfl, ?_, fun q y b1 e1 e2 => ?_⟩
  · have hfresh : ∀ q y, (catLay j (takeLay j fun q => match q with | [] => none | q => ψ q) (catLay ys.length noLay (dropLay j fun q => match q with | [] => none | q => ψ q))) q = some y → blkOf y ≠ some b' := by
      intro q y hy hb1
      obtain ⟨h1, k, l, q', h2, h3⟩ := hχ q y hy
      rcases hbb with e | e
      · subst e
        have h6 := hinj _ _ _ _ b' h1 hb1 h0 hb0
        rw [h2] at h6
        simp only [g] at h6
        split at h6 <;> cases h6
      · have := (hown _ _ _ h1 hb1).2; omega
    intro q y q' y' b1 h1 h2 h3 h4
    cases q with
    | nil =>
      simp only [topLay, Option.some.injEq] at h1
      subst h1
      simp only [blkOf, Option.some.injEq] at h2
      subst h2
      cases q' with
      | nil => rfl
      | cons c1 q1 => exact absurd h4 (hfresh (c1 :: q1) _ h3)
    | cons c0 q0 =>
      cases q' with
      | nil =>
        simp only [topLay, Option.some.injEq] at h3
        subst h3
        simp only [blkOf, Option.some.injEq] at h4
        subst h4
        exact absurd h2 (hfresh (c0 :: q0) _ h1)
      | cons c1 q1 =>
        obtain ⟨g1, k, l, p1, g2, g3⟩ := hχ (c0 :: q0) y h1
        obtain ⟨g4, k', l', p2, g5, g6⟩ := hχ (c1 :: q1) y' h3
        have h6 := hinj _ _ _ _ b1 g1 h2 g4 h4
        rw [g2, g5] at h6 ⊢
        simp only [g] at h6
        split at h6 <;> split at h6 <;> simp only [List.cons.injEq, Prod.mk.injEq] at h6 ⊢ <;> exact ⟨⟨by omega, h6.1.2⟩, h6.2⟩
  · cases q with
    | nil =>
      simp only [topLay, Option.some.injEq] at e1
      subst e1
      simp only [blkOf, Option.some.injEq] at e2
      subst e2
      refine ⟨hlt', ?_⟩
      rcases hbb with e | e
      · exact .inr ⟨[], _, h0, by rw [e]; exact hb0⟩
      · exact .inl e
    | cons c0 q =>
      obtain ⟨h1, -⟩ := hχ (c0 :: q) y e1
      exact ⟨by have := (hown _ _ _ h1 e2).2; omega, .inr ⟨_, _, h1, e2⟩⟩

end Go.V

/-! A function that inserts is sound. -/
namespace Go.V
open Go.RowKit

section
variable {c : Ctx}

/-- A state in which nothing is known but what is shared. -/
theorem RelW.bare {w : World} {S : Fl → Nat → Prop} (O : Nat → Prop) (hlt : ∀ f b, S f b → b < w.heap.size) (hown : ∀ b, ¬ S .own b) (hrb : ∀ b, S .ro b → S .bo b) :
    RelW { nt := ⟨0, 0⟩, out := fun _ => none, w0 := w, O0 := O, R0 := S .ro, B0 := S .bo, G := [], F := fun _ _ _ _ => True, muts := [], Φ0 := fun _ => noLay, LC := fun _ _ => none, LΦ := fun _ _ => noLay, PV := fun _ => .nilIface }
      { S := S, Φ := fun _ => noLay, F := fun _ _ _ _ => True } { env := [], roots := [], lock := [], pin := [], dirt := [] } { tmps := #[], defers := [] } w where
  defers := rfl
  size := rfl
  env := fun k D hD => by simp [look] at hD
  roots := fun r row e => by simp [look] at e
  rootn := fun r _ => rfl
  inj := fun r p y r' p' y' b e => by cases e
  own := fun r p y b e => by cases e
  slt := hlt
  sown := hown
  sro := fun b hb => hb
  srn := fun b hb => .inl hb
  sbo := fun b hb => hb
  srb := hrb
  sbn := fun b hb => .inl hb
  F := rfl
  os := rfl
  tape := rfl
  output := rfl
  grow := Nat.le_refl _
  kept := fun _ _ _ => rfl
  glob := fun g t e => by simp [look] at e
  pins := fun k hk => by simp at hk
  locks := fun r d hd => by simp at hd
  dirt := fun r hr => by simp at hr

theorem bo_arg {w : World} {s : Sit} {e : Ty} {ys : List (den e)} {v : Value} (h : RepD w s (paramD ⟨false, .bo, .sl e⟩ ys) v) : RepR w s.S (.sl .bo e ys) v := by
  cases h with
  | v _ _ h => cases h with
    | c _ _ h => cases h with
      | k _ _ h => exact h

theorem ins_sound {f : FuncId} {t xt ov tb el : TypeId} {ti ei : TyInfo} {kk : IntKind} {e : Ty} (h : InsOk c.P f t xt ov tb) (hi : TyOk1 c.P t ti) (hd : ti.d = .sl el) (hei : TyOk1 c.P el ei) (hxu : c.P.underlying xt = some (.int kk))
    (hsz : e.size = ei.size) (hzl : ei.zero.length = ei.size) (hs0 : 0 < ei.size) (hby : 0 < ei.bytes) (hflat : e.flat = true) : SoundD c.P f (insS e) (insR ei.bytes) := by
  intro w S s v ψ vs xs d r hrep htop hinj hSown hSrb hSro hown hSs hslt hlen hargs hsem
  obtain ⟨j, ys0⟩ := d
  obtain ⟨ys, hys0⟩ : ∃ ys : List (den e), ys = ys0 := ⟨ys0, rfl⟩
  have hargs1 := hargs 1 _ rfl
  have hargs0 := hargs 0 _ rfl
  change insR ei.bytes (xs, (j, ys0)) = some r at hsem
  rw [← hys0] at hsem
  -- the arguments
  obtain ⟨v0, g0, q0⟩ := hargs0
  obtain ⟨v1, g1, q1⟩ := hargs1
  have r0 : v0 = .int .i64 j := int_arg q0
  have r1 : RepR w s.S (.sl .bo e ys) v1 := by rw [hys0]; exact bo_arg q1
  clear hargs hys0 q0 q1
  subst r0
  have hvs : vs = [.int .i64 j, v1] := by
    match vs, hlen with
    | [a, b], _ =>
      simp only [List.getElem?_cons_zero, List.getElem?_cons_succ, Option.some.injEq] at g0 g1
      rw [g0, g1]
  subst hvs
  unfold insR at hsem
  simp only at hsem
  rcases cond_some hsem with ⟨hc, hsem1⟩ | ⟨_, hsem1⟩
  rotate_left
  · cases hsem1
  simp only [Bool.and_eq_true, decide_eq_true_eq] at hc
  obtain ⟨hj0, hjn, hroomk⟩ := hc
  obtain ⟨j, rfl⟩ := Int.eq_ofNat_of_zero_le hj0
  simp only [Int.ofNat_le, Int.toNat_natCast, app_eq, Option.some.injEq] at hjn hsem1
  subst hsem1
  have hbig : (2 * (xs.length + ys.length) + 192) * ei.bytes ≤ 281474976710656 := Nat.le_of_ble_eq_true hroomk
  have hbig1 : xs.length + ys.length ≤ 281474976710656 := by
    have := Nat.le_mul_of_pos_right (2 * (xs.length + ys.length) + 192) hby
    omega
  have hown' : ∀ q y b, ψ q = some y → blkOf y = some b → b < w.heap.size := fun q y b e1 e2 => (hown q y b e1 e2).2.2
  have hSlt : ∀ f b, S f b → b < w.heap.size := fun f b hS => hslt f b (hSs f b hS)
  obtain ⟨us, av, cv, hv1, hul, hrowsY, hsrc, hshape⟩ := bo_src (c := c) hflat r1
  subst hv1
  have hrowsY' : RowsAt w S e ys us noLay := hrowsY.flatRo hflat hSro
  by_cases hm : ys.length = 0
  · -- nothing to set in
    have hys : ys = [] := by simpa using hm
    subst hys
    have hxs : xs.take j ++ ([] ++ xs.drop j) = xs := by simp
    rw [hxs]
    have key : ∀ ad cap, xs.length ≤ cap → v = .slice ad xs.length cap → Calls c.P f (v :: [.int .i64 (j : Int), .slice av ([] : List (den e)).length cv]).toArray w fun ex w' => ∃ v' ψ', ex = .returned v' ∧ LeftD w S ψ w' e xs v' ψ' := by
      intro ad cap hcap hv
      subst hv
      refine (h.none w ad av xs.length cap j cv hjn hcap).mono (fun ex w' he => ?_)
      obtain ⟨rfl, rfl⟩ := he
      exact ⟨_, ψ, rfl, .same hrep htop hinj hown'⟩
    cases hrep with
    | sh _ _ _ ht => simp [T.isSh] at ht
    | box _ cs ht => simp [T.box?] at ht
    | nil _ ad φ h0 hn => exact key ad 0 (by simp) rfl
    | sl _ _ b off cap arr el vs φ hb hcap hsz hc hr h0 hn => exact key _ _ hcap rfl
  have hm0 : 0 < ys.length := by omega
  by_cases hjj : j = xs.length
  · -- behind all
    subst hjj
    rw [List.take_length, List.drop_length, List.append_nil]
    have key : ∀ ad cap, xs.length ≤ cap → v = .slice ad xs.length cap → Calls c.P f (v :: [.int .i64 (xs.length : Int), .slice av ys.length cv]).toArray w fun ex w' => ∃ v' ψ', ex = .returned v' ∧ LeftD w S ψ w' e (xs ++ ys) v' ψ' := by
      intro ad cap hcap hv
      subst hv
      have hbare := RelW.bare (w := w) (S := S) (fun b => ∃ q y, ψ q = some y ∧ blkOf y = some b) hSlt hSown hSrb
      obtain ⟨v', w', ψ', k1, k2, k3, k4, k5⟩ := append_core (c := c) (ats := #[t, t]) (ty := t) rfl rfl hi hd (hi.slice hd) (by intro k; exact nofun) hei hzl hby hbare hsz (by omega) hrep
        (⟨hinj, fun q y b e1 e2 => ⟨(hown q y b e1 e2).1, (hown q y b e1 e2).2.2, .inl ⟨q, y, e1, e2⟩⟩, fun q y b e1 e2 r p z e3 => by cases e3⟩) hrowsY' (OwnOut.none _ _ _) (fun q y b e1 => by cases e1) rfl (by rw [← hsz]; exact hsrc w (fun _ _ _ => rfl)) (z := false) (fun e => by cases e) hroomk
      refine (h.stop w w' ad av xs.length cap ys.length cv v' hcap hm0 k1).mono (fun ex w2 he => ?_)
      obtain ⟨rfl, rfl⟩ := he
      refine ⟨v', ψ', rfl, k2.os, k2.tape, k2.output, k2.grow, fun b hb hn => k2.kept b hb (fun ⟨q, y, e1, e2⟩ => hn q y e1 e2), k3, k5, k4.inj, fun q y b e1 e2 => ?_⟩
      have := k4.own q y b e1 e2
      exact ⟨this.2.1, this.2.2.elim .inr .inl⟩
    cases hrep with
    | sh _ _ _ ht => simp [T.isSh] at ht
    | box _ cs ht => simp [T.box?] at ht
    | nil _ ad φ h0 hn => exact key ad 0 (by simp) rfl
    | sl _ _ b off cap arr el vs φ hb hcap hsz hc hr h0 hn => exact key _ _ hcap rfl
  · have hlt : j < xs.length := by omega
    cases hrep with
    | sh _ _ _ ht => simp [T.isSh] at ht
    | box _ cs ht => simp [T.box?] at ht
    | nil _ ad φ h0 hn => simp at hlt
    | sl _ _ b off cap arr el' vs0 φ hb hcap hszz hcc hr h0 hn =>
      rw [hsz] at hszz hul hsrc hshape
      have hcc' : ∀ i j t, cellOf (rows .own e xs) i j = some t → arr[off + (i * ei.size + j)]? = some (vs0 i j) := fun i j t e' => by rw [← hsz]; exact hcc i j t e'
      have m0 : xs.length * ei.size ≤ (cap + 1) * ei.size := Nat.mul_le_mul_right _ hcap
      have hfit : off + xs.length * ei.size ≤ arr.toList.length := by simp; omega
      have hrows := seg_rows hsz hfit hcc' hr hn
      have hblk : Blk w b el' arr.toList := by unfold Blk; rw [hb]
      have hbS : ∀ f, ¬ s.S f b := (hown [] _ b h0 rfl).2.1
      have hbw : b < w.heap.size := hown' [] _ b h0 rfl
      have hHolds : ∀ b', (b' = b ∨ b' = w.heap.size) → Holds' c.P w b' ei.size (.slice av ys.length cv) ys.length us := by
        intro b' hb'
        refine ⟨hul, hrowsY.one, fun w1 hw1 => ?_⟩
        have hsr := hsrc w1 (fun f b2 hS => hw1 b2 (hslt f b2 hS) (fun e => by
          rcases hb' with hb' | hb'
          · exact hbS f (by rw [← hb', ← e]; exact hS)
          · have := hslt f b2 hS; omega))
        exact ⟨hsr.len, hsr.cells w1.drawn⟩
      by_cases hroom : xs.length + ys.length ≤ cap + 1
      · -- in place
        obtain ⟨t1, t2, t3, w2, w3, t4, t5, L', t6, t7, t8⟩ := shift_steps (P := c.P) hi hd hei hlt hm0 hroom hblk (by simpa using hszz) hrows.one (hHolds b (.inl rfl))
        obtain ⟨b2, o2, hav, ⟨f2, hf2⟩, tA, kA, hsh, hk0⟩ := hshape hm0 hs0
        subst hav
        have hne : b2 ≠ b := fun e => hbS f2 (e ▸ hf2)
        have hov := run_apart (P := c.P) (w := w) (tR := tb) hi hd hei (a := ⟨b2, o2, none⟩) (b := ⟨b, off + (j + ys.length) * ei.size, none⟩) (la := ys.length) (ca := cv) (lb := xs.length + ys.length - (j + ys.length)) (cb := cap + 1 - (j + ys.length)) hne hsh hk0 hblk
        refine (h.shift w w2 w3 _ _ _ b off xs.length (cap + 1) j ys.length cv _ _ _ _ hlt hcap hm0 hroom hbig1 (t1 w) t2 t3 (by rw [h.over, hov]; rfl) t4 t5).mono (fun ex w' he => ?_)
        obtain ⟨rfl, rfl⟩ := he
        obtain ⟨ψ', hl⟩ := ins_left (w' := w') (b' := b) (off' := off) (cap' := cap) (j := j) hsz (Nat.le_of_lt hlt) hfit hrows hrowsY' hul h0 rfl hinj (fun q y b e1 e2 => ⟨(hown q y b e1 e2).1, hown' q y b e1 e2⟩) hSlt t7.heap (by rw [t6]; simpa using hszz) hroom t8
          (fun k _ hk => t7.other k hk) (.inl rfl) (by rw [t7.size]; exact hbw) (by rw [t7.size]; exact Nat.le_refl _) t7.os t7.tape t7.output
        exact ⟨_, ψ', rfl, hl⟩
      · -- in a new block
        obtain ⟨newCap, w1, t0, t1, t2, t3, t4, t5, w2, w3, t6, t7, L', t8, t9, t10, t11, t12, t13, t14, t15⟩ := grow_steps (P := c.P) hxu hi hd hei hzl hs0 hby hlt hm0 hcap (by omega) hbig hblk (by simpa using hszz) hrows.one hbw (fun b' hb' => hHolds b' (.inr hb'))
        refine (h.grow w w1 w2 w3 av _ _ _ _ b off xs.length (cap + 1) j ys.length cv _ _ _ _ _ _ _ _ newCap w.heap.size hlt hcap hm0 (by omega) hbig1 t1 t2 t3 t4 t5 t6 t7).mono (fun ex w' he => ?_)
        obtain ⟨rfl, rfl⟩ := he
        obtain ⟨cc, rfl⟩ : ∃ cc, newCap = cc + 1 := ⟨newCap - 1, by omega⟩
        obtain ⟨ψ', hl⟩ := ins_left (w' := w') (b' := w.heap.size) (off' := 0) (cap' := cc) (j := j) hsz (Nat.le_of_lt hlt) hfit hrows hrowsY' hul h0 rfl hinj (fun q y b e1 e2 => ⟨(hown q y b e1 e2).1, hown' q y b e1 e2⟩) hSlt t9 (by rw [t8, Nat.zero_add]; exact Nat.le_refl _) t0
          (fun k hk => by rw [Nat.zero_add]; exact t15 k hk) (fun k hk _ => t11 k hk) (.inr (Nat.le_refl _)) (by rw [t10]; omega) (by rw [t10]; omega) t12 t13 t14
        exact ⟨_, ψ', rfl, hl⟩

end
end Go.V

/-! For walks through functions that delete and insert. -/
namespace Go.V
open Go.RowKit

theorem wpList_val {P : Program} {ops : Array Oper} {Q : Exit → Act → World → Prop} {o : Oper} {l : List Oper} {a : Act} {w w' : World} {v : Value} (hg : o.guard = none) (hr : (execOp a.eval o).run P w = .ok (.value v) w') (h : wpList P ops Q l (a.put o.dst v) w') :
    wpList P ops Q (o :: l) a w := by
  refine wpList_plain hg (fun K hK => ?_)
  unfold Oper.wp
  rw [hr]
  exact hK _ _ h

theorem add_guard {P : Program} {w : World} {op : BinOp} {t : TypeId} {x y : Operand} {a : Int} {b : Value} : (eqGuard op t x y (.int .i64 a) b).run P w = .ok () w := eqGuard_scal nofun nofun

theorem add_run {P : Program} {w : World} {t : TypeId} {a b : Int} : (binOp .add t (.int .i64 a) (.int .i64 b)).run P w = .ok (.int .i64 (IntKind.i64.wrap (a + b))) w := by
  simp [binOp, Op.intArith]

end Go.V

/-! Functions run in the caller's place: entering and leaving. -/
namespace Go.V
open Go.RowKit

variable {α : Type}

def fnD : D → Option (FuncId × List (Nat × Path))
  | .v (.c (.fnp f caps)) => some (f, caps)
  | _ => none

theorem fnD_some {d : D} {fc : FuncId × List (Nat × Path)} (h : fnD d = some fc) : d = .v (.c (.fnp fc.1 fc.2)) := by
  unfold fnD at h
  split at h
  · simp only [Option.some.injEq] at h; subst h; rfl
  · cases h

def capD (e : Nat × Path) : D := .v (.c (.pt e.1 e.2 0 0 0))

def evalDs (cx : Ctx) (x : X) : List Operand → Option (List D)
  | [] => some []
  | o :: l => (evalD cx x o).bind fun d => (evalDs cx x l).map fun ds => d :: ds

section
variable {c : Ctx} {w : World}
def readVar (tmps : Array Value) : ResultVar → Sem Value
  | .tmp t => pure (tmps.getD t undef)
  | .cell a t => do loadVar t (← asAddr (tmps.getD a undef))

def ReadsTo (P : Program) (w : World) (tmps : Array Value) : List ResultVar → List Value → Prop
  | [], L => L = []
  | r :: l, L => ∃ v L', L = v :: L' ∧ (readVar tmps r).run P w = .ok v w ∧ ReadsTo P w tmps l L'

theorem ReadsTo.mapM {P : Program} {w : World} {tmps : Array Value} : ∀ {l : List ResultVar} {L : List Value}, ReadsTo P w tmps l L → (l.mapM (readVar tmps)).run P w = .ok L w
  | [], L, h => by have h : L = [] := h; subst h; simp
  | r :: l, L, h => by
    obtain ⟨v, L', rfl, h1, h2⟩ := h
    simp [List.mapM_cons, h1, h2.mapM]

theorem ReadsTo.split {P : Program} {w : World} {tmps : Array Value} : ∀ {l m : List ResultVar} {L : List Value}, ReadsTo P w tmps (l ++ m) L → ∃ L1 L2, L = L1 ++ L2 ∧ L1.length = l.length ∧ ReadsTo P w tmps l L1 ∧ ReadsTo P w tmps m L2
  | [], m, L, h => ⟨[], L, rfl, rfl, rfl, h⟩
  | r :: l, m, L, h => by
    obtain ⟨v, L', rfl, h1, h2⟩ := h
    obtain ⟨L1, L2, rfl, g0, g1, g2⟩ := h2.split
    exact ⟨v :: L1, L2, rfl, by simp [g0], ⟨v, L1, rfl, h1, g1⟩, g2⟩

def lstV (l : List Value) : Value := match l with | [v] => v | _ => .tuple l.toArray

theorem results_list (fn : Func) (tmps : Array Value) {l : List Value} (h : (fn.results.toList.mapM (readVar tmps)).run c.P w = .ok l w) :
    (results fn tmps).run c.P w = .ok (lstV l) w := by
  unfold lstV
  have e : results fn tmps = (do let vs ← fn.results.mapM (readVar tmps); pure (if h : vs.size = 1 then vs[0] else .tuple vs)) := rfl
  rw [e, Array.mapM_eq_mapM_toList]
  simp only [Sem.run_bind, Sem.run_map, h, Result.andThen_ok]
  match l with
  | [v] => simp
  | [] => simp
  | a :: b :: l => simp

/-! ### functions -/
def startEnv : Nat → List D → List (Nat × D)
  | _, [] => []
  | k, d :: l => (k, d) :: startEnv (k + 1) l

def X.start (ds : List D) : X := { env := startEnv 0 ds, roots := [], lock := [], pin := [], dirt := [] }

theorem startEnv_some : ∀ {l : List D} {m k : Nat} {d : D}, look (startEnv m l) k = some d → m ≤ k ∧ l[k - m]? = some d
  | [], m, k, d, h => by cases h
  | d0 :: l, m, k, d, h => by
    unfold startEnv at h
    rw [look_cons] at h
    by_cases e : k = m
    · rw [if_pos e, Option.some.injEq] at h
      subst e h
      exact ⟨Nat.le_refl _, by simp⟩
    · rw [if_neg e] at h
      obtain ⟨h1, h2⟩ := startEnv_some h
      refine ⟨by omega, ?_⟩
      have : k - m = (k - (m + 1)) + 1 := by omega
      rw [this]; simpa using h2

end

/-- Only what stands below. -/
def belowE (n : Nat) : List (Nat × D) → List (Nat × D)
  | [] => []
  | e :: l => match Nat.blt e.1 n with
    | true => e :: belowE n l
    | false => belowE n l

def argE (off : Nat) : List D → List (Nat × D)
  | [] => []
  | d :: l => (off, d) :: argE (off + 1) l

/-- The state in which a function is entered. -/
def X.into (x : X) (off : Nat) (ds : List D) : X := { x with env := app (argE off ds) (belowE off x.env) }

def X.outof (x : X) (off : Nat) : X := { x with env := belowE off x.env }

def pinB (x : X) (off : Nat) : Bool := allB (fun k => Nat.blt k off) x.pin

def calleeD (cx : Ctx) (x : X) (o : Oper) : Option (List Operand × (FuncId × List (Nat × Path))) := match o.op with
  | .call cl => match cl.callee with
    | .value f => (evalD cx x f).bind fun d => (fnD d).map fun fc => (cl.args.toList, fc)
    | _ => none
  | _ => none

def oneV (d : D) : Option V := match d with
  | .v x => some x
  | _ => none

/-- What is handed back. -/
def resVsK (cx : Ctx) (x : X) : List ResultVar → (List V → Option α) → Option α
  | [], K => K []
  | rv :: rvs, K => (match rv with
    | .tmp t => look x.env (cx.off + t)
    | .cell ad t => (look x.env (cx.off + ad)).bind fun d => loadK cx x t d some).bind fun d => (oneV d).bind fun v => resVsK cx x rvs fun vs => K (v :: vs)

def tupD : List V → D
  | [v] => .v v
  | l => .tup l

def putOK (nt : Fr) (x : X) (dst : Option Nat) (d : D) (K : X → Option α) : Option α := match dst with
  | some k => putK nt x (nt.off + k) d K
  | none => K x

/-- With a guard. -/
def guardedK (nt : Fr) (all : List Oper) (x : X) (o : Oper) (run skip : X → Option α) : Option α := match o.guard with
  | none => run x
  | some (j, want) => (guardD nt all x j).bind fun kd => match asB kd.2 with
    | some b => cond (eqB b want) (run (known x kd.1 want)) (skip (known x kd.1 (!want)))
    | none => match isUndef kd.2 with
      | true => skip x
      | false => none

/-- A call that is run in its place. -/
def enterK (cx : Ctx) (nt : Fr) (off : Nat) (x : X) (o : Oper) (body : Ctx → Fr → Code → X → (Exit → X → Option α) → Option α) (K : X → Option α) : Option α :=
  (calleeD cx x o).bind fun af => (evalDs cx x af.1).bind fun ds => (look cx.I af.2.1).bind fun fn => (fn.body).bind fun code =>
    match and (pinB x off) (Nat.ble (app ds (mapL capD af.2.2)).length fn.ntmps) with
    | true => body { cx with off := off } ⟨off, fn.ntmps⟩ code (x.into off (app ds (mapL capD af.2.2))) fun e x2 => match (match e with | .normal => true | .ret => true | _ => false) with
      | true => resVsK { cx with off := off } x2 fn.results.toList fun vs => match pinB x2 off with
        | true => putOK nt (x2.outof off) o.dst (tupD vs) K
        | false => none
      | false => none
    | false => none

theorem belowE_look {n : Nat} : ∀ {l : List (Nat × D)} {k : Nat} {d : D}, look (belowE n l) k = some d → k < n ∧ look l k = some d
  | [], k, d, h => by cases h
  | e :: l, k, d, h => by
    obtain ⟨k0, d0⟩ := e
    unfold belowE at h
    split at h
    · rename_i hb
      have hb : k0 < n := by simpa [Nat.blt_eq] using hb
      rw [look_cons] at h ⊢
      by_cases e : k = k0
      · rw [if_pos e] at h ⊢; exact ⟨by omega, h⟩
      · rw [if_neg e] at h ⊢; exact belowE_look h
    · rename_i hb
      have hb : ¬ k0 < n := by
        intro hlt
        have : Nat.blt k0 n = true := by simpa [Nat.blt_eq] using hlt
        simp only [this] at hb
        cases hb
      have := belowE_look h
      rw [look_cons, if_neg (by omega)]
      exact this

theorem argE_look : ∀ {ds : List D} {off k : Nat} {d : D}, look (argE off ds) k = some d → off ≤ k ∧ ds[k - off]? = some d
  | [], off, k, d, h => by cases h
  | d0 :: l, off, k, d, h => by
    unfold argE at h
    rw [look_cons] at h
    by_cases e : k = off
    · rw [if_pos e] at h
      subst e
      exact ⟨Nat.le_refl _, by simpa using h⟩
    · rw [if_neg e] at h
      obtain ⟨h1, h2⟩ := argE_look h
      refine ⟨by omega, ?_⟩
      rw [show k - off = (k - (off + 1)) + 1 by omega]
      simpa using h2

section
variable {c : Ctx} {B : Base} {s : Sit} {x : X} {a : Act} {w : World} {nt : Fr}

/-- What is handed on to a function that is entered. -/
def Base.into (B : Base) (a : Act) (off n : Nat) : Base := { B with nt := ⟨off, n⟩, out := B.tv a }

theorem into_tv {a2 : Act} {off n k : Nat} (h : k < off) : (B.into a off n).tv a2 k = B.tv a k := by
  unfold Base.tv Base.into
  simp only
  rw [if_pos h]
  rfl

theorem into_fit (hG : Fit B c) {off n : Nat} : Fit (B.into a off n) { c with off := off } := ⟨hG.g, rfl⟩

theorem evalDs_sound (hG : Fit B c) (h : RelW B s x a w) : ∀ {os : List Operand} {ds : List D}, evalDs c x os = some ds → ds.length = os.length ∧ ∀ (j : Nat) d, ds[j]? = some d → ∃ v, (os.map a.eval)[j]? = some v ∧ RepD w s d v
  | [], ds, e => by
    simp only [evalDs, Option.some.injEq] at e
    subst e
    exact ⟨rfl, fun j d e => by simp at e⟩
  | o :: l, ds, e => by
    obtain ⟨d0, h1, h2⟩ := Option.bind_eq_some_iff.mp e
    obtain ⟨ds', h3, rfl⟩ := Option.map_eq_some_iff.mp h2
    obtain ⟨k1, k2⟩ := evalDs_sound hG h h3
    refine ⟨by simp [k1], fun j d e => ?_⟩
    cases j with
    | zero =>
      simp only [List.getElem?_cons_zero, Option.some.injEq] at e
      subst e
      exact ⟨_, rfl, evalD_sound hG h h1⟩
    | succ j => simpa using k2 j d (by simpa using e)

theorem into_sound (h : RelW B s x a w) {off n : Nat} (hp : pinB x off = true) {ds : List D} {vs : List Value} (hn : ds.length ≤ n) (hl : vs.length = ds.length)
    (hv : ∀ (j : Nat) d, ds[j]? = some d → ∃ v, vs[j]? = some v ∧ RepD w s d v) :
    RelW (B.into a off n) s (x.into off ds) { tmps := vs.toArray ++ Array.replicate (n - vs.toArray.size) undef, defers := [] } w :=
  { h with
    defers := rfl
    size := by simp only [Base.into]; simp; omega
    env := fun k d hd => by
      simp only [X.into, look_app] at hd
      split at hd
      · rename_i d' hd'
        simp only [Option.some.injEq] at hd
        subst hd
        obtain ⟨h1, h2⟩ := argE_look hd'
        obtain ⟨v, h3, h4⟩ := hv _ _ h2
        refine ⟨v, ?_, h4⟩
        have hlt : k - off < vs.length := (List.getElem?_eq_some_iff.mp h3).1
        unfold Base.tv Base.into
        simp only
        rw [if_neg (by omega), Array.getElem?_append_left (by simpa using hlt)]
        simpa using h3
      · obtain ⟨h1, h2⟩ := belowE_look hd
        obtain ⟨v, h3, h4⟩ := h.env k d h2
        exact ⟨v, by rw [into_tv h1]; exact h3, h4⟩
    pins := fun k hk => by
      have : k < off := by
        have := (allB_iff _ _).1 hp k hk
        simpa [Nat.blt_eq] using this
      rw [into_tv this]
      exact h.pins k hk }

theorem outof_sound (h : RelW B s x a w) {off n : Nat} {s2 : Sit} {x2 : X} {a2 : Act} {w2 : World} (h2 : RelW (B.into a off n) s2 x2 a2 w2) (hp : pinB x2 off = true) : RelW B s2 (x2.outof off) a w2 :=
  { h2 with
    defers := h.defers
    size := h.size
    env := fun k d hd => by
      obtain ⟨h1, h3⟩ := belowE_look hd
      obtain ⟨v, h4, h5⟩ := h2.env k d h3
      rw [into_tv h1] at h4
      exact ⟨v, h4, h5⟩
    pins := fun k hk => by
      have : k < off := by
        have := (allB_iff _ _).1 hp k hk
        simpa [Nat.blt_eq] using this
      have h3 := h2.pins k hk
      rw [into_tv this] at h3
      exact h3 }

theorem capD_sound {f : FuncId} {caps : List (Nat × Path)} {v : Value} (h : RepD w s (.v (.c (.fnp f caps))) v) : ∃ cap : Array Value, v = .func (.func f) #[] cap ∧ cap.size = caps.length ∧
    ∀ (j : Nat) d, (mapL capD caps)[j]? = some d → ∃ u, cap[j]? = some u ∧ RepD w s d u := by
  cases h with
  | v _ _ h => cases h with
    | c _ _ h => cases h with
      | fnp _ _ cap hs hc =>
        refine ⟨cap, rfl, hs, fun j d e => ?_⟩
        rw [mapL_eq, List.getElem?_map] at e
        obtain ⟨⟨r, p⟩, e1, rfl⟩ := Option.map_eq_some_iff.mp e
        obtain ⟨b, h1, h2⟩ := hc j r p e1
        refine ⟨_, h2, .v _ _ (.c _ _ ?_)⟩
        have := RepC.pt (w := w) (s := s) r p 0 0 0 _ b h1 rfl
        simpa [offOf] using this

theorem resVs_sound (h : RelW B s x a w) (hG : Fit B c) : ∀ (rvs : List ResultVar) {K : List V → Option α} {q : α}, resVsK c x rvs K = some q →
    ∃ vs L, K vs = some q ∧ L.length = vs.length ∧ ReadsTo c.P w a.tmps rvs L ∧ ∀ (j : Nat) V, vs[j]? = some V → ∃ v, L[j]? = some v ∧ RepV w s V v
  | [], K, q, he => ⟨[], [], he, rfl, rfl, fun j V e => by simp at e⟩
  | rv :: rvs, K, q, he => by
    obtain ⟨d, h1, he1⟩ := Option.bind_eq_some_iff.mp he
    obtain ⟨V0, h2, h3⟩ := Option.bind_eq_some_iff.mp he1
    obtain ⟨vs, L, k1, k2, k3, k4⟩ := resVs_sound h hG rvs h3
    have hd : d = .v V0 := by
      unfold oneV at h2
      split at h2
      · simp only [Option.some.injEq] at h2; subst h2; rfl
      · cases h2
    have hrv : ∃ v, (readVar a.tmps rv).run c.P w = .ok v w ∧ RepD w s d v := by
      cases rv with
      | tmp t =>
        obtain ⟨v, g1, g2⟩ := h.env _ d h1
        rw [← hG.off, tv_local] at g1
        exact ⟨v, by simp [readVar, g1], g2⟩
      | cell ad t =>
        obtain ⟨d0, h4, h5⟩ := Option.bind_eq_some_iff.mp h1
        obtain ⟨v, g1, g2⟩ := h.env _ _ h4
        rw [← hG.off, tv_local] at g1
        obtain ⟨e, u, m1, m2, m3⟩ := load_sound h g2 h5
        simp only [Option.some.injEq] at m1
        subst m1
        refine ⟨u, ?_, m3⟩
        have hv : a.tmps.getD ad undef = v := by simp [g1]
        simp only [readVar, hv]
        cases v with
        | pointer ad => cases ad with
          | some ad => rw [← m2]; rfl
          | none => simp [Instr.loadAt, Instr.sureAddr] at m2
        | _ => simp [Instr.loadAt, Instr.sureAddr] at m2
    obtain ⟨v, g1, g2⟩ := hrv
    subst hd
    refine ⟨V0 :: vs, v :: L, k1, by simp [k2], ⟨v, L, rfl, g1, k3⟩, fun j V e => ?_⟩
    cases j with
    | zero =>
      simp only [List.getElem?_cons_zero, Option.some.injEq] at e
      subst e
      cases g2 with
      | v _ _ g2 => exact ⟨v, rfl, g2⟩
    | succ j => simpa using k4 j V (by simpa using e)

theorem tupD_rep {vs : List V} {L : List Value} (hl : L.length = vs.length) (h : ∀ (j : Nat) V, vs[j]? = some V → ∃ v, L[j]? = some v ∧ RepV w s V v) :
    RepD w s (tupD vs) (lstV L) := by
  match vs, L, hl with
  | [], [], _ => exact .tup _ _ rfl (fun j V e => by simp at e)
  | [V], [v], _ =>
    obtain ⟨v', f1, f2⟩ := h 0 V rfl
    simp only [List.getElem?_cons_zero, Option.some.injEq] at f1
    subst f1
    exact .v _ _ f2
  | V1 :: V2 :: Vs, v1 :: v2 :: L, hl => exact .tup _ _ (by simpa using hl) (fun j V e => by
        obtain ⟨v', f1, f2⟩ := h j V e
        exact ⟨v', by simpa using f1, f2⟩)

/-- With its guard. -/
theorem guarded_sound (hnt : B.nt = nt) {ops : Array Oper} (h : RelW B s x a w) {o : Oper} {run skip : X → Option α} {q : α} (he : guardedK nt ops.toList x o run skip = some q) :
    ∃ x', RelW B s x' a w ∧ ((Region.wanted o (yielded ops a.tmps) = true ∧ run x' = some q) ∨ (Region.wanted o (yielded ops a.tmps) = false ∧ skip x' = some q)) := by
  unfold guardedK at he
  split at he
  · rename_i hg
    exact ⟨x, h, .inl ⟨by simp [Region.wanted, hg], he⟩⟩
  · rename_i j want hg
    obtain ⟨⟨k, d⟩, h1, he1⟩ := Option.bind_eq_some_iff.mp he
    obtain ⟨k', h2, h3⟩ := Option.bind_eq_some_iff.mp h1
    obtain ⟨d', h4, h5⟩ := Option.map_eq_some_iff.mp h3
    simp only [Prod.mk.injEq] at h5
    obtain ⟨rfl, rfl⟩ := h5
    obtain ⟨v, h6', h7⟩ := h.env _ _ h4
    rw [← hnt] at h2
    obtain ⟨k0, h2', h6⟩ := gd_tv h2 h6'
    have hk' : (ops[j]?).bind (·.dst) = some k0 := by rw [nth_eq] at h2'; simpa using h2'
    split at he1
    · rename_i b hb
      have hv := asB_sound h7 hb
      subst hv
      have hy : yielded ops a.tmps j = some b := by simp [yielded, hk', h6]
      have hkn : ∀ b', b' = b → RelW B s (known x k' b') a w := fun b' e => by subst e; exact h.reput h6' (scal_rep _ rfl)
      rcases cond_some he1 with ⟨hbw, he2⟩ | ⟨hbw, he2⟩
      · have hbe : want = b := by cases want <;> cases b <;> simp [eqB] at hbw ⊢
        exact ⟨_, hkn want hbe, .inl ⟨by simp [Region.wanted, hg, hy, hbe], he2⟩⟩
      · have hbe : (!want) = b := by cases want <;> cases b <;> simp [eqB] at hbw ⊢
        exact ⟨_, hkn _ hbe, .inr ⟨by subst hbe; cases want <;> simp [Region.wanted, hg, hy], he2⟩⟩
    · split at he1
      · rename_i hu
        have hd := isUndef_eq hu
        simp only at hd
        subst hd
        have hv : v = .tuple #[] := by
          cases h7 with
          | tup _ arr hs _ => have : arr = #[] := by apply Array.eq_empty_of_size_eq_zero; simpa using hs
                              rw [this]
        subst hv
        have hy : yielded ops a.tmps j = none := by simp [yielded, hk', h6]
        exact ⟨x, h, .inr ⟨by simp [Region.wanted, hg, hy], he1⟩⟩
      · cases he1

/-- A call that is run in its place. -/
theorem enter_sound (hG : Fit B c) (hnt : B.nt = nt) (h : RelW B s x a w) {off : Nat} {o : Oper} {body : Ctx → Fr → Code → X → (Exit → X → Option α) → Option α} {K : X → Option α} {q : α}
    (he : enterK c nt off x o body K = some q) {Kp : Act → World → Prop} {Q : Exit → Act → World → Prop}
    (hbody : ∀ (code : Code) (n : Nat) (x' : X) (a' : Act) (K' : Exit → X → Option α) (Q' : Exit → Act → World → Prop), RelW (B.into a off n) s x' a' w → body { c with off := off } ⟨off, n⟩ code x' K' = some q →
      (∀ e x2 s2 a2 w2, RelW (B.into a off n) s2 x2 a2 w2 → K' e x2 = some q → Q' e a2 w2) → code.wp c.P Q' a' w)
    (hK : ∀ x' s' a' w', K x' = some q → RelW B s' x' a' w' → Kp a' w') : o.wp c.P a w Kp Q := by
  unfold enterK at he
  obtain ⟨⟨args, f, caps⟩, h1, he1⟩ := Option.bind_eq_some_iff.mp he
  obtain ⟨ds, h2, he2⟩ := Option.bind_eq_some_iff.mp he1
  obtain ⟨fn, h3, he3⟩ := Option.bind_eq_some_iff.mp he2
  obtain ⟨code, h4, he4⟩ := Option.bind_eq_some_iff.mp he3
  simp only at h2 h3 he4
  split at he4
  rotate_left
  · cases he4
  rename_i hb
  simp only [Bool.and_eq_true] at hb
  obtain ⟨hp, hn⟩ := hb
  have hn := Nat.le_of_ble_eq_true hn
  obtain ⟨hf, hname⟩ := c.hI f fn h3
  obtain ⟨l1, l2⟩ := evalDs_sound hG h h2
  -- what is called
  have hcall : ∃ cl cap, o.op = .call cl ∧ cl.args.toList = args ∧ cap.size = caps.length ∧ (∀ (j : Nat) d, (mapL capD caps)[j]? = some d → ∃ u, cap[j]? = some u ∧ RepD w s d u) ∧
      (execOp a.eval o).run c.P w = .ok (.enter f (cl.args.map a.eval ++ cap)) w := by
    unfold calleeD at h1
    split at h1
    · rename_i cl hop
      split at h1
      · rename_i fo hcal
        obtain ⟨d, e1, e2⟩ := Option.bind_eq_some_iff.mp h1
        obtain ⟨fc, e3, e4⟩ := Option.map_eq_some_iff.mp e2
        simp only [Prod.mk.injEq] at e4
        obtain ⟨rfl, rfl⟩ := e4
        have e3 := fnD_some e3
        subst e3
        obtain ⟨cap, g1, g2, g3⟩ := capD_sound (evalD_sound hG h e1)
        refine ⟨cl, cap, hop, rfl, g2, g3, ?_⟩
        have hbn : ¬ fn.body = none := by rw [h4]; simp
        have hname' : ¬ fn.name = "runtime.NumGoroutine" := by simpa using hname
        obtain ⟨callee, args, ats⟩ := cl
        simp only at hcal
        subst hcal
        simp [execOp, hop, resolve, g1, Deferred.ofValue, invoke, callFunc, hf, hname', hbn]
      · cases h1
    · cases h1
  obtain ⟨cl, cap, hop, hargs, hcs, hcap, hrun⟩ := hcall
  unfold Oper.wp
  rw [hrun, Oper.upon_enter]
  have hvs : ∀ (j : Nat) d, (app ds (mapL capD caps))[j]? = some d → ∃ v, ((args.map a.eval) ++ cap.toList)[j]? = some v ∧ RepD w s d v := by
    intro j d e
    rw [app_eq] at e
    by_cases hj : j < ds.length
    · rw [List.getElem?_append_left hj] at e
      obtain ⟨v, g1, g2⟩ := l2 j d e
      exact ⟨v, by rw [List.getElem?_append_left (by simp; omega)]; exact g1, g2⟩
    · rw [List.getElem?_append_right (by omega)] at e
      obtain ⟨v, g1, g2⟩ := hcap _ d e
      exact ⟨v, by rw [List.getElem?_append_right (by simp; omega)]; simp only [List.length_map]; rw [← l1]; simpa using g1, g2⟩
  have hlen : ((args.map a.eval) ++ cap.toList).length = (app ds (mapL capD caps)).length := by rw [app_eq, mapL_eq]; simp [l1, hcs]
  have hin := into_sound h (off := off) (n := fn.ntmps) hp hn hlen hvs
  have harr : ((args.map a.eval) ++ cap.toList).toArray = cl.args.map a.eval ++ cap := by
    apply Array.ext'
    simp [← hargs]
  rw [harr] at hin
  refine calls_of_wp hf h4 (hbody code fn.ntmps _ _ _ _ hin he4 (fun e x2 s2 a2 w2 hr hq => ?_))
  split at hq
  rotate_left
  · cases hq
  rename_i hex
  have hG2 : Fit (B.into a off fn.ntmps) { c with off := off } := into_fit hG
  obtain ⟨vs, L, k1, k2, k3, k4⟩ := resVs_sound (c := { c with off := off }) hr hG2 fn.results.toList hq
  split at k1
  rotate_left
  · cases k1
  rename_i hp2
  have hout := outof_sound h hr hp2
  have hres := results_list (c := { c with off := off }) fn a2.tmps k3.mapM
  have hrep := tupD_rep (w := w2) (s := s2) k2 k4
  generalize lstV L = R at hres hrep
  have hfin : Kp (a.put o.dst R) w2 := by
    unfold putOK at k1
    split at k1
    · rename_i k hk
      obtain ⟨x', m1, m2⟩ := put_sound hnt hout k1 hrep
      rw [← hnt, gput_local] at m2
      rw [hk]
      exact hK _ _ _ _ m1 m2
    · rename_i hk
      rw [hk]
      exact hK _ _ _ _ k1 hout
  cases e with
  | normal => exact ⟨hr.defers, _, hres, hfin⟩
  | ret => exact ⟨hr.defers, _, hres, hfin⟩
  | _ => cases hex

end
end Go.V
