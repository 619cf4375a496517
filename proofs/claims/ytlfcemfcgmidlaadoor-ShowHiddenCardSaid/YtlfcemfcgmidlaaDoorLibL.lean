/- A library of typed data in memory: A builder's methods: what they do to the builder. No conditions. -/
import Derived.Test.YtlfcemfcgmidlaaDoorLibK
import Derived.Below
/-! A builder's methods: what they do to the builder. -/
namespace Go.V
open Go.RowKit
def bytC (b : UInt8) : Value := .int .u8 (b.toNat : Int)
section
variable {c : Ctx} {w : World} {ats : Array TypeId} {st xt e ty : TypeId} {i ei : TyInfo}
/-- Bytes behind those of a buffer. -/
theorem buf_append (h0 : ats[0]? = some st) (h1 : ats[1]? = some xt) (hi : TyOk1 c.P st i) (hd : i.d = .sl e) {xd : TypeDesc} (hxu : c.P.underlying xt = some xd) (hxd : ∀ k, xd ≠ .int k) (hei : TyOk1 c.P e ei)
    (hsz : ei.size = 1) (hzl : ei.zero.length = 1) (hby : ei.bytes = 1) {x1 v2 : Value} {bs l : List UInt8} (hb : BufAt w e x1 bs) (hsrc : SrcRuns c.P w 1 v2 l.length (l.map bytC)) (hroom : 2 * (bs.length + l.length) + 192 ≤ 281474976710656) :
    ∃ v' w', (Builtin.append_ ats ty #[x1, v2]).run c.P w = .ok v' w' ∧ BufAt w' e v' (bs ++ l) ∧ w'.os = w.os ∧ w'.tape = w.tape ∧ w'.output = w.output ∧ w.heap.size ≤ w'.heap.size ∧
      (∀ k, k < w.heap.size → blkOf x1 ≠ some k → w'.heap[k]? = w.heap[k]?) ∧ (∀ g, blkOf v' = some g → g < w'.heap.size ∧ (w.heap.size ≤ g ∨ blkOf x1 = some g)) := by
  have grow : ∀ (base : Option Addr) (n0 cap0 : Nat), n0 = bs.length → ¬ n0 + l.length ≤ cap0 → (∀ d, (Builtin.firstCells 1 n0 (.slice base n0 cap0)).run c.P { w with drawn := d } = .ok (bs.map bytC).toArray { w with drawn := d }) →
      x1 = .slice base n0 cap0 → ∃ v' w', (Builtin.append_ ats ty #[x1, v2]).run c.P w = .ok v' w' ∧ BufAt w' e v' (bs ++ l) ∧ w'.os = w.os ∧ w'.tape = w.tape ∧ w'.output = w.output ∧ w.heap.size ≤ w'.heap.size ∧
      (∀ k, k < w.heap.size → blkOf x1 ≠ some k → w'.heap[k]? = w.heap[k]?) ∧ (∀ g, blkOf v' = some g → g < w'.heap.size ∧ (w.heap.size ≤ g ∨ blkOf x1 = some g)) := by
    intro base n0 cap0 hn0 hgt hfc hx
    obtain ⟨-, hgrow⟩ := run_append (w := w) (ty := ty) (base := base) (sLen := n0) (sCap := cap0) h0 h1 hi hd hxu hxd hei (v2 := v2) (n := l.length) (us := l.map bytC) (by rw [hsz]; exact hsrc)
    obtain ⟨newCap, rest, w', hnc, hrest, hheap, ho1, ho2, ho3, hrun⟩ := hgrow hgt (by omega) (by
      have := nextslicecap_le (n0 + l.length) cap0 (by omega)
      rw [hby]; omega) (bs.map bytC).toArray (by rw [hsz]; exact hfc)
    obtain ⟨k, rfl⟩ : ∃ k, newCap = k + 1 := ⟨newCap - 1, by omega⟩
    have hsize : w'.heap.size = w.heap.size + 1 := by rw [hheap]; simp
    refine ⟨_, w', by rw [hx]; exact hrun, .inr ⟨w.heap.size, k, _, by rw [List.length_append, hn0], by rw [hheap]; simp; rfl, by rw [List.length_append]; omega, by rw [List.length_append]; omega, ?_, ?_⟩, ho1, ho2, ho3, by omega, fun k hk _ => by rw [hheap, Array.getElem?_push, if_neg (by omega)], fun g hg => ?_⟩
    · simp only [Array.size_append, hrest, hzl, List.size_toArray, List.length_append, List.length_map, Nat.mul_one]; omega
    · have : (bs.map bytC ++ l.map bytC).length = (bs ++ l).length := by simp
      simp only [Array.toList_append]
      rw [← this, List.take_left, List.map_append]
      rfl
    · simp only [blkOf, Option.some.injEq] at hg
      omega
  rcases hb with ⟨rfl, rfl⟩ | ⟨g, cap, cur, rfl, b1, b2, b3, b4, b5⟩
  · by_cases hl : l = []
    · subst hl
      obtain ⟨hin, -⟩ := run_append (w := w) (ty := ty) (base := none) (sLen := 0) (sCap := 0) h0 h1 hi hd hxu hxd hei (v2 := v2) (n := 0) (us := []) (by rw [hsz]; exact hsrc)
      exact ⟨.slice none 0 0, w, hin (by omega), .inl ⟨rfl, rfl⟩, rfl, rfl, rfl, Nat.le_refl _, fun _ _ _ => rfl, fun g hg => by cases hg⟩
    · have : 0 < l.length := List.length_pos_iff.2 hl
      exact grow none 0 0 rfl (by omega) (fun d => rfl) rfl
  · have hcells : ∀ (k : Nat) u, (bs.map bytC)[k]? = some u → cur[k]? = some u := by
      intro k u hk
      have hlt : k < bs.length := by have := (List.getElem?_eq_some_iff.mp hk).1; simpa using this
      have : (cur.toList.take bs.length)[k]? = some u := by rw [b5]; exact hk
      rw [List.getElem?_take, if_pos hlt, Array.getElem?_toList] at this
      exact this
    by_cases hle : bs.length + l.length ≤ cap + 1
    · obtain ⟨hin, -⟩ := run_append (w := w) (ty := ty) (base := some ⟨g, 0, none⟩) (sLen := bs.length) (sCap := cap + 1) h0 h1 hi hd hxu hxd hei (v2 := v2) (n := l.length) (us := l.map bytC) (by rw [hsz]; exact hsrc)
      have hfit : 0 + bs.length + (l.map bytC).length ≤ cur.size := by rw [List.length_map]; omega
      have hone : ∀ u ∈ l.map bytC, u.oneCell' = true := by
        intro u hu
        obtain ⟨b, _, rfl⟩ := List.mem_map.1 hu
        rfl
      have hst := run_storeCells_at c.P g (0 + bs.length) e (l.map bytC) 0 cur w b1 (by omega) hone
      simp only [Nat.add_zero] at hst
      refine ⟨_, _, by rw [hin hle]; simp only [addr_add, hsz, Nat.mul_one, hst]; rfl, .inr ⟨g, cap, _, by rw [List.length_append], setRow_heap w g cur _ e (0, 0) b1, by rw [List.length_append]; omega, by rw [List.length_append]; omega, ?_, ?_⟩, rfl, rfl, rfl, by simp, fun k _ hk => setRow_other w g k _ (fun e' => hk (by rw [e']; rfl)), fun g' hg => ?_⟩
      · simp only [List.size_toArray, List.length_append, List.length_take, List.length_drop, Array.length_toList, List.length_map]; omega
      · have e1 : (cur.toList.take (0 + bs.length)) = bs.map bytC := by rw [Nat.zero_add]; exact b5
        have : (bs.map bytC ++ l.map bytC).length = (bs ++ l).length := by simp
        simp only [e1]
        rw [← this, List.take_left, List.map_append]
        rfl
      · simp only [blkOf, Option.some.injEq] at hg
        subst hg
        exact ⟨by simpa using (Array.getElem?_eq_some_iff.1 b1).1, .inr rfl⟩
    · refine grow (some ⟨g, 0, none⟩) bs.length (cap + 1) rfl hle (fun d => ?_) rfl
      refine run_firstCells (w := { w with drawn := d }) (by simp) (.inr ⟨g, 0, rfl, fun k u hk => ?_⟩)
      have : ({ w with drawn := d } : World).cell? ⟨g, 0 + k, none⟩ = cur[0 + k]? := cell?_of_cells (w := { w with drawn := d }) b1
      rw [this, Nat.zero_add]
      exact hcells k u hk
end
/-! ### a builder is written to -/
/-- What a writing leaves of a builder. -/
structure LeftB (w : World) (ψ : Lay) (w' : World) (t : Nat × Nat) (bs : List UInt8) (v : Value) (ψ' : Lay) : Prop where
  os : w'.os = w.os
  tape : w'.tape = w.tape
  output : w'.output = w.output
  size : w.heap.size ≤ w'.heap.size
  kept : ∀ b, b < w.heap.size → (∀ q y, ψ q = some y → blkOf y ≠ some b) → w'.heap[b]? = w.heap[b]?
  rep : ∀ S, RepO w' S (.bld t bs) v ψ'
  top : ψ' [] = some v
  inj : Inj ψ'
  own : ∀ q y b, ψ' q = some y → blkOf y = some b → b < w'.heap.size ∧ (w.heap.size ≤ b ∨ ∃ q0 y0, ψ q0 = some y0 ∧ blkOf y0 = some b)
theorem heap_set {w : World} {b o : Nat} {v : Value} {arr : Array Value} {t : TypeId} {fz : Nat × Nat} (h : w.heap[b]? = some (.cells arr t fz)) : (w.setCell ⟨b, o, none⟩ v).heap[b]? = some (.cells (arr.setIfInBounds o v) t fz) := by
  simp [World.setCell, Array.getElem?_modify, h]
theorem size_set {w : World} {a : Addr} {v : Value} : (w.setCell a v).heap.size = w.heap.size := by simp [World.setCell]
section
variable {c : Ctx} {f cc : FuncId} {t : Nat × Nat}
/-- What the check ahead of a writing does. -/
structure CheckOk (P : Program) (cc : FuncId) (T : Nat) : Prop where
  used : ∀ (b : Nat) (w : World), w.cell? ⟨b, 0, none⟩ = some (.pointer (some ⟨b, 0, none⟩)) → Calls P cc #[.pointer (some ⟨b, 0, none⟩)] w fun e w' => e = .returned (.tuple #[]) ∧ w' = w
  fresh : ∀ (b : Nat) (w : World), w.cell? ⟨b, 0, none⟩ = some (.pointer none) → w.shape? b = some (T, 2) → w.frozen? ⟨b, 0, none⟩ = false →
    Calls P cc #[.pointer (some ⟨b, 0, none⟩)] w fun e w' => e = .returned (.tuple #[]) ∧ w' = w.setCell ⟨b, 0, none⟩ (.pointer (some ⟨b, 0, none⟩))
theorem bld_check (hc : CheckOk c.P cc t.1) {w : World} {S : Fl → Nat → Prop} {v : Value} {ψ : Lay} {bs : List UInt8} (h : RepO w S (.bld t bs) v ψ) (hinj : Inj ψ) (hlt : ∀ q y b, ψ q = some y → blkOf y = some b → b < w.heap.size) :
    ∃ b base n cap w1, v = .pointer (some ⟨b, 0, none⟩) ∧ Calls c.P cc #[.pointer (some ⟨b, 0, none⟩)] w (fun e w' => e = .returned (.tuple #[]) ∧ w' = w1) ∧
      w1.heap[b]? = some (.cells #[.pointer (some ⟨b, 0, none⟩), .slice base n cap] t.1 (0, 0)) ∧ BufAt w1 t.2 (.slice base n cap) bs ∧ n = bs.length ∧ w1.heap.size = w.heap.size ∧ w1.os = w.os ∧ w1.tape = w.tape ∧ w1.output = w.output ∧
      (∀ k, k ≠ b → w1.heap[k]? = w.heap[k]?) ∧ ψ [] = some v ∧ ψ [(0, 1)] = some (.slice base n cap) ∧ (∀ q, q ≠ [] → q ≠ [(0, 1)] → ψ q = none) ∧ blkOf (.slice base n cap) ≠ some b ∧ b < w.heap.size := by
  cases h with
  | sh _ _ _ ht => simp [T.isSh] at ht
  | box _ _ ht => simp [T.box?] at ht
  | bld _ _ b x0 x1 _ hb hx hr h0 h1 hn =>
    obtain ⟨base, n, cap, rfl, hn0⟩ : ∃ base n cap, x1 = .slice base n cap ∧ n = bs.length := by
      rcases hr with ⟨rfl, rfl⟩ | ⟨g, cap, cur, rfl, _⟩
      · exact ⟨_, _, _, rfl, rfl⟩
      · exact ⟨_, _, _, rfl, rfl⟩
    have hne : blkOf (.slice base n cap) ≠ some b := fun e => by
      have := hinj _ _ _ _ _ h0 rfl h1 e
      simp at this
    have c0 : w.cell? ⟨b, 0, none⟩ = some x0 := by rw [cell?_of_cells hb]; rfl
    rcases hx with rfl | rfl
    · refine ⟨b, base, n, cap, w.setCell ⟨b, 0, none⟩ (.pointer (some ⟨b, 0, none⟩)), rfl, hc.fresh b w c0 (by simp [World.shape?, hb]) (by simp [World.frozen?, hb]), by rw [heap_set hb]; rfl, hr.keep (fun g hg => Below.heap_setCell _ _ _ _ (fun e => hne (by rw [hg, e]))), hn0, size_set, rfl, rfl, rfl, fun k hk => Below.heap_setCell _ _ _ _ hk, h0, h1, hn, hne, hlt _ _ _ h0 rfl⟩
    · exact ⟨b, base, n, cap, w, rfl, hc.used b w c0, hb, hr, hn0, rfl, rfl, rfl, rfl, fun _ _ => rfl, h0, h1, hn, hne, hlt _ _ _ h0 rfl⟩
def bldLay (b : Nat) (v' : Value) : Lay := fun q => match q with
  | [] => some (.pointer (some ⟨b, 0, none⟩))
  | p :: q => if p = (0, 1) ∧ q = [] then some v' else none
theorem bldLay_some {b : Nat} {v' : Value} {q : Path} {y : Value} (h : bldLay b v' q = some y) : (q = [] ∧ y = .pointer (some ⟨b, 0, none⟩)) ∨ (q = [(0, 1)] ∧ y = v') := by
  cases q with
  | nil => simp only [bldLay, Option.some.injEq] at h; exact .inl ⟨rfl, h.symm⟩
  | cons p q =>
    simp only [bldLay] at h
    split at h
    · rename_i e
      simp only [Option.some.injEq] at h
      exact .inr ⟨by rw [e.1, e.2], h.symm⟩
    · cases h
theorem bld_done {w w1 wa w2 : World} {b : Nat} {base : Option Addr} {n cap : Nat} {ψ : Lay} {v' : Value} {bs : List UInt8} (hs1 : w1.heap.size = w.heap.size) (ho1 : w1.os = w.os) (ht1 : w1.tape = w.tape) (hp1 : w1.output = w.output) (hk1 : ∀ k, k ≠ b → w1.heap[k]? = w.heap[k]?)
    (hsa : w1.heap.size ≤ wa.heap.size) (hoa : wa.os = w1.os) (hta : wa.tape = w1.tape) (hpa : wa.output = w1.output) (hka : ∀ k, k < w1.heap.size → wa.heap[k]? = w1.heap[k]?)
    (h0 : ψ [] = some (.pointer (some ⟨b, 0, none⟩))) (h1 : ψ [(0, 1)] = some (.slice base n cap)) (hbl : b < w.heap.size)
    (hne : blkOf (.slice base n cap) ≠ some b) (hb2 : w2.heap[b]? = some (.cells #[.pointer (some ⟨b, 0, none⟩), .slice base n cap] t.1 (0, 0)))
    (hbuf : BufAt w2 t.2 v' bs) (ho2 : w2.os = wa.os) (ht2 : w2.tape = wa.tape) (hp2 : w2.output = wa.output) (hs2 : wa.heap.size ≤ w2.heap.size)
    (hk2 : ∀ k, k < wa.heap.size → blkOf (.slice base n cap) ≠ some k → w2.heap[k]? = wa.heap[k]?) (hg2 : ∀ g, blkOf v' = some g → g < w2.heap.size ∧ (wa.heap.size ≤ g ∨ blkOf (.slice base n cap) = some g)) :
    LeftB w ψ (w2.setCell ⟨b, 1, none⟩ v') t bs (.pointer (some ⟨b, 0, none⟩)) (bldLay b v') := by
  have hvb : ∀ g, blkOf v' = some g → g ≠ b := fun g hg e => by
    rcases (hg2 g hg).2 with h | h
    · omega
    · exact hne (by rw [h, e])
  refine ⟨by show w2.os = w.os; rw [ho2, hoa, ho1], by show w2.tape = w.tape; rw [ht2, hta, ht1], by show w2.output = w.output; rw [hp2, hpa, hp1], by rw [size_set]; omega, fun k hk hn => ?_, fun S => ?_, rfl, ?_, ?_⟩
  · have hkb : k ≠ b := fun e => hn _ _ h0 (by rw [e]; rfl)
    rw [Below.heap_setCell _ _ _ _ hkb, hk2 k (by omega) (hn _ _ h1), hka k (by omega), hk1 k hkb]
  · refine .bld t bs b (.pointer (some ⟨b, 0, none⟩)) v' _ (by rw [heap_set hb2]; rfl) (.inr rfl) (hbuf.keep fun g hg => Below.heap_setCell _ _ _ _ (hvb g hg)) rfl (by simp [bldLay]) (fun q hq1 hq2 => ?_)
    cases q with
    | nil => exact absurd rfl hq1
    | cons p q =>
      simp only [bldLay]
      rw [if_neg (fun e => hq2 (by rw [e.1, e.2]))]
  · intro p1 z1 p2 z2 k e1 b1 e2 b2
    rcases bldLay_some e1 with ⟨rfl, rfl⟩ | ⟨rfl, rfl⟩ <;> rcases bldLay_some e2 with ⟨rfl, rfl⟩ | ⟨rfl, rfl⟩
    · rfl
    · simp only [blkOf, Option.some.injEq] at b1; exact absurd b1.symm (hvb k b2)
    · simp only [blkOf, Option.some.injEq] at b2; exact absurd b2.symm (hvb k b1)
    · rfl
  · intro q y k e1 b1
    rw [size_set]
    rcases bldLay_some e1 with ⟨rfl, rfl⟩ | ⟨rfl, rfl⟩
    · simp only [blkOf, Option.some.injEq] at b1
      subst b1
      exact ⟨by omega, .inr ⟨_, _, h0, rfl⟩⟩
    · obtain ⟨g1, g2⟩ := hg2 k b1
      refine ⟨g1, ?_⟩
      rcases g2 with g2 | g2
      · exact .inl (by omega)
      · exact .inr ⟨_, _, h1, g2⟩
def atLay (n : Nat) (ψ : Lay) : Lay := fun q => match q with
  | [] => none
  | (i, j) :: q => if i = 0 ∧ j = n then ψ q else none
theorem atLay_at (n : Nat) (ψ : Lay) (i j : Nat) : (atLay n ψ).at i j = if i = 0 ∧ j = n then ψ else noLay := by
  funext q
  simp only [Lay.at, atLay]
  split <;> rfl
theorem atLay_some {n : Nat} {ψ : Lay} {q : Path} {y : Value} (h : atLay n ψ q = some y) : ∃ q', q = (0, n) :: q' ∧ ψ q' = some y := by
  match q, h with
  | (i, j) :: q, h =>
    simp only [atLay] at h
    split at h
    · rename_i e
      exact ⟨q, by rw [e.1, e.2], h⟩
    · cases h
/-- A function that writes to a builder, as one whose meaning is known. -/
theorem bld_sound {P : Program} {G : List (Nat × T)} {f : FuncId} {t : Nat × Nat} {e2 : Ty} (he2 : plainB e2 = true) {rs : List RS} (hrs : rs = [⟨false, .own, .int .i64⟩, ⟨false, .own, .ifc⟩] ∨ rs = [⟨false, .own, .ifc⟩])
    {sem : List UInt8 × den e2 → Option (List UInt8)} {ret : List UInt8 × den e2 → Value} {resd : List UInt8 × den e2 → List UInt8 → den (resTy (rs ++ [⟨false, .own, .bld t⟩]))}
    (hres : ∀ d bs', (rs = [⟨false, .own, .int .i64⟩, ⟨false, .own, .ifc⟩] → ∃ n : Int, ret d = .tuple #[.int .i64 n, .nilIface] ∧ HEq (resd d bs') ((n, (true, bs')) : Int × (Bool × List UInt8))) ∧ (rs = [⟨false, .own, .ifc⟩] → ret d = .nilIface ∧ HEq (resd d bs') ((true, bs') : Bool × List UInt8)))
    (h : ∀ (w : World) (S : Fl → Nat → Prop) (v : Value) (ψ : Lay) (d : List UInt8 × den e2) (bs' : List UInt8), RepO w S (.bld t d.1) v ψ → Inj ψ → (∀ q y b, ψ q = some y → blkOf y = some b → b < w.heap.size) → sem d = some bs' →
      Calls P f #[v, scalV e2 d.2] w fun ex w' => ex = .returned (ret d) ∧ ∃ ψ', LeftB w ψ w' t bs' v ψ') :
    SoundM P G f ⟨[⟨false, .own, .bld t⟩, ⟨false, .bo, e2⟩], rs ++ [⟨false, .own, .bld t⟩]⟩ (fun d => (sem d).map fun bs' => resd d bs') := by
  intro w s vs d r hg hl hvs hr
  obtain ⟨bs', hs, rfl⟩ := Option.map_eq_some_iff.mp hr
  match vs, hl with
  | [v, v2], _ =>
  obtain ⟨y, hy⟩ := hg.roots 0 [T.bld t d.1] rfl
  have hchild : ∃ u, RepO w s.S (.bld t d.1) u ((s.Φ 0).at 0 0) ∧ (s.Φ 0 [] = none) ∧ ∀ i j, (i ≠ 0 ∨ [T.bld t d.1][j]? = none) → (s.Φ 0).at i j = noLay := by
    generalize s.Φ 0 = φ at hy
    cases hy with
    | sh _ _ _ ht => simp [T.isSh] at ht
    | box _ _ ht => simp [T.box?] at ht
    | vr _ _ vs' _ hr h0 hn => exact ⟨vs' 0, hr 0 _ rfl, h0, hn⟩
  obtain ⟨u, hu, hΦ0, hΦn⟩ := hchild
  obtain ⟨hu0, b, hub⟩ := bld_lay hu
  have hv : v = u := by
    obtain ⟨v', g1, g2⟩ := hvs 0 (.v (.c (.pt 0 [(0, 0)] 0 0 0))) rfl
    simp only [List.getElem?_cons_zero, Option.some.injEq] at g1
    subst g1
    cases g2 with
    | v _ _ g2 => cases g2 with
      | c _ _ g2 => cases g2 with
        | pt _ _ _ _ _ x b' h1 h2 =>
          have h1 : (s.Φ 0).at 0 0 [] = some x := h1
          rw [hu0, Option.some.injEq] at h1
          subst h1
          rw [hub] at h2 ⊢
          simp only [blkOf, Option.some.injEq] at h2
          subst h2
          simp [offOf]
  have hv2 : v2 = scalV e2 d.2 := by
    obtain ⟨v', g1, g2⟩ := hvs 1 (paramD ⟨false, .bo, e2⟩ d.2) rfl
    simp only [List.getElem?_cons_succ, List.getElem?_cons_zero, Option.some.injEq] at g1
    subst g1
    exact param_scal (p := ⟨false, .bo, e2⟩) (by simp [scalP, he2]) g2
  subst hv2
  subst hv
  refine (h w s.S v ((s.Φ 0).at 0 0) d bs' hu (fun p y p' y' b e1 b1 e2 b2 => by
    have := (hg.inj 0 ((0, 0) :: p) y 0 ((0, 0) :: p') y' b e1 b1 e2 b2).2
    simpa using this) (fun q y b e1 b1 => (hg.own 0 ((0, 0) :: q) y b e1 b1).2) hs).mono fun ex w' he => ?_
  obtain ⟨rfl, ψ', hL⟩ := he
  have hand : ∀ q y b, (s.Φ 0).at 0 0 q = some y → blkOf y = some b → Handed s b := fun q y b e1 b1 => ⟨0, (0, 0) :: q, y, e1, b1⟩
  have left : ∀ (row : List T) (n : Nat), row[n]? = some (.bld t bs') → (∀ (j : Nat) u, j ≠ n → row[j]? = some u → u.isSh = true ∧ ∃ x, RepR w' (roS (s.S .ro)) u x) →
      LeftM w s w' (s.S .ro) row (atLay n ψ') := by
    intro row n hn hrow
    have hch : ∀ (j : Nat), ∃ x : Value, ∀ u, j ≠ n → row[j]? = some u → u.isSh = true ∧ RepR w' (roS (s.S .ro)) u x := by
      intro j
      by_cases hj : j = n
      · exact ⟨.nilIface, fun u h => absurd hj h⟩
      cases e : row[j]? with
      | none => exact ⟨.nilIface, fun u _ ht => by cases ht⟩
      | some u =>
        obtain ⟨h1, x, h2⟩ := hrow j u hj e
        exact ⟨x, fun u' _ ht => by simp only [Option.some.injEq] at ht; subst ht; exact ⟨h1, h2⟩⟩
    refine ⟨hL.os, hL.tape, hL.output, hL.size, fun b hb hn => hL.kept b hb (fun q y e1 b1 => hn (hand q y b e1 b1)), fun b hb => hb, fun b hb => .inl hb, fun b hb => Nat.lt_of_lt_of_le (hg.slt .ro b hb) hL.size, ⟨.nilIface, .vr row _ (fun j => if j = n then v else (hch j).choose) _ (fun j u e => ?_) rfl (fun i j hij => ?_)⟩, ?_, ?_⟩
    · rw [atLay_at]
      by_cases hj : j = n
      · subst hj
        rw [hn, Option.some.injEq] at e
        subst e
        simp only [and_self, if_true]
        exact hL.rep _
      · obtain ⟨h1, h2⟩ := (hch j).choose_spec u hj e
        rw [if_neg hj, if_neg (fun e : 0 = 0 ∧ j = n => hj e.2)]
        exact .sh _ _ h2 h1
    · rw [atLay_at, if_neg]
      rintro ⟨rfl, rfl⟩
      rcases hij with hij | hij
      · exact hij rfl
      · rw [hn] at hij; cases hij
    · intro p1 z1 p2 z2 k e1 b1 e2 b2
      obtain ⟨q1, rfl, f1⟩ := atLay_some e1
      obtain ⟨q2, rfl, f2⟩ := atLay_some e2
      rw [hL.inj _ _ _ _ _ f1 b1 f2 b2]
    · intro q y k e1 b1
      obtain ⟨q1, rfl, f1⟩ := atLay_some e1
      obtain ⟨g1, g2⟩ := hL.own _ _ _ f1 b1
      refine ⟨?_, g1, fun hro => ?_⟩
      · rcases g2 with g2 | ⟨q0, y0, g3, g4⟩
        · exact .inr g2
        · exact .inl (hand _ _ _ g3 g4)
      · rcases g2 with g2 | ⟨q0, y0, g3, g4⟩
        · have := hg.slt .ro k hro; omega
        · exact (hg.own 0 ((0, 0) :: q0) y0 k g3 g4).1 .ro hro
  rcases hrs with rfl | rfl
  · obtain ⟨n, hret, hheq⟩ := (hres d bs').1 rfl
    have hrd : resd d bs' = ((n, (true, bs')) : Int × (Bool × List UInt8)) := eq_of_heq hheq
    rw [hret, hrd]
    refine ⟨_, s.S .ro, _, rfl, left [.v (.int .i64 n), .ifc true, .bld t bs'] 2 rfl (fun j u hj e => ?_), fun i j hij => ?_, fun s' k hS hΦ => ?_⟩
    · match j with
      | 0 => simp only [List.getElem?_cons_zero, Option.some.injEq] at e; subst e; exact ⟨rfl, _, .v _ rfl⟩
      | 1 => simp only [List.getElem?_cons_succ, List.getElem?_cons_zero, Option.some.injEq] at e; subst e; exact ⟨rfl, _, .ifcN⟩
      | 2 => exact absurd rfl hj
      | j + 3 => simp at e
    · match i, hij with
      | 0, hij =>
        have hij := Option.some.inj hij
        subst hij
        exact ⟨v, rfl, by show (if (0 : Nat) = 0 ∧ (2 : Nat) = 2 then ψ' [] else none) = some v; rw [if_pos ⟨rfl, rfl⟩]; exact hL.top⟩
      | i + 1, hij => cases hij
    · refine .tup _ _ rfl (fun j x hx => ?_)
      match j with
      | 0 => have hx := Option.some.inj (show some (V.c (.k (.v (.int .i64 n)))) = some x from hx); subst hx; exact ⟨_, rfl, .c _ _ (.k _ _ (.v _ rfl))⟩
      | 1 => have hx := Option.some.inj (show some (V.c (.k (.ifc true))) = some x from hx); subst hx; exact ⟨_, rfl, .c _ _ (.k _ _ .ifcN)⟩
      | j + 2 => cases hx
  · obtain ⟨hret, hheq⟩ := (hres d bs').2 rfl
    have hrd : resd d bs' = ((true, bs') : Bool × List UInt8) := eq_of_heq hheq
    rw [hret, hrd]
    refine ⟨_, s.S .ro, _, rfl, left [.ifc true, .bld t bs'] 1 rfl (fun j u hj e => ?_), fun i j hij => ?_, fun s' k hS hΦ => ?_⟩
    · match j with
      | 0 => simp only [List.getElem?_cons_zero, Option.some.injEq] at e; subst e; exact ⟨rfl, _, .ifcN⟩
      | 1 => exact absurd rfl hj
      | j + 2 => simp at e
    · match i, hij with
      | 0, hij =>
        have hij := Option.some.inj hij
        subst hij
        exact ⟨v, rfl, by show (if (0 : Nat) = 0 ∧ (1 : Nat) = 1 then ψ' [] else none) = some v; rw [if_pos ⟨rfl, rfl⟩]; exact hL.top⟩
      | i + 1, hij => cases hij
    · exact .v _ _ (.c _ _ (.k _ _ .ifcN))
def wrS (d : List UInt8 × List UInt8) : Option (List UInt8) := bif roomOk false d.1.length d.2.length 1 then some (d.1 ++ d.2) else none
/-- A text behind what a builder has. -/
def writeStrR (d : List UInt8 × List UInt8) : Option (Int × (Bool × List UInt8)) := (wrS d).map fun bs' => ((d.2.length : Int), (true, bs'))
def wrB (d : List UInt8 × Int) : Option (List UInt8) := bif and (and (decide (0 ≤ d.2)) (decide (d.2 < 256))) (roomOk false d.1.length 1 1) then some (d.1 ++ [byte8 d.2]) else none
/-- A byte behind what a builder has. -/
def writeByteR (d : List UInt8 × Int) : Option (Bool × List UInt8) := (wrB d).map fun bs' => (true, bs')
theorem writeStr_sound {G : List (Nat × T)} {st xt : TypeId} {i ei : TyInfo} (hi : TyOk1 c.P st i) (hd : i.d = .sl t.2) (hei : TyOk1 c.P t.2 ei) (hsz : ei.size = 1) (hzl : ei.zero.length = 1) (hby : ei.bytes = 1) (hxu : c.P.underlying xt = some .string) (hc : CheckOk c.P cc t.1)
    (walk : ∀ (w w1 w2 : World) (b : Nat) (base : Option Addr) (n cap : Nat) (s : ByteArray) (b' : Option Addr) (n' cap' : Nat), (Calls c.P cc #[.pointer (some ⟨b, 0, none⟩)] w fun e w' => e = .returned (.tuple #[]) ∧ w' = w1) →
      w1.heap[b]? = some (.cells #[.pointer (some ⟨b, 0, none⟩), .slice base n cap] t.1 (0, 0)) → (Builtin.append_ #[st, xt] st #[.slice base n cap, .string s]).run c.P w1 = .ok (.slice b' n' cap') w2 →
      w2.heap[b]? = some (.cells #[.pointer (some ⟨b, 0, none⟩), .slice base n cap] t.1 (0, 0)) →
      Calls c.P f #[.pointer (some ⟨b, 0, none⟩), .string s] w fun e w' => e = .returned (.tuple #[.int .i64 s.size, .nilIface]) ∧ w' = w2.setCell ⟨b, 1, none⟩ (.slice b' n' cap')) :
    SoundM c.P G f ⟨[⟨false, .own, .bld t⟩, ⟨false, .bo, .str⟩], [⟨false, .own, .int .i64⟩, ⟨false, .own, .ifc⟩, ⟨false, .own, .bld t⟩]⟩ writeStrR := by
  refine bld_sound (t := t) (e2 := .str) rfl (.inl rfl) (sem := wrS) (ret := fun d => .tuple #[.int .i64 (d.2.length : Int), .nilIface]) (resd := fun d bs' => ((d.2.length : Int), (true, bs'))) (fun d bs' => ⟨fun _ => ⟨_, rfl, .rfl⟩, fun h => by cases h⟩) ?_
  intro w S v ψ d bs' hrep hinj hlt hs
  unfold wrS at hs
  rcases cond_some hs with ⟨hroom, hs⟩ | ⟨_, hs⟩
  rotate_left
  · cases hs
  have hs := Option.some.inj hs
  subst hs
  obtain ⟨b, base, n, cap, w1, rfl, k1, k2, k3, k4, k5, k6, k7, k8, k9, k10, k11, k12, k13, k14⟩ := bld_check hc hrep hinj hlt
  have hr : (2 * (d.1.length + d.2.length) + 192) * 1 ≤ 281474976710656 := Nat.le_of_ble_eq_true hroom
  obtain ⟨v', w2, m1, m2, m3, m4, m5, m6, m7, m8⟩ := buf_append (c := c) (w := w1) (ats := #[st, xt]) (st := st) (xt := xt) (ty := st) rfl rfl hi hd hxu (fun _ h => by cases h) hei hsz hzl hby k3 (l := d.2) (v2 := .string ⟨⟨d.2⟩⟩) (str_rows (S := S) ⟨⟨d.2⟩⟩).2 (by omega)
  obtain ⟨b', n', cap', rfl⟩ : ∃ b' n' cap', v' = .slice b' n' cap' := by
    rcases m2 with ⟨rfl, _⟩ | ⟨g, cap, cur, rfl, _⟩
    · exact ⟨_, _, _, rfl⟩
    · exact ⟨_, _, _, rfl⟩
  have hb2 : w2.heap[b]? = some (.cells #[.pointer (some ⟨b, 0, none⟩), .slice base n cap] t.1 (0, 0)) := by rw [m7 b (by omega) k13]; exact k2
  refine (walk w w1 w2 b base n cap ⟨⟨d.2⟩⟩ b' n' cap' k1 k2 m1 hb2).mono fun ex w' he => ?_
  obtain ⟨rfl, rfl⟩ := he
  exact ⟨rfl, _, bld_done (wa := w1) k5 k6 k7 k8 k9 (Nat.le_refl _) rfl rfl rfl (fun _ _ => rfl) k10 k11 k14 k13 hb2 m2 m3 m4 m5 m6 m7 m8⟩
theorem writeByte_sound {G : List (Nat × T)} {st : TypeId} {i ei : TyInfo} (hi : TyOk1 c.P st i) (hd : i.d = .sl t.2) (hei : TyOk1 c.P t.2 ei) (hsz : ei.size = 1) (hzl : ei.zero.length = 1) (hby : ei.bytes = 1) (hc : CheckOk c.P cc t.1)
    (walk : ∀ (w w1 w2 : World) (b : Nat) (base : Option Addr) (n cap : Nat) (ch : Int) (b' : Option Addr) (n' cap' : Nat), (Calls c.P cc #[.pointer (some ⟨b, 0, none⟩)] w fun e w' => e = .returned (.tuple #[]) ∧ w' = w1) →
      w1.heap[b]? = some (.cells #[.pointer (some ⟨b, 0, none⟩), .slice base n cap] t.1 (0, 0)) → (Builtin.append_ #[st, st] st #[.slice base n cap, .slice (some ⟨w1.heap.size, 0, none⟩) 1 1]).run c.P (w1.alloc (.cells #[.int .u8 ch] t.2)) = .ok (.slice b' n' cap') w2 →
      w2.heap[b]? = some (.cells #[.pointer (some ⟨b, 0, none⟩), .slice base n cap] t.1 (0, 0)) →
      Calls c.P f #[.pointer (some ⟨b, 0, none⟩), .int .u8 ch] w fun e w' => e = .returned .nilIface ∧ w' = w2.setCell ⟨b, 1, none⟩ (.slice b' n' cap')) :
    SoundM c.P G f ⟨[⟨false, .own, .bld t⟩, ⟨false, .bo, .int .u8⟩], [⟨false, .own, .ifc⟩, ⟨false, .own, .bld t⟩]⟩ writeByteR := by
  refine bld_sound (t := t) (e2 := .int .u8) rfl (.inr rfl) (sem := wrB) (ret := fun d => .nilIface) (resd := fun d bs' => (true, bs')) (fun d bs' => ⟨fun h => (by cases h), fun _ => ⟨rfl, .rfl⟩⟩) ?_
  intro w S v ψ d bs' hrep hinj hlt hs
  unfold wrB at hs
  rcases cond_some hs with ⟨hroom, hs⟩ | ⟨_, hs⟩
  rotate_left
  · cases hs
  have hs := Option.some.inj hs
  subst hs
  simp only [Bool.and_eq_true, decide_eq_true_eq] at hroom
  obtain ⟨⟨c0, c1⟩, hroom⟩ := hroom
  obtain ⟨b, base, n, cap, w1, rfl, k1, k2, k3, k4, k5, k6, k7, k8, k9, k10, k11, k12, k13, k14⟩ := bld_check hc hrep hinj hlt
  have hr : (2 * (d.1.length + 1) + 192) * 1 ≤ 281474976710656 := Nat.le_of_ble_eq_true hroom
  have hch : (Value.int .u8 d.2) = bytC (byte8 d.2) := by
    unfold bytC byte8
    congr 1
    rw [UInt8.toNat_ofNat']
    omega
  have hold : ∀ k, k < w1.heap.size → (w1.alloc (.cells #[.int .u8 d.2] t.2)).heap[k]? = w1.heap[k]? := fun k hk => Below.heap_alloc _ _ _ hk
  have hlt1 : ∀ g, blkOf (.slice base n cap) = some g → g < w1.heap.size := fun g hg => by rw [k5]; exact hlt _ _ _ k11 hg
  have hsz1 : (w1.alloc (.cells #[.int .u8 d.2] t.2)).heap.size = w1.heap.size + 1 := by show (w1.heap.push _).size = _; simp
  obtain ⟨v', w2, m1, m2, m3, m4, m5, m6, m7, m8⟩ := buf_append (c := c) (w := w1.alloc (.cells #[.int .u8 d.2] t.2)) (ats := #[st, st]) (st := st) (xt := st) (ty := st) rfl rfl hi hd (hi.slice hd) (fun _ h => by cases h) hei hsz hzl hby
    (k3.keep fun g hg => hold g (hlt1 g hg)) (l := [byte8 d.2]) (v2 := .slice (some ⟨w1.heap.size, 0, none⟩) 1 1)
    (src_slice (by simp) (.inr ⟨w1.heap.size, 0, rfl, fun k u hk => by
      cases k with
      | zero =>
        simp only [List.map_cons, List.map_nil, List.getElem?_cons_zero, Option.some.injEq] at hk
        rw [cell?_of_cells (show (w1.alloc (.cells #[.int .u8 d.2] t.2)).heap[w1.heap.size]? = some (.cells #[.int .u8 d.2] t.2 (0, 0)) by show (w1.heap.push _)[_]? = _; simp), ← hk, ← hch]; rfl
      | succ k => simp at hk⟩)) (by simp only [List.length_singleton]; omega)
  obtain ⟨b', n', cap', rfl⟩ : ∃ b' n' cap', v' = .slice b' n' cap' := by
    rcases m2 with ⟨rfl, _⟩ | ⟨g, cap, cur, rfl, _⟩
    · exact ⟨_, _, _, rfl⟩
    · exact ⟨_, _, _, rfl⟩
  have hb2 : w2.heap[b]? = some (.cells #[.pointer (some ⟨b, 0, none⟩), .slice base n cap] t.1 (0, 0)) := by rw [m7 b (by omega) k13, hold b (by omega)]; exact k2
  refine (walk w w1 w2 b base n cap d.2 b' n' cap' k1 k2 m1 hb2).mono fun ex w' he => ?_
  obtain ⟨rfl, rfl⟩ := he
  exact ⟨rfl, _, bld_done (wa := w1.alloc (.cells #[.int .u8 d.2] t.2)) k5 k6 k7 k8 k9 (by omega) rfl rfl rfl hold k10 k11 k14 k13 hb2 m2 m3 m4 m5 m6 m7 m8⟩
/-- A builder's text. -/
def textR (bs : List UInt8) : Option (List UInt8) := some bs
theorem freeze_other (w : World) (g n k : Nat) (h : k ≠ g) : (w.freeze ⟨g, 0, none⟩ n).heap[k]? = w.heap[k]? := by
  unfold World.freeze
  split
  · rfl
  · simp only [Array.getElem?_modify]
    rw [if_neg (fun e => h e.symm)]
theorem size_freeze (w : World) (a : Addr) (n : Nat) : (w.freeze a n).heap.size = w.heap.size := by
  unfold World.freeze
  split
  · rfl
  · simp
theorem text_sound {st pt it ty : TypeId} (hp : c.P.underlying pt = some (.pointer t.2)) (hcell : c.P.cellsOf t.2 = 1)
    (walk : ∀ (w w2 : World) (b : Nat) (x0 : Value) (base : Option Addr) (n cap : Nat) (q : Option Addr) (r : ByteArray), w.heap[b]? = some (.cells #[x0, .slice base n cap] t.1 (0, 0)) →
      (Builtin.unsafeSliceData_ #[st] pt #[.slice base n cap]).run c.P w.drew = .ok (.pointer q) w.drew → (Builtin.unsafeString_ #[pt, it] ty #[.pointer q, .int .i64 n]).run c.P w.drew = .ok (.string r) w2 →
      Calls c.P f #[.pointer (some ⟨b, 0, none⟩)] w fun e w' => e = .returned (.string r) ∧ w' = w2) :
    SoundT c.P f ⟨[⟨false, .own, .bld t⟩], [⟨false, .own, .str⟩]⟩ textR := by
  intro w S v ψ bs r hrep htop hinj hown hr
  have hr := Option.some.inj hr
  subst hr
  cases hrep with
  | sh _ _ _ ht => simp [T.isSh] at ht
  | box _ _ ht => simp [T.box?] at ht
  | bld _ _ b x0 x1 _ hb hx hbuf h0 h1 hn =>
    rcases hbuf with ⟨rfl, rfl⟩ | ⟨g, cap, cur, rfl, b1, b2, b3, b4, b5⟩
    · refine (walk w w.drew b x0 none 0 0 none .empty hb rfl (Lib.run_unsafeString_none _ _ _ _ _)).mono fun ex w' he => ?_
      obtain ⟨rfl, rfl⟩ := he
      exact ⟨rfl, rfl, rfl, rfl, Nat.le_refl _, fun _ _ _ => rfl⟩
    · have hSD := Lib.run_unsafeSliceData_row (P := c.P) w.drew #[st] pt ⟨g, 0, none⟩ bs.length (cap + 1) (by omega)
      by_cases hl : bs = []
      · subst hl
        refine (walk w w.drew b x0 (some ⟨g, 0, none⟩) 0 (cap + 1) (some ⟨g, 0, none⟩) .empty hb hSD (Lib.run_unsafeString_none _ _ _ _ _)).mono fun ex w' he => ?_
        obtain ⟨rfl, rfl⟩ := he
        exact ⟨rfl, rfl, rfl, rfl, Nat.le_refl _, fun _ _ _ => rfl⟩
      · have hg' : w.drew.heap[g]? = some (.cells cur t.2 (0, 0)) := b1
        have hUS := Lib.run_unsafeString_row (P := c.P) w.drew pt it ty t.2 hp hcell g cur.size (by simp [World.shape?, hg']) bs hl (by omega) (by omega) (fun j x hx => by
          have hj := (List.getElem?_eq_some_iff.mp hx).1
          have e1 : (cur.toList.take bs.length)[j]? = some (.int .u8 (x.toNat : Int)) := by rw [b5, List.getElem?_map, hx]; rfl
          rw [List.getElem?_take, if_pos hj, Array.getElem?_toList] at e1
          rw [addr_add, cell?_of_cells hg', Nat.zero_add]
          exact e1)
        refine (walk w _ b x0 (some ⟨g, 0, none⟩) bs.length (cap + 1) (some ⟨g, 0, none⟩) _ hb hSD hUS).mono fun ex w' he => ?_
        obtain ⟨rfl, rfl⟩ := he
        refine ⟨rfl, ?_, ?_, ?_, by rw [size_freeze]; exact Nat.le_refl _, fun k hk hkn => ?_⟩
        · unfold World.freeze; split <;> rfl
        · unfold World.freeze; split <;> rfl
        · unfold World.freeze; split <;> rfl
        · exact freeze_other _ _ _ _ (fun e => hkn _ _ h1 (by rw [e]; rfl))
end
end Go.V
