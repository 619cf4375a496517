/- More operations that only look: addresses, lengths, parts, comparisons. -/
import Derived.Test.YtmcaghldcabnnaaRvSix
namespace Go.V
open Go.RowKit

variable {α : Type}

def scal (v : Value) : D := .v (.c (.k (.v v)))

/-- The number, text or truth value that an operand is. -/
def D.val : D → Option Value
  | .v (.c (.k (.v z))) => some z
  | _ => none

def addOff : C → Nat → Option C
  | .pt r p i j sz, f => some (.pt r p i (j + f) sz)
  | .rq f cs j, k => some (.rq f cs (j + k))
  | .k t, k => (t.shBox?).map fun fc => .rq fc.1 fc.2 k
  | _, _ => none

def fieldAddrD (cx : Ctx) (s : TypeId) (f : Nat) (d : D) : Option D :=
  (look cx.Ty s).bind fun i => match i.d with
    | .st fs => (nth fs f).bind fun ft => (look cx.Ty ft.2).bind fun fi => match fi.size with
      | 0 => none
      | _ + 1 => match d with
        | .v (.c y) => (addOff y ft.1).map fun z => .v (.c z)
        | _ => none
    | _ => none

def inB (n : Int) (len : Nat) : Bool := and (decide (0 ≤ n)) (decide (n < (len : Int)))
theorem inB_spec {n : Int} {len : Nat} (h : inB n len = true) : 0 ≤ n ∧ n < len ∧ n.toNat < len := by
  simp only [inB, Bool.and_eq_true, decide_eq_true_eq] at h
  exact ⟨h.1, h.2, by omega⟩

def idxI {β : Type} (xs : List β) (n : Int) : Option β := cond (decide (0 ≤ n)) (idxN xs n.toNat) none
theorem idxI_some {β : Type} {xs : List β} {n : Int} {b : β} (h : idxI xs n = some b) : 0 ≤ n ∧ xs[n.toNat]? = some b ∧ n < xs.length := by
  unfold idxI at h
  cases e : decide (0 ≤ n) with
  | false => rw [e] at h; cases h
  | true =>
    rw [e] at h
    have e : 0 ≤ n := by simpa using e
    have h : xs[n.toNat]? = some b := h
    have := (List.getElem?_eq_some_iff.mp h).1
    exact ⟨e, h, by omega⟩

/-- An owned slice's elements: their type, how many. -/
def slN (t : T) : Option (Ty × Nat) := match t with
  | .sl .own e xs => some (e, xs.length)
  | .slo e xs _ _ => some (e, xs.length)
  | _ => none

theorem slN_X {t : T} {en : Ty × Nat} (h : slN t = some en) : ∃ f, SlX t en.1 en.2 f := by
  unfold slN at h
  split at h
  · simp only [Option.some.injEq] at h; subst h; exact ⟨_, .sl _ _⟩
  · simp only [Option.some.injEq] at h; subst h; exact ⟨_, .slo _ _ _ _⟩
  · cases h

def idxCK (x : X) (y : C) (sz : Nat) (n : Int) (K : C → Option α) : Option α := match y with
  | .own r p _ => atK x r p fun t => (slN t).bind fun en => match Nat.beq en.1.size sz with
    | true => cond (inB n en.2) (K (.pt r p n.toNat 0 sz)) none
    | false => none
  | .sub r p lo m e => match Nat.beq e.size sz with
    | true => cond (inB n m) (K (.pt r p (lo + n.toNat) 0 sz)) none
    | false => none
  | .k t => match t with
    | .sl .own _ _ => none
    | .sl f e xs => match Nat.beq e.size sz with
      | true => (idxI xs n).bind fun b => K (.rq f (cells f e b) 0)
      | false => none
    | _ => none
  | _ => none

def idxAK (y : C) (sz m : Nat) (n : Int) (K : C → Option α) : Option α := match y with
  | .ra e xs => match and (Nat.beq e.size sz) (Nat.ble xs.length m) with
    | true => (idxI xs n).bind fun b => K (.rq .ro (cells .ro e b) 0)
    | false => none
  | _ => none

def indexAddrK (cx : Ctx) (x : X) (t : TypeId) (d ix : D) (K : D → Option α) : Option α :=
  (look cx.Ty t).bind fun i => match d with
    | .v (.c y) => (ix.val).bind fun n => match n with
      | .int .i64 n => match i.d with
        | .sl e => (look cx.Ty e).bind fun ei => idxCK x y ei.size n fun z => K (.v (.c z))
        | .arr m e => (look cx.Ty e).bind fun ei => idxAK y ei.size m n fun z => K (.v (.c z))
        | _ => none
      | _ => none
    | _ => none

def lenCK (x : X) (y : C) (K : Nat → Option α) : Option α := match y with
  | .own r p _ => atK x r p fun t => (slN t).bind fun en => K en.2
  | .sub _ _ _ n _ => K n
  | .k t => match t with
    | .sl .own _ _ => none
    | .sl _ _ xs => K xs.length
    | _ => none
  | .nil => K 0
  | _ => none

def lenK (cx : Ctx) (x : X) (t : TypeId) (d : D) (K : D → Option α) : Option α :=
  (look cx.Ty t).bind fun i => match i.d with
    | .sl _ => match d with
      | .v (.c y) => lenCK x y fun n => K (scal (.int .i64 n))
      | _ => none
    | .str => (d.val).bind fun v => match v with
      | .string s => K (scal (.int .i64 s.data.toList.length))
      | _ => none
    | _ => none

def fieldD (cx : Ctx) (t : TypeId) (f : Nat) (d : D) : Option D :=
  (look cx.Ty t).bind fun i => match i.d with
    | .st fs => (nth fs f).bind fun ft => (look cx.Ty ft.2).bind fun fi => match d with
      | .v (.ag cs) => match fi.d.isAgg with
        | true => (part ft.1 fi.size cs).map fun l => .v (.ag l)
        | false => (nth cs ft.1).map fun y => .v (.c y)
      | _ => none
    | _ => none

def extractD (d : D) (j : Nat) : Option D :=
  match d with
  | .tup xs => (nth xs j).map .v
  | _ => none

def byteK (d ix : D) (K : D → Option α) : Option α := (d.val).bind fun v => (ix.val).bind fun n => match v with
  | .string s => match n with
    | .int .i64 n => (idxI s.data.toList n).bind fun b => K (scal (.int .u8 b.toNat))
    | _ => none
  | _ => none

section ops
variable {c : Ctx} {B : Base} {s : Sit} {x : X} {a : Act} {w : World}

theorem scal_rep (v : Value) (h : v.oneCell' = true) : RepD w s (scal v) v := .v _ _ (.c _ _ (.k _ _ (.v v h)))

theorem D.val_sound {d : D} {v u : Value} (h : RepD w s d v) (hd : d.val = some u) : v = u ∧ u.oneCell' = true := by
  unfold D.val at hd
  split at hd
  · simp only [Option.some.injEq] at hd
    subst hd
    cases h with
    | v _ _ h => cases h with
      | c _ _ h => cases h with
        | k _ _ h => cases h with
          | v _ h1 => exact ⟨rfl, h1⟩
          | box _ _ _ hb => simp [T.shBox?] at hb
  · simp at hd

theorem addOff_sound {y z : C} {v : Value} {f : Nat} (h : RepC w s y v) (hz : addOff y f = some z) : ∃ b o, v = .pointer (some ⟨b, o, none⟩) ∧ RepC w s z (.pointer (some ⟨b, o + f, none⟩)) := by
  cases h with
  | pt r p i j sz x0 b hΦ hb =>
    simp only [addOff, Option.some.injEq] at hz
    subst hz
    exact ⟨b, _, rfl, by rw [Nat.add_assoc, Nat.add_assoc]; exact .pt r p i (j + f) sz x0 b hΦ hb⟩
  | rq fl cs j b off vs hR hc hr =>
    simp only [addOff, Option.some.injEq] at hz
    subst hz
    exact ⟨b, _, rfl, by rw [Nat.add_assoc]; exact .rq fl cs (j + f) b off vs hR hc hr⟩
  | k t v h =>
    simp only [addOff] at hz
    obtain ⟨⟨fl, cs⟩, h1, rfl⟩ := Option.map_eq_some_iff.mp hz
    cases h with
    | box _ f' cs' hb' b off vs hR hc hr =>
      rw [h1] at hb'
      simp only [Option.some.injEq, Prod.mk.injEq] at hb'
      obtain ⟨rfl, rfl⟩ := hb'
      exact ⟨b, off, rfl, .rq fl cs f b off vs hR hc hr⟩
    | _ => simp [T.shBox?] at h1
  | _ => simp [addOff] at hz

theorem fieldAddr_sound {t : TypeId} {f : Nat} {d e : D} {v : Value} (h : RepD w s d v) (he : fieldAddrD c t f d = some e) :
    ∃ u, (∀ w', (Instr.fieldAt t v f).run c.P w' = .ok u w') ∧ RepD w s e u := by
  unfold fieldAddrD at he
  obtain ⟨i, e1, he⟩ := Option.bind_eq_some_iff.mp he
  have hok := c.hTy t i e1
  split at he
  · rename_i fs hfs
    obtain ⟨fields, hu, hmap⟩ := hok.struct hfs
    obtain ⟨ft, e2, he⟩ := Option.bind_eq_some_iff.mp he
    obtain ⟨fi, e3, he⟩ := Option.bind_eq_some_iff.mp he
    have hokf := c.hTy _ fi e3
    split at he
    · cases he
    · rename_i n hsz
      split at he
      · rename_i y
        obtain ⟨z, e4, rfl⟩ := Option.map_eq_some_iff.mp he
        cases h with
        | v _ _ h => cases h with
          | c _ _ h =>
            obtain ⟨b, o, rfl, hz⟩ := addOff_sound h e4
            refine ⟨_, ?_, .v _ _ (.c _ _ hz)⟩
            intro w'
            rw [nth_eq, ← hmap, List.getElem?_map] at e2
            obtain ⟨fld, e5, rfl⟩ := Option.map_eq_some_iff.mp e2
            have e6 : fields[f]? = some fld := by simpa using e5
            have hne : ¬ fi.size = 0 := by omega
            simp only [Instr.fieldAt, Sem.run_bind, run_underlying hu, Result.andThen_ok, e6, Instr.sureAddr, Sem.run_pure, fieldPlace, hokf.run_sizeOf, Sem.run_ite, if_neg hne, addr_add]
      · cases he
  · cases he

/-- An owned slice, in memory. -/
theorem place_slice (h : RelW B s x a w) {r : Nat} {p : Path} {t : T} {e : Ty} {n : Nat} {f : Nat → Nat → Option T} (hX : SlX t e n f) (hp : x.at r p = some t) {v : Value} (hv : s.Φ r p = some v) :
    ∃ ad cap, v = .slice ad n cap ∧ n ≤ cap ∧ (0 < cap → ∃ b off, ad = some ⟨b, off, none⟩ ∧ blkOf v = some b ∧ offOf v = off) := by
  unfold X.at at hp
  obtain ⟨row, h1, h2⟩ := Option.bind_eq_some_iff.mp hp
  obtain ⟨y0, hy0⟩ := h.roots r row h1
  obtain ⟨y, hy⟩ := getT_own p hy0 h2
  have hv' : ((s.Φ r).under p) [] = some v := by rw [Lay.under_apply_nil]; exact hv
  rcases hy.toX hX with ⟨ad, -, hn, h0, -, -⟩ | ⟨b, off, cap, arr, el, vs, -, hb, hcap, hsz, hc', hr, h0, hn'⟩
  · rw [h0, Option.some.injEq] at hv'
    subst hv'
    exact ⟨ad, 0, by rw [hn], by omega, fun h => by omega⟩
  · rw [h0, Option.some.injEq] at hv'
    subst hv'
    exact ⟨_, cap + 1, rfl, hcap, fun _ => ⟨b, off, rfl, rfl, rfl⟩⟩

/-- Where an owned slice lies its value stands. -/
theorem place_val (h : RelW B s x a w) {r : Nat} {p : Path} {e : Ty} {xs : List (den e)} (hp : x.at r p = some (.sl .own e xs)) : ∃ v, s.Φ r p = some v := by
  unfold X.at at hp
  obtain ⟨row, h1, h2⟩ := Option.bind_eq_some_iff.mp hp
  obtain ⟨y0, hy0⟩ := h.roots r row h1
  obtain ⟨y, hy⟩ := getT_own p hy0 h2
  rw [← Lay.under_apply_nil (s.Φ r) p]
  generalize (s.Φ r).under p = φ at hy
  cases hy with
  | sh _ _ _ ht => simp [T.isSh] at ht
  | nil e ad φ h0 hn => exact ⟨_, h0⟩
  | sl e xs b off cap arr el vs φ hb hcap hsz hc hr h0 hn => exact ⟨_, h0⟩
  | box _ cs ht => simp [T.box?] at ht

theorem Lawful.idxC (x : X) (y : C) (sz : Nat) (n : Int) : Lawful fun _ K => idxCK x y sz n K := by
  unfold idxCK
  split
  · exact .comp (.at _ _ _) fun t => .bind _ fun en => by
      split
      · exact .cond _ (.pure _) .none
      · exact .none
  · split
    · exact .cond _ (.pure _) .none
    · exact .none
  · split
    · exact .none
    · split
      · exact .bind _ fun b => .pure _
      · exact .none
    · exact .none
  · exact .none

theorem Lawful.idxA (y : C) (sz m : Nat) (n : Int) : Lawful fun _ K => idxAK y sz m n K := by
  unfold idxAK
  split
  · split
    · exact .bind _ fun b => .pure _
    · exact .none
  · exact .none

theorem Lawful.indexAddr (cx : Ctx) (x : X) (t : TypeId) (d ix : D) : Lawful fun _ K => indexAddrK cx x t d ix K := by
  unfold indexAddrK
  refine .bind _ fun i => ?_
  split
  · refine .bind _ fun n => ?_
    split
    · split
      · exact .bind _ fun ei => .comp (.idxC _ _ _ _) fun z => .pure _
      · exact .bind _ fun ei => .comp (.idxA _ _ _ _) fun z => .pure _
      · exact .none
    · exact .none
  · exact .none

/-- One element of a shared slice. -/
theorem shared_row {f : Fl} {e : Ty} {xs : List (den e)} {v : Value} (h : RepR w s.S (.sl f e xs) v) {i : Nat} {b : den e} (hi : xs[i]? = some b) :
    ∃ bl off cap, v = .slice (some ⟨bl, off, none⟩) xs.length cap ∧ RepC w s (.rq f (cells f e b) 0) (.pointer (some ⟨bl, off + i * e.size, none⟩)) := by
  cases h with
  | nil => simp at hi
  | sl _ _ _ bl off cap vs hR hcap hc hr =>
    refine ⟨bl, off, cap, rfl, ?_⟩
    have hcell : ∀ (j : Nat) t, (cells f e b)[j]? = some t → cellOf (rows f e xs) i j = some t := fun j t e' => by rw [cellOf_rows, hi, Option.bind_some, nth_eq]; exact e'
    have := RepC.rq (w := w) (s := s) f (cells f e b) 0 bl (off + i * e.size) (fun j => vs i j) hR (fun j t e' => by rw [← hc i j t (hcell j t e')]) (fun j t e' => hr i j t (hcell j t e'))
    simpa using this
  | box _ _ _ hb => simp [T.shBox?] at hb

theorem idxC_sound (h : RelW B s x a w) {y : C} {v : Value} (hv : RepC w s y v) {sz : Nat} {n : Int} {K : C → Option α} {r : α} (hl : idxCK x y sz n K = some r) :
    ∃ z b o m cap, K z = some r ∧ v = .slice (some ⟨b, o, none⟩) m cap ∧ 0 ≤ n ∧ n < (m : Int) ∧ RepC w s z (.pointer (some ⟨b, o + n.toNat * sz, none⟩)) := by
  unfold idxCK at hl
  split at hl
  · rename_i r0 p e0
    obtain ⟨t, h1, hl⟩ := atK_some hl
    obtain ⟨en, hen, hl⟩ := Option.bind_eq_some_iff.mp hl
    obtain ⟨f, hX⟩ := slN_X hen
    split at hl
    · rename_i hsz
      have hsz := Nat.eq_of_beq_eq_true hsz
      rcases cond_some hl with ⟨hb, hl⟩ | ⟨_, hl⟩
      · obtain ⟨h0, hlt, hlt'⟩ := inB_spec hb
        cases hv with
        | own _ _ _ _ hΦ =>
          obtain ⟨ad, cap, rfl, hcap, hblk⟩ := place_slice h hX h1 hΦ
          obtain ⟨b, off, had, hbk, hoff⟩ := hblk (by omega)
          subst had
          refine ⟨_, b, off, _, cap, hl, rfl, h0, hlt, ?_⟩
          have := RepC.pt (w := w) (s := s) r0 p n.toNat 0 sz _ b hΦ hbk
          rw [hoff] at this
          simpa using this
      · cases hl
    · cases hl
  · rename_i r0 p lo m e
    split at hl
    · rename_i hsz
      have hsz := Nat.eq_of_beq_eq_true hsz
      rcases cond_some hl with ⟨hb, hl⟩ | ⟨_, hl⟩
      · obtain ⟨h0, hlt, hlt'⟩ := inB_spec hb
        cases hv with
        | sub _ _ _ _ _ ad a' n0 cap cap' hΦ hle hcap hcn hcc h00 hn =>
          obtain ⟨b, off, rfl, rfl⟩ := hn (by omega)
          refine ⟨_, b, off + lo * e.size, _, cap', hl, rfl, h0, hlt, ?_⟩
          have hbk : blkOf (.slice (some ⟨b, off, none⟩) n0 cap) = some b := by
            cases cap with
            | zero => omega
            | succ cap => rfl
          have := RepC.pt (w := w) (s := s) r0 p (lo + n.toNat) 0 sz _ b hΦ hbk
          rw [hsz]
          rw [Nat.add_mul, Nat.add_zero, ← Nat.add_assoc] at this
          exact this
      · cases hl
    · cases hl
  · split at hl
    · cases hl
    · rename_i t f e xs hf
      split at hl
      · rename_i hsz
        have hsz := Nat.eq_of_beq_eq_true hsz
        obtain ⟨b, hb, hl⟩ := Option.bind_eq_some_iff.mp hl
        obtain ⟨h0, hi, hlt⟩ := idxI_some hb
        cases hv with
        | k _ _ hv =>
          obtain ⟨bl, off, cap, rfl, hrow⟩ := shared_row hv hi
          exact ⟨_, bl, off, _, cap, hl, rfl, h0, hlt, by rw [← hsz]; exact hrow⟩
      · cases hl
    · cases hl
  · cases hl

theorem idxA_sound {y : C} {v : Value} (hv : RepC w s y v) {sz m : Nat} {n : Int} {K : C → Option α} {r : α} (hl : idxAK y sz m n K = some r) :
    ∃ z b o, K z = some r ∧ v = .pointer (some ⟨b, o, none⟩) ∧ 0 ≤ n ∧ n < (m : Int) ∧ RepC w s z (.pointer (some ⟨b, o + n.toNat * sz, none⟩)) := by
  unfold idxAK at hl
  split at hl
  · rename_i e xs
    split at hl
    · rename_i hm
      simp only [Bool.and_eq_true] at hm
      have hsz := Nat.eq_of_beq_eq_true hm.1
      have hle := Nat.le_of_ble_eq_true hm.2
      obtain ⟨b, hb, hl⟩ := Option.bind_eq_some_iff.mp hl
      obtain ⟨h0, hi, hlt⟩ := idxI_some hb
      cases hv with
      | ra _ _ _ hv => cases hv with
        | ga _ _ bl off vs hR hc hr =>
          refine ⟨_, bl, off, hl, rfl, h0, by omega, ?_⟩
          have hcell : ∀ (j : Nat) t, (cells .ro e b)[j]? = some t → cellOf (rows .ro e xs) n.toNat j = some t := fun j t e' => by rw [cellOf_rows, hi, Option.bind_some, nth_eq]; exact e'
          have := RepC.rq (w := w) (s := s) .ro (cells .ro e b) 0 bl (off + n.toNat * e.size) (fun j => vs n.toNat j) hR (fun j t e' => by rw [← hc _ j t (hcell j t e')]) (fun j t e' => hr _ j t (hcell j t e'))
          rw [← hsz]
          simpa using this
        | box _ _ _ hb => simp [T.shBox?] at hb
    · cases hl
  · cases hl

theorem indexAddr_sound (h : RelW B s x a w) {t : TypeId} {d ix : D} {v u : Value} (hv : RepD w s d v) (hx : RepD w s ix u) {K : D → Option α} {r : α} (he : indexAddrK c x t d ix K = some r) :
    ∃ e z, K e = some r ∧ (∀ w', (Instr.indexAt t v u).run c.P w' = .ok z w') ∧ RepD w s e z := by
  unfold indexAddrK at he
  obtain ⟨i, e1, he⟩ := Option.bind_eq_some_iff.mp he
  have hok := c.hTy t i e1
  split at he
  · rename_i y
    obtain ⟨n0, hn0, he⟩ := Option.bind_eq_some_iff.mp he
    obtain ⟨rfl, -⟩ := D.val_sound hx hn0
    cases hv with
    | v _ _ hv => cases hv with
      | c _ _ hv =>
        split at he
        · rename_i n
          split at he
          · rename_i el hel
            have hu := hok.slice hel
            obtain ⟨ei, e2, he⟩ := Option.bind_eq_some_iff.mp he
            have hoke := c.hTy _ ei e2
            obtain ⟨z, b, o, m, cap, hK, rfl, h0, hlt, hz⟩ := idxC_sound h hv he
            refine ⟨_, _, hK, ?_, .v _ _ (.c _ _ hz)⟩
            intro w'
            simp only [Instr.indexAt, asIntOf, Sem.run_bind, Sem.run_pure, Result.andThen_ok, run_underlying hu]
            simp [h0, hlt, hoke.run_sizeOf, addr_add]
          · rename_i m el hel
            have hu := hok.array hel
            obtain ⟨ei, e2, he⟩ := Option.bind_eq_some_iff.mp he
            have hoke := c.hTy _ ei e2
            obtain ⟨z, b, o, hK, rfl, h0, hlt, hz⟩ := idxA_sound hv he
            refine ⟨_, _, hK, ?_, .v _ _ (.c _ _ hz)⟩
            intro w'
            simp only [Instr.indexAt, asIntOf, Sem.run_bind, Sem.run_pure, Result.andThen_ok, run_underlying hu, Instr.sureAddr]
            simp [h0, hlt, hoke.run_sizeOf, addr_add]
          · cases he
        · cases he
  · cases he

theorem Lawful.lenC (x : X) (y : C) : Lawful fun _ K => lenCK x y K := by
  unfold lenCK
  split
  · exact .comp (.at _ _ _) fun t => .bind _ fun en => .pure _
  · exact .pure _
  · split
    · exact .none
    · exact .pure _
    · exact .none
  · exact .pure _
  · exact .none

theorem lenC_sound (h : RelW B s x a w) {y : C} {v : Value} (hv : RepC w s y v) {K : Nat → Option α} {r : α} (hl : lenCK x y K = some r) :
    ∃ n ad cap, K n = some r ∧ v = .slice ad n cap ∧ n ≤ cap := by
  unfold lenCK at hl
  split at hl
  · obtain ⟨t, h1, hl⟩ := atK_some hl
    obtain ⟨en, hen, hl⟩ := Option.bind_eq_some_iff.mp hl
    obtain ⟨f, hX⟩ := slN_X hen
    cases hv with
    | own _ _ _ _ hΦ =>
      obtain ⟨ad, cap, rfl, hcap, _⟩ := place_slice h hX h1 hΦ
      exact ⟨_, ad, cap, hl, rfl, hcap⟩
  · cases hv with
    | sub _ _ _ _ _ _ _ _ _ _ _ _ _ hcn => exact ⟨_, _, _, hl, rfl, hcn⟩
  · split at hl
    · cases hl
    · cases hv with
      | k _ _ hv => cases hv with
        | nil => exact ⟨_, _, _, hl, rfl, Nat.zero_le _⟩
        | sl _ _ _ _ _ _ _ _ hcap => exact ⟨_, _, _, hl, rfl, hcap⟩
        | box _ _ _ hb => simp [T.shBox?] at hb
    · cases hl
  · cases hv with
    | nil => exact ⟨_, _, _, hl, rfl, Nat.le_refl _⟩
  · cases hl

theorem Lawful.len (cx : Ctx) (x : X) (t : TypeId) (d : D) : Lawful fun _ K => lenK cx x t d K := by
  unfold lenK
  refine .bind _ fun i => ?_
  split
  · split
    · exact .comp (.lenC _ _) fun n => .pure _
    · exact .none
  · refine .bind _ fun v => ?_
    split
    · exact .pure _
    · exact .none
  · exact .none

theorem len_sound (h : RelW B s x a w) {t ty : TypeId} {d : D} {v : Value} (hv : RepD w s d v) {K : D → Option α} {r : α} (he : lenK c x t d K = some r) :
    ∃ e z, K e = some r ∧ (∀ w', (Builtin.len_ #[t] ty #[v]).run c.P w' = .ok z w') ∧ RepD w s e z := by
  unfold lenK at he
  obtain ⟨i, hi, he⟩ := Option.bind_eq_some_iff.mp he
  have hok := c.hTy t i hi
  split at he
  · rename_i el hel
    have hu := hok.slice hel
    split at he
    · cases hv with
      | v _ _ hv => cases hv with
        | c _ _ hv =>
          obtain ⟨n, ad, cap, hK, rfl, -⟩ := lenC_sound h hv he
          exact ⟨_, .int .i64 n, hK, by intro w'; simp [Builtin.len_, run_underlying hu, goInt], scal_rep _ rfl⟩
    · cases he
  · rename_i hs
    have hu := hok.string hs
    obtain ⟨v0, hv0, he⟩ := Option.bind_eq_some_iff.mp he
    split at he
    · rename_i st
      obtain ⟨rfl, -⟩ := D.val_sound hv hv0
      exact ⟨_, .int .i64 st.data.toList.length, he, by intro w'; simp [Builtin.len_, run_underlying hu, goInt], scal_rep _ rfl⟩
    · cases he
  · cases he

theorem field_sound {t : TypeId} {f : Nat} {d e : D} {v : Value} (h : RepD w s d v) (he : fieldD c t f d = some e) :
    ∃ u, (∀ w', (Instr.field t v f).run c.P w' = .ok u w') ∧ RepD w s e u := by
  unfold fieldD at he
  obtain ⟨i, e1, he⟩ := Option.bind_eq_some_iff.mp he
  have hok := c.hTy t i e1
  split at he
  · rename_i fs hfs
    obtain ⟨fields, hu, hmap⟩ := hok.struct hfs
    obtain ⟨ft, e2, he⟩ := Option.bind_eq_some_iff.mp he
    obtain ⟨fi, e3, he⟩ := Option.bind_eq_some_iff.mp he
    have hokf := c.hTy _ fi e3
    rw [nth_eq, ← hmap, List.getElem?_map] at e2
    obtain ⟨fld, e5, rfl⟩ := Option.map_eq_some_iff.mp e2
    have e6 : fields[f]? = some fld := by simpa using e5
    split at he
    · rename_i cs
      cases h with
      | v _ _ h => cases h with
        | ag _ arr hs hc =>
          cases ha : fi.d.isAgg with
          | true =>
            rw [ha] at he
            obtain ⟨l, e4, rfl⟩ := Option.map_eq_some_iff.mp he
            obtain ⟨hlen, hg⟩ := part_some e4
            refine ⟨.agg (arr.extract fld.offset (fld.offset + fi.size)), ?_, .v _ _ (.ag _ _ ?_ (fun j y hj => ?_))⟩
            · intro w'
              simp only [Instr.field, Sem.run_bind, run_underlying hu, Result.andThen_ok, e6, asAgg, Sem.run_pure, Go.part, hokf.run_isAgg, ha, Sem.run_ite, if_true, hokf.run_sizeOf]
            · simp only [Array.size_extract, hs, hlen]
              obtain ⟨h2, h3⟩ := takeN_some e4
              rw [dropN_eq] at h3
              simp only [List.length_drop] at h3
              by_cases hz : fi.size = 0
              · omega
              · omega
            · obtain ⟨hlt, hy⟩ := hg j y hj
              obtain ⟨u, h1, h2⟩ := hc _ _ hy
              refine ⟨u, ?_, h2⟩
              have hb := (Array.getElem?_eq_some_iff.mp h1).1
              rw [Array.getElem?_extract, if_pos (by omega)]
              exact h1
          | false =>
            rw [ha] at he
            obtain ⟨y, e4, rfl⟩ := Option.map_eq_some_iff.mp he
            rw [nth_eq] at e4
            obtain ⟨u, h1, h2⟩ := hc _ _ e4
            refine ⟨u, ?_, .v _ _ (.c _ _ h2)⟩
            intro w'
            simp only [Instr.field, Sem.run_bind, run_underlying hu, Result.andThen_ok, e6, asAgg, Sem.run_pure, Go.part, hokf.run_isAgg, ha, Sem.run_ite, Bool.false_eq_true, if_false, h1]
    · cases he
  · cases he

theorem extract_sound {d e : D} {j : Nat} {v : Value} (h : RepD w s d v) (he : extractD d j = some e) :
    ∃ u, (∀ w', (Instr.extract v j).run c.P w' = .ok u w') ∧ RepD w s e u := by
  unfold extractD at he
  split at he
  · obtain ⟨y, e4, rfl⟩ := Option.map_eq_some_iff.mp he
    rw [nth_eq] at e4
    cases h with
    | tup _ arr hs hc =>
      obtain ⟨u, h1, h2⟩ := hc _ _ e4
      exact ⟨u, by intro w'; simp [Instr.extract, h1], .v _ _ h2⟩
  · cases he

theorem Lawful.byte (d ix : D) : Lawful fun _ K => byteK d ix K := by
  unfold byteK
  refine .bind _ fun v => .bind _ fun n => ?_
  split
  · split
    · exact .bind _ fun b => .pure _
    · exact .none
  · exact .none

theorem byte_sound {t : TypeId} {d ix : D} {v u : Value} (h : RepD w s d v) (hx : RepD w s ix u) (ht : ∃ i, look c.Ty t = some i ∧ i.d = .str) {K : D → Option α} {r : α} (he : byteK d ix K = some r) :
    ∃ e z, K e = some r ∧ (∀ w', (Instr.index t v u).run c.P w' = .ok z w') ∧ RepD w s e z := by
  obtain ⟨i, hi, hd⟩ := ht
  have hu := (c.hTy t i hi).string hd
  unfold byteK at he
  obtain ⟨v0, h1, he⟩ := Option.bind_eq_some_iff.mp he
  obtain ⟨n0, h2, he⟩ := Option.bind_eq_some_iff.mp he
  obtain ⟨rfl, -⟩ := D.val_sound h h1
  obtain ⟨rfl, -⟩ := D.val_sound hx h2
  split at he
  · rename_i st _
    split at he
    · rename_i n
      obtain ⟨b, hb, he⟩ := Option.bind_eq_some_iff.mp he
      obtain ⟨h0, hi, hlt⟩ := idxI_some hb
      refine ⟨_, .int .u8 b.toNat, he, ?_, scal_rep _ rfl⟩
      intro w'
      have e4 : st[n.toNat]? = some b := by
        have hlt2 := (List.getElem?_eq_some_iff.mp hi).1
        have hs : n.toNat < st.size := hlt2
        rw [getElem?_pos st n.toNat hs]
        rw [List.getElem?_eq_getElem hlt2] at hi
        simp only [Option.some.injEq] at hi ⊢
        rw [← hi]
        rfl
      simp only [Instr.index, asIntOf, Sem.run_bind, Sem.run_pure, Result.andThen_ok, run_underlying hu, if_pos h0, e4]
    · cases he
  · cases he

end ops
end Go.V
