/- A library of typed data in memory: A law's arguments as typed data, and its answer. From a function's meaning to a law's row. Package-level tables: what they hold when a law is called. Package-level variables of all sorts; functions whose contract is known. Functions of the library whose contracts the kit has, as functions whose meaning is known. A builder's methods: what they do to the builder. A law that holds of arguments that meet a condition. No conditions. -/
import Derived.Test.YtmcaghldcabnnaaDoorLibJ
import Derived.Carry
import Derived.ChangeArms
import Derived.ChangeSlices
import Derived.SizedLaws
import Derived.OpenShut
import Derived.ChangeCalls
import Derived.Handed
import Derived.LaidLaws
import Derived.MakeChecks
import Derived.LaidMore
import Derived.Stop.Joined
import Derived.HandedShaped
import Derived.Lib.AtoiAll
import Derived.Lib.ItoaNum
import Derived.Lib.Bytealg
import Derived.Lib.ConvBytes
import Derived.Lib.LaidTab
import Derived.Sort.Grow
import Derived.Deep.Draws
import Derived.Lib.UnsafeStr
import Derived.Below
import Derived.Deep.DeepHandedRow
/-! A law's arguments as typed data, and its answer. -/
namespace Go.V
open Go.RowKit Go.ChangeShapes
/-! ### types of arguments -/
def fieldsB (g : TypeId → Ty → Bool) : Nat → List Field → Ty → Bool
  | _, [], e => match e with
    | .unit => true
    | _ => false
  | off, f :: fs, e => match fs with
    | [] => and (Nat.beq f.offset off) (g f.type e)
    | _ :: _ => match e with
      | .pair a b => and (Nat.beq f.offset off) (and (g f.type a) (fieldsB g (off + a.size) fs b))
      | _ => false
/-- The type is this one. -/
def fitsB (P : Program) : Nat → TypeId → Ty → Bool
  | 0, _, _ => false
  | n + 1, t, e => and (Nat.beq (P.cellsOf t) e.size) (match P.underlying t with
    | some (.int k) => match e with
      | .int k' => kindEq k k'
      | _ => false
    | some .bool => match e with
      | .bool => true
      | _ => false
    | some .string => match e with
      | .str => true
      | _ => false
    | some (.slice t') => match e with
      | .sl e' => and (and (Nat.ble 1 e'.size) (Nat.ble 1 (P.bytesOf t'))) (fitsB P n t' e')
      | _ => false
    | some (.struct fs) => fieldsB (fitsB P n) 0 fs.toList e
    | _ => false)
def okL {β : Type} (m : Nat) (p : β → Prop) (xs : List β) : Prop := xs.length ≤ m ∧ ∀ x ∈ xs, p x
/-- What data of a type may be. -/
def okD : (e : Ty) → den e → Prop
  | .int k, n => (Lit.int k n).wf = true
  | .str, l => l.length ≤ maxLen
  | .sl e, xs => okL maxLen (okD e) xs
  | .rsl e, xs => okL maxLen (okD e) xs
  | .ptr e, d => okD e d
  | .pair a b, d => okD a d.1 ∧ okD b d.2
  | _, _ => True
/-- How long a slice is. -/
def lenD : (e : Ty) → den e → Nat
  | .sl _, xs => xs.length
  | _, _ => 0
def isSl (P : Program) (t : TypeId) : Bool := match P.underlying t with
  | some (.slice _) => true
  | _ => false
def oldS (w : World) : Fl → Nat → Prop := fun f b => f = .bo ∧ b < w.heap.size
section
variable {H : Type} {enc : TypeId × Value → H} {P : Program} {w : World} {base : Nat} {spare : Nat → Bool} {held : Bool}
/-- Cells that hold typed data. -/
def HasD (w : World) (e : Ty) (cs : List Value) (d : den e) : Prop := okD e d ∧ ∀ (j : Nat) t, (cells .bo e d)[j]? = some t → ∃ u, cs[j]? = some u ∧ RepR w (oldS w) t u
theorem fields_has {g : TypeId → Ty → Bool} {n : Nat} {cs : List Value}
    (hg : ∀ t e, g t e = true → ∀ cs' x, DataW.trod enc P w base spare held n t cs' = some x → P.cellsOf t = e.size ∧ cs'.length = e.size ∧ ∃ d, HasD w e cs' d)  :
    ∀ (fs : List Field) (off : Nat) (e : Ty), fieldsB g off fs e = true → (∀ f ∈ fs, ∃ x, DataW.trod enc P w base spare held n f.type ((cs.drop f.offset).take (P.cellsOf f.type)) = some x) →
      ∃ d : den e, okD e d ∧ ∀ (j : Nat) t, (cells .bo e d)[j]? = some t → ∃ u, cs[off + j]? = some u ∧ RepR w (oldS w) t u := by
  intro fs
  induction fs with
  | nil =>
    intro off e he _
    cases e <;> simp [fieldsB] at he
    exact ⟨(), trivial, fun j t h => by simp [cells] at h⟩
  | cons f fs ih =>
    intro off e he hx
    obtain ⟨x, hx0⟩ := hx f List.mem_cons_self
    have at_ : ∀ {a : Ty} {d : den a}, f.offset = off → P.cellsOf f.type = a.size → HasD w a ((cs.drop f.offset).take (P.cellsOf f.type)) d → ∀ (j : Nat) t, (cells .bo a d)[j]? = some t → ∃ u, cs[off + j]? = some u ∧ RepR w (oldS w) t u := by
      intro a d ho hc hd j t ht
      obtain ⟨u, h1, h2⟩ := hd.2 j t ht
      have hj : j < a.size := by have := (List.getElem?_eq_some_iff.mp ht).1; rwa [length_cells] at this
      rw [List.getElem?_take, if_pos (by omega), List.getElem?_drop, ho] at h1
      exact ⟨u, h1, h2⟩
    cases fs with
    | nil =>
      simp only [fieldsB, Bool.and_eq_true] at he
      have ho := Nat.eq_of_beq_eq_true he.1
      obtain ⟨hc, -, d, hd⟩ := hg _ _ he.2 _ _ hx0
      exact ⟨d, hd.1, at_ ho hc hd⟩
    | cons f' fs' =>
      cases e with
      | pair a b =>
        simp only [fieldsB, Bool.and_eq_true] at he
        have ho := Nat.eq_of_beq_eq_true he.1
        obtain ⟨hc, -, d, hd⟩ := hg _ _ he.2.1 _ _ hx0
        obtain ⟨d', hd1, hd2⟩ := ih (off + a.size) b he.2.2 (fun f hf => hx f (List.mem_cons_of_mem _ hf))
        refine ⟨(d, d'), ⟨hd.1, hd1⟩, fun j t ht => ?_⟩
        simp only [cells, app_eq] at ht
        by_cases hj : j < a.size
        · rw [List.getElem?_append_left (by rw [length_cells]; exact hj)] at ht
          exact at_ ho hc hd j t ht
        · rw [List.getElem?_append_right (by rw [length_cells]; omega), length_cells] at ht
          obtain ⟨u, h1, h2⟩ := hd2 _ t ht
          exact ⟨u, by rw [show off + j = off + a.size + (j - a.size) by omega]; exact h1, h2⟩
      | _ => simp [fieldsB] at he
theorem pick_all {β γ : Type} {R : Nat → γ → Prop} : ∀ (n : Nat), (∀ i, i < n → ∃ d, R i d) → ∃ xs : List γ, xs.length = n ∧ ∀ i d, xs[i]? = some d → R i d
  | 0, _ => ⟨[], rfl, fun i d h => by simp at h⟩
  | n + 1, h => by
    obtain ⟨xs, h1, h2⟩ := pick_all (β := β) n (fun i hi => h i (by omega))
    obtain ⟨d, hd⟩ := h n (by omega)
    refine ⟨xs ++ [d], by simp [h1], fun i d' hi => ?_⟩
    by_cases e : i < n
    · rw [List.getElem?_append_left (by omega)] at hi; exact h2 i d' hi
    · have hlt := (List.getElem?_eq_some_iff.mp hi).1
      simp [h1] at hlt
      have : i = n := by omega
      subst this
      rw [List.getElem?_append_right (by omega), h1] at hi
      simp at hi
      subst hi; exact hd
theorem trod_has : ∀ (n : Nat) (t : TypeId) (e : Ty), fitsB P n t e = true → ∀ (fuel : Nat) (cs : List Value) (x : DataW H × List MemPlace), DataW.trod enc P w base spare held fuel t cs = some x →
    P.cellsOf t = e.size ∧ cs.length = e.size ∧ ∃ d, HasD w e cs d ∧ (isSl P t = true → (∀ n ∈ x.1.weights P t, n ≤ reachBytes) → lenD e d ≤ reachBytes) := by
  intro n
  induction n with
  | zero => intro t e h; cases h
  | succ n ih =>
    intro t e h fuel cs x hx
    unfold fitsB at h
    simp only [Bool.and_eq_true] at h
    obtain ⟨hc, h⟩ := h
    have hc := Nat.eq_of_beq_eq_true hc
    refine ⟨hc, ?_⟩
    have one : ∀ {e : Ty} {d : den e} {u : Value}, e.size = 1 → okD e d → (∀ t, (cells .bo e d)[0]? = some t → RepR w (oldS w) t u) → HasD w e [u] d := by
      intro e d u hs ho hr
      refine ⟨ho, fun j t ht => ?_⟩
      have := (List.getElem?_eq_some_iff.mp ht).1
      rw [length_cells, hs] at this
      have : j = 0 := by omega
      subst this
      exact ⟨u, rfl, hr t ht⟩
    split at h
    · rename_i k hu
      cases e <;> simp at h
      rw [← kindEq_eq h]
      obtain ⟨n, rfl, -, hw⟩ := DataW.trod_int hu hx
      refine ⟨rfl, n, one rfl hw (fun t ht => ?_), fun _ _ => Nat.zero_le _⟩
      simp only [cells, List.getElem?_cons_zero, Option.some.injEq] at ht
      subst ht; exact .v _ rfl
    · rename_i hu
      cases e <;> simp at h
      obtain ⟨b, rfl, -⟩ := DataW.trod_bool hu hx
      refine ⟨rfl, b, one rfl trivial (fun t ht => ?_), fun _ _ => Nat.zero_le _⟩
      simp only [cells, List.getElem?_cons_zero, Option.some.injEq] at ht
      subst ht; exact .v _ rfl
    · rename_i hu
      cases e <;> simp at h
      obtain ⟨s, rfl, -, hs⟩ := DataW.trod_string hu hx
      refine ⟨rfl, s.data.toList, one rfl (by simpa [okD] using hs) (fun t ht => ?_), fun _ _ => Nat.zero_le _⟩
      simp only [cells, List.getElem?_cons_zero, Option.some.injEq] at ht
      subst ht; exact .v _ rfl
    · rename_i t' hu
      cases e with
      | sl e' =>
        simp only [Bool.and_eq_true] at h
        obtain ⟨⟨h1, hby⟩, h2⟩ := h
        have h1 := Nat.le_of_ble_eq_true h1
        have hby := Nat.le_of_ble_eq_true hby
        rcases DataW.trod_slice hu hx with ⟨rfl, -⟩ | ⟨a, len, cap, elems, rest, m, -, rfl, hxe, hb, hl, hm, hlen, hel, -, -⟩
        · refine ⟨rfl, [], one rfl ⟨Nat.zero_le _, fun x hx => by simp at hx⟩ (fun t ht => ?_), fun _ _ => Nat.zero_le _⟩
          simp only [cells, List.getElem?_cons_zero, Option.some.injEq] at ht
          subst ht; exact .nil _ _ _ _
        · have each : ∀ i, i < len → ∃ d : den e', okD e' d ∧ ∀ (j : Nat) t, (cells .bo e' d)[j]? = some t → ∃ u, w.cell? (a.add (i * e'.size + j)) = some u ∧ RepR w (oldS w) t u := by
            intro i hi
            have hi' := hel i hi
            rw [List.getElem?_eq_getElem (by omega)] at hi'
            obtain ⟨cs', k1, k2⟩ := Option.bind_eq_some_iff.mp hi'
            obtain ⟨c1, c2, d, ⟨hd1, hd2⟩, -⟩ := ih t' e' h2 m cs' _ k2
            refine ⟨d, hd1, fun j t ht => ?_⟩
            obtain ⟨u, u1, u2⟩ := hd2 j t ht
            have hj : j < e'.size := by have := (List.getElem?_eq_some_iff.mp ht).1; rwa [length_cells] at this
            obtain ⟨-, -, g3⟩ := World.cells?_some k1
            have := g3 j (by omega)
            rw [u1, c1] at this
            refine ⟨u, ?_, u2⟩
            rw [← this]
            congr 1
            by_cases hz : i * e'.size = 0
            · simp [Addr.add, hz]
            · by_cases hj0 : j = 0
              · subst hj0; simp [Addr.add]
              · simp only [Addr.add, hz, hj0, if_false]
                rw [if_neg (by omega), Nat.add_assoc]
          obtain ⟨xs, hxl, hxs⟩ := pick_all (β := Unit) len each
          refine ⟨rfl, xs, one rfl ⟨by omega, fun x hx => ?_⟩ (fun t ht => ?_), fun _ hz => ?_⟩
          rotate_left 2
          · have h9 := hz ((elems.length + rest.length) * P.bytesOf t') (by rw [hxe]; simp [DataW.weights, hu])
            have h8 : elems.length + rest.length ≤ (elems.length + rest.length) * P.bytesOf t' := Nat.le_mul_of_pos_right _ hby
            show xs.length ≤ reachBytes
            omega
          · obtain ⟨i, hi⟩ := List.getElem?_of_mem hx
            exact (hxs i x hi).1
          · simp only [cells, List.getElem?_cons_zero, Option.some.injEq] at ht
            subst ht
            cases hxs0 : xs with
            | nil =>
              rw [hxs0] at hxl
              simp only [List.length_nil] at hxl
              subst hxl
              exact .nil _ _ _ _
            | cons x0 xs0 =>
              rw [← hxs0]
              have h0 : xs[0]? = some x0 := by rw [hxs0]; rfl
              obtain ⟨-, hc0⟩ := hxs 0 x0 h0
              have hl0 : 0 < (cells .bo e' x0).length := by rw [length_cells]; omega
              obtain ⟨u0, hu0, -⟩ := hc0 0 _ (List.getElem?_eq_getElem hl0)
              rw [Nat.zero_mul, Nat.add_zero] at hu0
              have ha : a.add 0 = a := by simp [Addr.add]
              rw [ha] at hu0
              obtain ⟨b, off, spot⟩ := a
              have hspot : spot = none := by
                unfold World.cell? at hu0
                split at hu0
                · split at hu0
                  · cases hu0
                  · rename_i hsp
                    cases spot with
                    | none => rfl
                    | some z => exact absurd rfl hsp
                · cases hu0
              subst hspot
              have hblt : b < w.heap.size := World.block_lt_of_cell? w _ hu0
              have hcell : ∀ i j t, cellOf (rows .bo e' xs) i j = some t → ∃ u, w.cell? ⟨b, off + i * e'.size + j, none⟩ = some u ∧ RepR w (oldS w) t u := by
                intro i j t ht
                rw [cellOf_rows] at ht
                obtain ⟨d, d1, d2⟩ := Option.bind_eq_some_iff.mp ht
                rw [nth_eq] at d2
                obtain ⟨u, v1, v2⟩ := (hxs i d d1).2 j t d2
                refine ⟨u, ?_, v2⟩
                rw [← v1]
                congr 1
                unfold Addr.add
                split
                · rename_i hz; rw [Nat.add_assoc, hz]; rfl
                · rw [Nat.add_assoc]
              rw [← hxl]
              refine .sl _ _ xs b off cap (fun i j => (w.cell? ⟨b, off + i * e'.size + j, none⟩).getD .nilIface) ⟨rfl, hblt⟩ (by omega) (fun i j t ht => ?_) (fun i j t ht => ?_)
              · obtain ⟨u, v1, -⟩ := hcell i j t ht
                rw [v1]; rfl
              · obtain ⟨u, v1, v2⟩ := hcell i j t ht
                rw [v1]; exact v2
      | _ => simp at h
    · rename_i fs hu
      obtain ⟨xs, m, -, -, hl, hlen, hall⟩ := DataW.trod_struct hu hx
      refine ⟨hl.trans hc, ?_⟩
      obtain ⟨d, hd1, hd2⟩ := fields_has (enc := enc) (P := P) (w := w) (base := base) (spare := spare) (held := held) (g := fitsB P n) (n := m) (cs := cs) (fun t e ht cs' x hx => by
        obtain ⟨g1, g2, d, g3, -⟩ := ih t e ht m cs' x hx
        exact ⟨g1, g2, d, g3⟩) fs.toList 0 e h (fun f hf => by
        obtain ⟨i, hi⟩ := List.getElem?_of_mem hf
        have hi : fs[i]? = some f := by simpa using hi
        have := hall i f hi
        have hlt : i < xs.length := by rw [hlen]; exact (Array.getElem?_eq_some_iff.mp hi).1
        rw [List.getElem?_eq_getElem hlt] at this
        exact ⟨_, this⟩)
      refine ⟨d, ⟨hd1, fun j t ht => ?_⟩, fun hsl _ => ?_⟩
      · have := hd2 j t ht
        rwa [Nat.zero_add] at this
      · unfold isSl at hsl
        rw [hu] at hsl; cases hsl
    · cases h
end
end Go.V
/-! From a function's meaning to a law's row. -/
namespace Go.V
open Go.RowKit Go.ChangeShapes
/-- The parameters are these. -/
def fitsAll (P : Program) : List TypeId → List PS → Bool
  | [], [] => true
  | t :: ts, p :: ps => and (fitsB P 64 t p.e) (and (isBo p.f) (and (match P.underlying t with
    | some (.struct _) => p.agg
    | some (.int _) => !p.agg
    | some .bool => !p.agg
    | some .string => !p.agg
    | some (.slice _) => !p.agg
    | _ => false) (fitsAll P ts ps)))
  | _, _ => false
def okA : (l : List PS) → den (argTy l) → Prop
  | [], _ => True
  | [p], d => okD p.e d
  | p :: q :: l, d => okD p.e d.1 ∧ okA (q :: l) d.2
/-- Slices of a size that may be reached. -/
def okZ : List Bool → (l : List PS) → den (argTy l) → Prop
  | _, [], _ => True
  | bs, [p], d => bs.headD false = true → lenD p.e d ≤ reachBytes
  | bs, p :: q :: l, d => (bs.headD false = true → lenD p.e d.1 ≤ reachBytes) ∧ okZ bs.tail (q :: l) d.2
section
variable {H : Type} {enc : TypeId × Value → H} {P : Program} {w : World} {base : Nat} {spare : Nat → Bool} {held : Bool}
def oldSit (w : World) : Sit := { S := oldS w, Φ := fun _ => noLay, F := fun _ _ _ _ => False }
theorem param_rep {b0 : Nat} {t : TypeId} {p : PS} {v : Value} {d0 : DataW H} {ps : List MemPlace} (hfit : fitsB P 64 t p.e = true) (hbo : isBo p.f = true)
    (hagg : (match P.underlying t with
      | some (.struct _) => p.agg
      | some (.int _) => !p.agg
      | some .bool => !p.agg
      | some .string => !p.agg
      | some (.slice _) => !p.agg
      | _ => false) = true) (hval : Value.okWide P w .any b0 t v) (hd : DataW.Trod enc P w base spare held t v d0 ps) : ∃ d, (okD p.e d ∧ RepD w (oldSit w) (paramD p d) v) ∧ (isSl P t = true → (∀ n ∈ d0.weights P t, n ≤ reachBytes) → lenD p.e d ≤ reachBytes) := by
  obtain ⟨fuel, hf⟩ := hd
  obtain ⟨-, hlen, d, ⟨hd1, hd2⟩, hz⟩ := trod_has 64 t p.e hfit fuel _ _ hf
  have hpf : p.f = .bo := by
    cases hp : p.f <;> rw [hp] at hbo <;> first | rfl | cases hbo
  refine ⟨d, ⟨hd1, ?_⟩, hz⟩
  unfold paramD
  rw [hpf]
  have scalar : p.agg = false → v.cells = #[v] → RepD w (oldSit w) (.v (.c (.k (oneT (cells .bo p.e d))))) v := by
    intro _ hv
    rw [hv] at hlen hd2
    have hl := length_cells .bo p.e d
    rw [← hlen] at hl
    match hc : cells .bo p.e d, hl with
    | [t0], _ =>
      obtain ⟨u, h1, h2⟩ := hd2 0 t0 (by rw [hc]; rfl)
      simp only [List.getElem?_cons_zero, Option.some.injEq] at h1
      subst h1
      exact .v _ _ (.c _ _ (.k _ _ h2))
  have noagg : (∀ fs, P.underlying t ≠ some (.struct fs)) → (∀ n e, P.underlying t ≠ some (.array n e)) → (∀ ms, P.underlying t ≠ some (.interface ms)) → (∀ k e, P.underlying t ≠ some (.map k e)) → Cell.okWide P w .any b0 t v → v.cells = #[v] := by
    intro h1 h2 h3 h4 hv
    cases v with
    | agg cs =>
      unfold Cell.okWide at hv
      split at hv <;> rename_i e1 e2 <;> first | (cases e2; done) | (unfold Cell.ok at hv; split at hv <;> first | (rename_i e2 e3; cases e3; done) | exact hv.elim)
    | _ => rfl
  cases hu : P.underlying t with
  | none => rw [hu] at hagg; cases hagg
  | some td =>
    rw [hu] at hagg
    have ns : (∀ fs, td ≠ .struct fs) → (∀ n e, td ≠ .array n e) → (∀ ms, td ≠ .interface ms) → (∀ k e, td ≠ .map k e) → v.cells = #[v] := by
      intro h1 h2 h3 h4
      refine noagg (fun fs e => h1 fs (by rw [hu] at e; exact Option.some.inj e)) (fun n t e => h2 n t (by rw [hu] at e; exact Option.some.inj e)) (fun n e => h3 n (by rw [hu] at e; exact Option.some.inj e)) (fun n t e => h4 n t (by rw [hu] at e; exact Option.some.inj e)) ?_
      unfold Value.okWide at hval
      rw [hu] at hval
      split at hval
      · rename_i e; exact absurd (Option.some.inj e) (h1 _)
      · rename_i e; exact absurd (Option.some.inj e) (h2 _ _)
      · exact hval
    cases td with
    | struct fs =>
      simp only at hagg
      rw [hagg]
      unfold Value.okWide at hval
      rw [hu] at hval
      obtain ⟨cs, rfl, hs, -⟩ := hval
      refine .v _ _ (.ag _ cs ?_ (fun j y e => ?_))
      · rw [mapL_eq, List.length_map, length_cells]
        simpa [Value.cells] using hlen
      · rw [mapL_eq, List.getElem?_map] at e
        obtain ⟨t0, e1, rfl⟩ := Option.map_eq_some_iff.mp e
        obtain ⟨u, h1, h2⟩ := hd2 j t0 e1
        exact ⟨u, by simpa [Value.cells] using h1, .k _ _ h2⟩
    | int k => simp only [Bool.not_eq_true'] at hagg; rw [hagg]; exact scalar hagg (ns (fun _ h => by cases h) (fun _ _ h => by cases h) (fun _ h => by cases h) (fun _ _ h => by cases h))
    | bool => simp only [Bool.not_eq_true'] at hagg; rw [hagg]; exact scalar hagg (ns (fun _ h => by cases h) (fun _ _ h => by cases h) (fun _ h => by cases h) (fun _ _ h => by cases h))
    | string => simp only [Bool.not_eq_true'] at hagg; rw [hagg]; exact scalar hagg (ns (fun _ h => by cases h) (fun _ _ h => by cases h) (fun _ h => by cases h) (fun _ _ h => by cases h))
    | slice e => simp only [Bool.not_eq_true'] at hagg; rw [hagg]; exact scalar hagg (ns (fun _ h => by cases h) (fun _ _ h => by cases h) (fun _ h => by cases h) (fun _ _ h => by cases h))
    | _ => cases hagg
theorem params_rep {b0 : Nat} : ∀ (ts : List TypeId) (l : List PS) (vs : List Value) (ds : List (DataW H)) (ps : List MemPlace), fitsAll P ts l = true → DataW.TrodAll enc P w base spare held ts vs ds ps →
    (∀ (j : Nat) t v, ts[j]? = some t → vs[j]? = some v → Value.okWide P w .any b0 t v) →
    ∃ d : den (argTy l), okA l d ∧ vs.length = l.length ∧ (∀ (j : Nat) D, (paramsD l d)[j]? = some D → ∃ v, vs[j]? = some v ∧ RepD w (oldSit w) D v) ∧
      ((∀ (j : Nat) t d, ts[j]? = some t → ds[j]? = some d → ∀ n ∈ d.weights P t, n ≤ reachBytes) → okZ (ts.map (isSl P)) l d)
  | [], [], vs, ds, ps, _, h, _ => by
    obtain ⟨rfl, -, -⟩ := trodAll_nil h
    exact ⟨(), trivial, rfl, fun j D e => by simp [paramsD] at e, fun _ => trivial⟩
  | t :: ts, p :: l, vs, ds, ps, hfit, h, hval => by
    simp only [fitsAll, Bool.and_eq_true] at hfit
    obtain ⟨f1, f2, f3, f4⟩ := hfit
    obtain ⟨v, vs', d0, ds', p0, q0, rfl, rfl, rfl, h0, hr⟩ := trodAll_cons h
    obtain ⟨d, ⟨o1, o2⟩, oz⟩ := param_rep f1 f2 f3 (hval 0 t v rfl rfl) h0
    obtain ⟨e, m1, m2, m3, mz⟩ := params_rep ts l vs' ds' q0 f4 hr (fun j t v h1 h2 => hval (j + 1) t v (by simpa using h1) (by simpa using h2))
    cases l with
    | nil =>
      refine ⟨d, o1, by simpa using m2, fun j D hD => ?_, fun hz hb => oz hb (hz 0 t d0 rfl rfl)⟩
      have hD : [paramD p d][j]? = some D := hD
      cases j with
      | zero => simp only [List.getElem?_cons_zero, Option.some.injEq] at hD; subst hD; exact ⟨_, rfl, o2⟩
      | succ j => simp at hD
    | cons q l =>
      refine ⟨(d, e), ⟨o1, m1⟩, by simpa using m2, fun j D hD => ?_, fun hz => ⟨fun hb => oz hb (hz 0 t d0 rfl rfl), mz fun j t d h1 h2 => hz (j + 1) t d (by simpa using h1) (by simpa using h2)⟩⟩
      have hD : (paramD p d :: paramsD (q :: l) e)[j]? = some D := hD
      cases j with
      | zero => simp only [List.getElem?_cons_zero, Option.some.injEq] at hD; subst hD; exact ⟨_, rfl, o2⟩
      | succ j =>
        obtain ⟨v, g1, g2⟩ := m3 j D (by simpa using hD)
        exact ⟨v, by simpa using g1, g2⟩
  | [], _ :: _, _, _, _, hfit, _, _ => by cases hfit
  | _ :: _, [], _, _, _, hfit, _, _ => by cases hfit
/-- Arguments that lie below read as they did. -/
theorem args_stay (hl : laidOutB P = true) {w' : World} (hb : Below w.heap.size w w') : ∀ {ts : List TypeId} {vs : List Value} {ds : List (DataW H)} {ps : List MemPlace},
    ts.all (fun t => and (P.readableRec t) (decide (t < P.types.size))) = true → DataW.TrodAll enc P w 0 (fun _ => true) true ts vs ds ps → DataW.TrodAll enc P w' 0 (fun b => decide (b < w.heap.size)) true ts vs ds ps := by
  intro ts
  induction ts with
  | nil =>
    intro vs ds ps _ h
    obtain ⟨rfl, rfl, rfl⟩ := trodAll_nil h
    exact trodAll_mk0
  | cons t ts ih =>
    intro vs ds ps hr h
    have hlt := h.lt
    obtain ⟨v, vs', d0, ds', p0, q0, rfl, rfl, rfl, h0, hrest⟩ := trodAll_cons h
    simp only [List.all_cons, Bool.and_eq_true, decide_eq_true_eq] at hr
    exact trodAll_cons_mk (hb.trod hl hr.1.1 hr.1.2 h0 (fun x hx => hlt x (List.mem_append.2 (.inl hx)))) (ih hr.2 hrest)
end
/-! ### what is known -/
theorem Known.nil {P : Program} {G : List (Nat × T)} : Known P G [] := fun f F h => by cases h
theorem Known.cons {P : Program} {G : List (Nat × T)} {f : FuncId} {F : Fn} {Δ : List (Nat × Fn)} {fn : Func} (h : SoundA P G f F.sg F.sem) (hf : P.funcs[f]? = some fn) (hb : fn.body.isSome = true) (hn : (fn.name == "runtime.NumGoroutine") = false)
    (hk : Known P G Δ) : Known P G ((f, F) :: Δ) := by
  intro f' F' h'
  rw [look_cons] at h'
  split at h'
  · rename_i e
    simp only [Option.some.injEq] at h'
    subst e h'
    exact ⟨h, fn, hf, hb, hn⟩
  · exact hk f' F' h'
theorem SoundF.none {P : Program} {G : List (Nat × T)} {f : FuncId} {sg : Sig} : SoundF P G f sg fun _ => Option.none := by
  intro w s vs d r _ _ _ _ _ _ _ h
  cases h
open Classical in
/-- What a function that calls itself comes to, after however many rounds. -/
noncomputable def limR {α β : Type} (r : Nat → α → Option β) (a : α) : Option β := if h : ∃ n, (r n a).isSome = true then r (Classical.choose h) a else Option.none
theorem limR_some {α β : Type} {r : Nat → α → Option β} {a : α} {b : β} (h : limR r a = some b) : ∃ n, r n a = some b := by
  unfold limR at h
  split at h
  · exact ⟨_, h⟩
  · cases h
theorem SoundF.lim {P : Program} {G : List (Nat × T)} {f : FuncId} {sg : Sig} {r : Nat → den (argTy sg.ps) → Option (den (resTy sg.rs))} (h : ∀ n, SoundF P G f sg (r n)) : SoundF P G f sg (limR r) := by
  intro w s vs d q h1 h2 h3 h4 h5 h6 h7 h8
  obtain ⟨n, hn⟩ := limR_some h8
  exact h n w s vs d q h1 h2 h3 h4 h5 h6 h7 hn
theorem SoundM.none {P : Program} {G : List (Nat × T)} {f : FuncId} {sg : Sig} : SoundM P G f sg fun _ => Option.none := by
  intro w s vs d r _ _ _ h
  cases h
theorem SoundM.lim {P : Program} {G : List (Nat × T)} {f : FuncId} {sg : Sig} {r : Nat → den (argTy sg.ps) → Option (den (resTy sg.rs))} (h : ∀ n, SoundM P G f sg (r n)) : SoundM P G f sg (limR r) := by
  intro w s vs d q h1 h2 h3 h4
  obtain ⟨n, hn⟩ := limR_some h4
  exact h n w s vs d q h1 h2 h3 hn
theorem inlOk_of {P : Program} {I : List (Nat × Func)} (h : ∀ e ∈ I, P.funcs[e.1]? = some e.2 ∧ (e.2.name == "runtime.NumGoroutine") = false) :
    ∀ f fn, look I f = some fn → P.funcs[f]? = some fn ∧ (fn.name == "runtime.NumGoroutine") = false := by
  intro f fn hf
  induction I with
  | nil => cases hf
  | cons e l ih =>
    rw [look_cons] at hf
    by_cases ht : f = e.1
    · rw [if_pos ht, Option.some.injEq] at hf
      subst ht hf
      exact h e List.mem_cons_self
    · rw [if_neg ht] at hf
      exact ih (fun e he => h e (List.mem_cons_of_mem _ he)) hf
theorem tyOk_of {P : Program} {Ty : List (Nat × TyInfo)} (h : ∀ e ∈ Ty, TyOk1 P e.1 e.2) : TyOk P Ty := by
  intro t i hi
  induction Ty with
  | nil => cases hi
  | cons e l ih =>
    rw [look_cons] at hi
    by_cases ht : t = e.1
    · rw [if_pos ht, Option.some.injEq] at hi
      subst ht hi
      exact h e List.mem_cons_self
    · rw [if_neg ht] at hi
      exact ih (fun e he => h e (List.mem_cons_of_mem _ he)) hi
end Go.V
/-! Package-level tables: what they hold when a law is called. -/
namespace Go.V
open Go.RowKit Go.ChangeShapes
/-! ### a datum as typed data -/
def datF {H : Type} (g : TypeId → (e : Ty) → DataW H → Option (den e)) : List Field → (e : Ty) → List (DataW H) → Option (den e)
  | [], e, xs => match e with
    | .unit => match xs with
      | [] => some ()
      | _ :: _ => none
    | _ => none
  | f :: fs, e, xs => match xs with
    | [] => none
    | x :: xs => match fs with
      | [] => match xs with
        | [] => g f.type e x
        | _ :: _ => none
      | f' :: fs' => match e with
        | .pair a b => (g f.type a x).bind fun d => (datF g (f' :: fs') b xs).map fun d' => (d, d')
        | _ => none
def dat {H : Type} (P : Program) : Nat → TypeId → (e : Ty) → DataW H → Option (den e)
  | 0, _, _, _ => none
  | n + 1, t, e, x => match P.underlying t with
    | some (.int _) => match e with
      | .int _ => match x with
        | .lit (.int _ m) => some m
        | _ => none
      | _ => none
    | some .bool => match e with
      | .bool => match x with
        | .lit (.bool b) => some b
        | _ => none
      | _ => none
    | some .string => match e with
      | .str => match x with
        | .lit (.string l) => some l
        | _ => none
      | _ => none
    | some (.struct fs) => match x with
      | .agg xs => datF (dat P n) fs.toList e xs
      | _ => none
    | _ => none
def datL {H : Type} (P : Program) (n : Nat) (t : TypeId) (e : Ty) : List (DataW H) → Option (List (den e))
  | [] => some []
  | x :: xs => (dat P n t e x).bind fun d => (datL P n t e xs).map fun l => d :: l
section
variable {H : Type} {enc : TypeId × Value → H} {P : Program} {w : World} {base : Nat} {spare : Nat → Bool} {held : Bool} {S : Fl → Nat → Prop} {f : Fl}
def DatD (w : World) (S : Fl → Nat → Prop) (f : Fl) (e : Ty) (cs : List Value) (d : den e) : Prop := ∀ (j : Nat) t, (cells f e d)[j]? = some t → ∃ u, cs[j]? = some u ∧ RepR w S t u
theorem fields_dat {g : TypeId → Ty → Bool} {gd : TypeId → (e : Ty) → DataW H → Option (den e)} {n : Nat} {cs : List Value}
    (hg : ∀ t e, g t e = true → ∀ cs' x d, DataW.trod enc P w base spare held n t cs' = some x → gd t e x.1 = some d → P.cellsOf t = e.size ∧ DatD w S f e cs' d) :
    ∀ (fs : List Field) (off : Nat) (e : Ty) (ys : List (DataW H × List MemPlace)) (d : den e), fieldsB g off fs e = true → ys.length = fs.length →
      (∀ (i : Nat) fl, fs[i]? = some fl → DataW.trod enc P w base spare held n fl.type ((cs.drop fl.offset).take (P.cellsOf fl.type)) = ys[i]?) → datF gd fs e (ys.map (·.1)) = some d →
      ∀ (j : Nat) t, (cells f e d)[j]? = some t → ∃ u, cs[off + j]? = some u ∧ RepR w S t u := by
  intro fs
  induction fs with
  | nil =>
    intro off e ys d he _ _ hd j t ht
    cases e <;> simp [fieldsB] at he
    simp [cells] at ht
  | cons fl fs ih =>
    intro off e ys d he hl hx hd j t ht
    cases ys with
    | nil => simp at hl
    | cons y ys =>
      have hy := hx 0 fl rfl
      simp only [List.getElem?_cons_zero] at hy
      have at_ : ∀ {a : Ty} {d : den a}, fl.offset = off → P.cellsOf fl.type = a.size → DatD w S f a ((cs.drop fl.offset).take (P.cellsOf fl.type)) d → ∀ (j : Nat) t, (cells f a d)[j]? = some t → ∃ u, cs[off + j]? = some u ∧ RepR w S t u := by
        intro a d ho hc hd j t ht
        obtain ⟨u, h1, h2⟩ := hd j t ht
        have hj : j < a.size := by have := (List.getElem?_eq_some_iff.mp ht).1; rwa [length_cells] at this
        rw [List.getElem?_take, if_pos (by omega), List.getElem?_drop, ho] at h1
        exact ⟨u, h1, h2⟩
      cases fs with
      | nil =>
        simp only [fieldsB, Bool.and_eq_true] at he
        have ho := Nat.eq_of_beq_eq_true he.1
        have : ys = [] := by simpa using hl
        subst this
        have hd : gd fl.type e y.1 = some d := hd
        obtain ⟨hc, hdd⟩ := hg _ _ he.2 _ _ _ hy hd
        exact at_ ho hc hdd j t ht
      | cons fl' fs' =>
        cases e with
        | pair a b =>
          simp only [fieldsB, Bool.and_eq_true] at he
          have ho := Nat.eq_of_beq_eq_true he.1
          have hd : (gd fl.type a y.1).bind (fun d => (datF gd (fl' :: fs') b (ys.map (·.1))).map fun d' => (d, d')) = some d := hd
          obtain ⟨d1, h1, h2⟩ := Option.bind_eq_some_iff.mp hd
          obtain ⟨d2, h3, rfl⟩ := Option.map_eq_some_iff.mp h2
          obtain ⟨hc, hdd⟩ := hg _ _ he.2.1 _ _ _ hy h1
          have htail := ih (off + a.size) b ys d2 he.2.2 (by simpa using hl) (fun i fl0 hi => by have := hx (i + 1) fl0 (by simpa using hi); simpa using this) h3
          simp only [cells, app_eq] at ht
          by_cases hj : j < a.size
          · rw [List.getElem?_append_left (by rw [length_cells]; exact hj)] at ht
            exact at_ ho hc hdd j t ht
          · rw [List.getElem?_append_right (by rw [length_cells]; omega), length_cells] at ht
            obtain ⟨u, h1, h2⟩ := htail _ t ht
            exact ⟨u, by rw [show off + j = off + a.size + (j - a.size) by omega]; exact h1, h2⟩
        | _ => simp [fieldsB] at he
theorem dat_has : ∀ (n : Nat) (t : TypeId) (e : Ty), fitsB P n t e = true → ∀ (fuel : Nat) (cs : List Value) (x : DataW H × List MemPlace) (d : den e), DataW.trod enc P w base spare held fuel t cs = some x → dat P n t e x.1 = some d →
    P.cellsOf t = e.size ∧ DatD w S f e cs d := by
  intro n
  induction n with
  | zero => intro t e h; cases h
  | succ n ih =>
    intro t e h fuel cs x d hx hd
    unfold fitsB at h
    simp only [Bool.and_eq_true] at h
    obtain ⟨hc, h⟩ := h
    have hc := Nat.eq_of_beq_eq_true hc
    refine ⟨hc, ?_⟩
    have one : ∀ {e : Ty} {d : den e} {u : Value}, e.size = 1 → (∀ t, (cells f e d)[0]? = some t → RepR w S t u) → DatD w S f e [u] d := by
      intro e d u hs hr j t ht
      have := (List.getElem?_eq_some_iff.mp ht).1
      rw [length_cells, hs] at this
      have : j = 0 := by omega
      subst this
      exact ⟨u, rfl, hr t ht⟩
    unfold dat at hd
    split at h
    · rename_i k hu
      rw [hu] at hd
      cases e <;> simp at h
      obtain ⟨m, rfl, hx1, -⟩ := DataW.trod_int hu hx
      rw [hx1] at hd
      have hd := Option.some.inj hd
      subst hd
      refine one rfl (fun t ht => ?_)
      simp only [cells, List.getElem?_cons_zero, Option.some.injEq] at ht
      subst ht; rw [kindEq_eq h]; exact .v _ rfl
    · rename_i hu
      rw [hu] at hd
      cases e <;> simp at h
      obtain ⟨b, rfl, hx1⟩ := DataW.trod_bool hu hx
      rw [hx1] at hd
      have hd := Option.some.inj hd
      subst hd
      refine one rfl (fun t ht => ?_)
      simp only [cells, List.getElem?_cons_zero, Option.some.injEq] at ht
      subst ht; exact .v _ rfl
    · rename_i hu
      rw [hu] at hd
      cases e <;> simp at h
      obtain ⟨s, rfl, hx1, -⟩ := DataW.trod_string hu hx
      rw [hx1] at hd
      have hd := Option.some.inj hd
      subst hd
      refine one rfl (fun t ht => ?_)
      simp only [cells, List.getElem?_cons_zero, Option.some.injEq] at ht
      subst ht; exact .v _ rfl
    · rename_i t' hu
      rw [hu] at hd
      cases hd
    · rename_i fs hu
      rw [hu] at hd
      obtain ⟨xs, m, -, hx1, hl, hlen, hall⟩ := DataW.trod_struct hu hx
      rw [hx1] at hd
      have hd : datF (dat P n) fs.toList e (xs.map (·.1)) = some d := hd
      have := fields_dat (enc := enc) (P := P) (w := w) (base := base) (spare := spare) (held := held) (S := S) (f := f) (g := fitsB P n) (gd := dat P n) (n := m) (cs := cs) (fun t e ht cs' x d hx hd => ih t e ht m cs' x d hx hd) fs.toList 0 e xs d h (by simpa using hlen)
        (fun i fl hi => hall i fl (by simpa using hi)) hd
      intro j t ht
      have := this j t ht
      rwa [Nat.zero_add] at this
    · cases h
theorem datL_get {n : Nat} {t : TypeId} {e : Ty} : ∀ {xs : List (DataW H)} {l : List (den e)}, datL P n t e xs = some l → l.length = xs.length ∧ ∀ (i : Nat) d, l[i]? = some d → ∃ x, xs[i]? = some x ∧ dat P n t e x = some d
  | [], l, h => by
    simp only [datL, Option.some.injEq] at h
    subst h
    exact ⟨rfl, fun i d hd => by simp at hd⟩
  | x :: xs, l, h => by
    obtain ⟨d0, h1, h2⟩ := Option.bind_eq_some_iff.mp h
    obtain ⟨l', h3, rfl⟩ := Option.map_eq_some_iff.mp h2
    obtain ⟨g1, g2⟩ := datL_get h3
    refine ⟨by simp [g1], fun i d hd => ?_⟩
    cases i with
    | zero => simp only [List.getElem?_cons_zero, Option.some.injEq] at hd; subst hd; exact ⟨x, rfl, h1⟩
    | succ i => exact g2 i d (by simpa using hd)
/-- A table holds what is said. -/
theorem table_rep {nm : String} {g : Nat} {cs : Array Value} {t e : TypeId} {n : Nat} {el : Ty} {fuel : Nat} {D : List (DataW H)} {p : List MemPlace} {xs : List (den el)} (hg : P.globalNamed nm = some g) (hv : w.var? P nm = some cs)
    (hd : DataW.trod enc P w base spare held fuel t cs.toList = some (.agg D, p)) (ht : P.underlying t = some (.array n e)) (hcs : P.cellsOf t = n * el.size) (hf : fitsB P 64 e el = true) (hD : datL P 64 e el D = some xs) (hS : S .ro g) :
    RepR w S (.ga el xs) (.pointer (some ⟨g, 0, none⟩)) := by
  obtain ⟨ys, m, -, hx, hl, hlen, hel⟩ := DataW.trod_array ht hd
  simp only [Prod.mk.injEq, DataW.agg.injEq] at hx
  obtain ⟨rfl, -⟩ := hx
  obtain ⟨l1, l2⟩ := datL_get hD
  rw [List.length_map] at l1
  have hcell : ∀ i j t, cellOf (rows .ro el xs) i j = some t → ∃ u, w.cell? ⟨g, 0 + i * el.size + j, none⟩ = some u ∧ RepR w S t u := by
    intro i j t ht
    rw [cellOf_rows] at ht
    obtain ⟨d, d1, d2⟩ := Option.bind_eq_some_iff.mp ht
    rw [nth_eq] at d2
    obtain ⟨x, e1, e2⟩ := l2 i d d1
    rw [List.getElem?_map] at e1
    obtain ⟨y, e3, rfl⟩ := Option.map_eq_some_iff.mp e1
    have hi : i < n := by have := (List.getElem?_eq_some_iff.mp e3).1; omega
    have := hel i hi
    rw [e3] at this
    obtain ⟨hc, hdd⟩ := dat_has (S := S) (f := .ro) 64 e el hf m _ y d this e2
    obtain ⟨u, u1, u2⟩ := hdd j t d2
    have hj : j < el.size := by have := (List.getElem?_eq_some_iff.mp d2).1; rwa [length_cells] at this
    rw [List.getElem?_take, if_pos (by omega), List.getElem?_drop, hc] at u1
    refine ⟨u, ?_, u2⟩
    rw [World.var?_cell hg hv, Nat.zero_add, ← Array.getElem?_toList]
    exact u1
  have hblk : ∃ arr el' fz, w.heap[g]? = some (.cells arr el' fz) ∧ arr.size = 0 + xs.length * el.size := by
    unfold World.var? at hv
    rw [hg, Option.bind_some] at hv
    split at hv
    · rename_i cs' t' fz hb
      simp only [Option.some.injEq] at hv
      subst hv
      refine ⟨_, _, _, hb, ?_⟩
      rw [l1, hlen, Nat.zero_add, ← hcs, ← hl, Array.length_toList]
    · cases hv
  refine .ga el xs g 0 (fun i j => (w.cell? ⟨g, 0 + i * el.size + j, none⟩).getD .nilIface) hS hblk (fun i j t ht => ?_) (fun i j t ht => ?_)
  · obtain ⟨u, u1, -⟩ := hcell i j t ht
    rw [u1]; rfl
  · obtain ⟨u, u1, u2⟩ := hcell i j t ht
    rw [u1]; exact u2
/-! ### laws that read tables -/
def tabS (w : World) (G : List (Nat × T)) : Fl → Nat → Prop := fun f b => (f = .bo ∧ b < w.heap.size) ∨ (f = .ro ∧ b < w.heap.size ∧ (look G b).isSome = true)
end
end Go.V
/-! Package-level variables of all sorts; functions whose contract is known. -/
namespace Go.V
open Go.RowKit Go.ChangeShapes
/-! ### variables that are laid -/
def ReadsAs (P : Program) (w : World) (n : String) (g : Nat) (t : TypeId) (d : DataW Unit) : Prop :=
  ∃ cs fuel p, P.globalNamed n = some g ∧ w.var? P n = some cs ∧ DataW.trod (fun _ => ()) P w 0 (fun _ => true) false fuel t cs.toList = some (d, p)
theorem reads_of_laid {P : Program} {w : World} {n : String} {d : DataW Unit} {g : Nat} {t : TypeId} (hg : P.globalNamed n = some g) (ht : (P.globals[g]?).map (·.type) = some t) :
    ∀ {l : List (String × DataW Unit)} {ps : List MemPlace}, DataW.LaidVars P w l ps → (n, d) ∈ l → ReadsAs P w n g t d
  | [], _, _, hm => by cases hm
  | (n', d') :: l, _, h, hm => by
    obtain ⟨g0, t0, cs, fuel, p, q, h1, h2, h3, h4, h5, -⟩ := h
    rcases List.mem_cons.1 hm with e | hm
    · simp only [Prod.mk.injEq] at e
      obtain ⟨rfl, rfl⟩ := e
      obtain rfl := Option.some.inj (hg.symm.trans h1)
      obtain rfl := Option.some.inj (ht.symm.trans h2)
      exact ⟨cs, fuel, p, h1, h3, h4⟩
    · exact reads_of_laid hg ht h5 hm
theorem reads_of {P : Program} {w : World} {laid : List (String × DataW Unit)} (hp : (laid.all fun x => x.2.handleName?.isNone) = true) (h : laidMetH P laid w) {n : String} {d : DataW Unit} {g : Nat} {t : TypeId}
    (hg : P.globalNamed n = some g) (ht : (P.globals[g]?).map (·.type) = some t) (hm : (n, d) ∈ laid) : ReadsAs P w n g t d := by
  rw [MakeChecks.laidMetH_plain _ _ _ hp] at h
  obtain ⟨ps, h, _⟩ := h
  exact reads_of_laid hg ht h hm
theorem var_lt {P : Program} {w : World} {n : String} {g : Nat} {cs : Array Value} (hg : P.globalNamed n = some g) (hv : w.var? P n = some cs) : g < w.heap.size := by
  unfold World.var? at hv
  rw [hg, Option.bind_some] at hv
  split at hv
  · rename_i hb
    exact (Array.getElem?_eq_some_iff.1 hb).1
  · cases hv
/-- A table. -/
theorem table_of {P : Program} {w : World} {nm : String} {g : Nat} {t e : TypeId} {n : Nat} {el : Ty} {D : List (DataW Unit)} {xs : List (den el)} {G : List (Nat × T)} (h : ReadsAs P w nm g t (.agg D))
    (ht : P.underlying t = some (.array n e)) (hcs : P.cellsOf t = n * el.size) (hf : fitsB P 64 e el = true) (hD : datL P 64 e el D = some xs) (hS : (look G g).isSome = true) :
    RepR w (tabS w G) (.ga el xs) (.pointer (some ⟨g, 0, none⟩)) := by
  obtain ⟨cs, fuel, p, h1, h2, h3⟩ := h
  exact table_rep h1 h2 h3 ht hcs hf hD (.inr ⟨rfl, var_lt h1 h2, hS⟩)
/-- An error, or another interface's value that is there. -/
theorem iface_of {P : Program} {w : World} {nm tn : String} {g : Nat} {t : TypeId} {d : DataW Unit} {G : List (Nat × T)} (h : ReadsAs P w nm g t (.iface tn d))
    (ht : (match P.underlying t with | some (.interface _) => true | _ => false) = true) (hS : (look G g).isSome = true) :
    RepR w (tabS w G) (.pp .ro [.ifc false]) (.pointer (some ⟨g, 0, none⟩)) := by
  obtain ⟨cs, fuel, p, h1, h2, h3⟩ := h
  obtain ⟨ms, ht⟩ : ∃ ms, P.underlying t = some (.interface ms) := by
    split at ht
    · rename_i ms e; exact ⟨ms, e⟩
    · cases ht
  have hcs : ∃ u v, cs.toList = [.iface u v] := by
    cases fuel with
    | zero => simp [DataW.trod] at h3
    | succ m =>
      unfold DataW.trod at h3
      rw [ht] at h3
      split at h3 <;> simp_all
  obtain ⟨u, v, hcs⟩ := hcs
  have hlt := var_lt h1 h2
  have hc : w.cell? ⟨g, 0, none⟩ = some (.iface u v) := by
    rw [World.var?_cell h1 h2, ← Array.getElem?_toList, hcs]; rfl
  refine .box _ .ro [.ifc false] rfl g 0 (fun _ => .iface u v) (.inr ⟨rfl, hlt, hS⟩) (fun j t' e' => ?_) (fun j t' e' => ?_)
  · cases j with
    | zero => exact hc
    | succ j => simp at e'
  · cases j with
    | zero => simp only [List.getElem?_cons_zero, Option.some.injEq] at e'; subst e'; exact .ifcS u v
    | succ j => simp at e'
/-! ### functions of plain values whose contract is known -/
def scalV : (e : Ty) → den e → Value
  | .int k, n => .int k n
  | .bool, b => .bool b
  | .str, l => .string ⟨⟨l⟩⟩
  | _, _ => .nilIface
def plainB : Ty → Bool
  | .int _ => true
  | .bool => true
  | .str => true
  | _ => false
theorem cells_scal {f : Fl} {e : Ty} (h : plainB e = true) (d : den e) : cells f e d = [.v (scalV e d)] ∧ (scalV e d).oneCell' = true := by
  cases e <;> simp [plainB] at h <;> exact ⟨rfl, rfl⟩
def argVs : (l : List PS) → den (argTy l) → List Value
  | [], _ => []
  | [p], d => [scalV p.e d]
  | p :: q :: l, d => scalV p.e d.1 :: argVs (q :: l) d.2
def scalP (p : PS) : Bool := and (!p.agg) (plainB p.e)
theorem param_scal {w : World} {s : Sit} {p : PS} {d : den p.e} {v : Value} (hp : scalP p = true) (h : RepD w s (paramD p d) v) : v = scalV p.e d := by
  simp only [scalP, Bool.and_eq_true, Bool.not_eq_true'] at hp
  unfold paramD at h
  rw [hp.1, (cells_scal hp.2 d).1] at h
  cases h with
  | v _ _ h => cases h with
    | c _ _ h => cases h with
      | k _ _ h => cases h with
        | v _ _ => rfl
        | box _ _ _ hb => cases hb
theorem args_scal {w : World} {s : Sit} : ∀ {ps : List PS} {d : den (argTy ps)} {vs : List Value}, ps.all scalP = true → vs.length = ps.length →
    (∀ (j : Nat) D, (paramsD ps d)[j]? = some D → ∃ v, vs[j]? = some v ∧ RepD w s D v) → vs = argVs ps d
  | [], d, vs, _, hl, _ => by have h0 : vs = [] := by simpa using hl
                              exact h0
  | [p], d, vs, hp, hl, h => by
    match vs, hl with
    | [v], _ =>
      obtain ⟨v', h1, h2⟩ := h 0 (paramD p d) rfl
      simp only [List.getElem?_cons_zero, Option.some.injEq] at h1
      subst h1
      have := param_scal (by simpa using hp) h2
      show [v] = [scalV p.e d]
      rw [this]
  | p :: q :: l, d, vs, hp, hl, h => by
    match vs, hl with
    | v :: vs, hl =>
      obtain ⟨v', h1, h2⟩ := h 0 (paramD p d.1) rfl
      simp only [List.getElem?_cons_zero, Option.some.injEq] at h1
      subst h1
      simp only [List.all_cons, Bool.and_eq_true] at hp
      have h3 := param_scal hp.1 h2
      have h4 := args_scal (ps := q :: l) (d := d.2) (vs := vs) (by simpa using hp.2) (by simpa using hl) (fun j D hD => by
        obtain ⟨v, g1, g2⟩ := h (j + 1) D (by simpa [paramsD] using hD)
        exact ⟨v, by simpa using g1, g2⟩)
      show v :: vs = scalV p.e d.1 :: argVs (q :: l) d.2
      rw [h3, h4]
theorem left_plain {w w' : World} {s : Sit} {row : List T} (hrow : ∀ (j : Nat) t, row[j]? = some t → t.isSh = true ∧ ∃ v, RepR w' (roS (s.S .ro)) t v) : Left w.heap.size s w' (s.S .ro) row noLay := by
  refine ⟨fun b hb => hb, fun b hb => .inl hb, ⟨.nilIface, ?_⟩, ?_, fun q y b (h1 : noLay q = some y) => by cases h1⟩
  rotate_left
  · intro p1 z1 p2 z2 b (h1 : noLay p1 = some z1); cases h1
  have hch : ∀ (j : Nat), ∃ v : Value, ∀ t, row[j]? = some t → t.isSh = true ∧ RepR w' (roS (s.S .ro)) t v := by
    intro j
    cases e : row[j]? with
    | none => exact ⟨.nilIface, fun t ht => by cases ht⟩
    | some t =>
      obtain ⟨h1, v, h2⟩ := hrow j t e
      exact ⟨v, fun t' ht => by simp only [Option.some.injEq] at ht; subst ht; exact ⟨h1, h2⟩⟩
  refine .vr row _ (fun j => (hch j).choose) noLay (fun j t e => ?_) rfl (fun i j _ => rfl)
  obtain ⟨h1, h2⟩ := (hch j).choose_spec t e
  exact .sh _ _ h2 h1
def Globs (G : List (Nat × T)) (w : World) (S : Fl → Nat → Prop) : Prop := ∀ g t, look G g = some t → RepR w S t (.pointer (some ⟨g, 0, none⟩))
theorem soundF_scal {P : Program} {G : List (Nat × T)} {f : FuncId} {ps : List PS} {e : Ty} {sem : den (argTy ps) → Option (den e)} (hps : ps.all scalP = true) (he : plainB e = true)
    (h : ∀ (w : World) (S : Fl → Nat → Prop) d r, Globs G w S → (∀ f b, S f b → b < w.heap.size) → sem d = some r → Calls P f (argVs ps d).toArray w fun e' w' => e' = .returned (scalV e r) ∧ Below w.heap.size w w') :
    SoundF P G f ⟨ps, [⟨false, .own, e⟩]⟩ sem := by
  intro w s vs d r _ hlt _ _ hg hl hvs hr
  have := args_scal hps hl hvs
  subst this
  refine (h w s.S d r hg hlt hr).mono fun e' w' he' => ?_
  obtain ⟨rfl, hb⟩ := he'
  have hc := fun f => cells_scal (f := f) he r
  refine ⟨_, s.S .ro, noLay, rfl, hb, left_plain (fun j t ht => ?_), fun s' k _ _ => ?_⟩
  · have ht : (cells .own e r)[j]? = some t := ht
    rw [(hc .own).1] at ht
    cases j with
    | zero => simp only [List.getElem?_cons_zero, Option.some.injEq] at ht; subst ht; exact ⟨rfl, _, .v _ (hc .own).2⟩
    | succ j => simp at ht
  · show RepD w' s' (.v (viewV k 0 false (cells .own e r))) _
    rw [(hc .own).1]
    exact .v _ _ (.c _ _ (.k _ _ (.v _ (hc .own).2)))
/-- A number, and whether there is no error. -/
theorem soundF_err {P : Program} {G : List (Nat × T)} {f : FuncId} {ps : List PS} {e : Ty} {sem : den (argTy ps) → Option (den e × Bool)} (hps : ps.all scalP = true) (he : plainB e = true)
    (h : ∀ (w : World) (S : Fl → Nat → Prop) d r, Globs G w S → (∀ f b, S f b → b < w.heap.size) → sem d = some r → Calls P f (argVs ps d).toArray w fun e' w' => (∃ v, e' = .returned (.tuple #[scalV e r.1, v]) ∧ (match r.2 with | true => v = .nilIface | false => ∃ u y, v = .iface u y)) ∧ Below w.heap.size w w') :
    SoundF P G f ⟨ps, [⟨false, .own, e⟩, ⟨false, .own, .ifc⟩]⟩ sem := by
  intro w s vs d r _ hlt _ _ hg hl hvs hr
  have := args_scal hps hl hvs
  subst this
  refine (h w s.S d r hg hlt hr).mono fun e' w' he' => ?_
  obtain ⟨⟨v, rfl, hv⟩, hb⟩ := he'
  have hc := fun f => cells_scal (f := f) he r.1
  have hi : ∀ S, RepR w' S (.ifc r.2) v := by
    intro S
    cases hr2 : r.2 with
    | true => rw [hr2] at hv; simp only at hv; subst hv; exact .ifcN
    | false => rw [hr2] at hv; obtain ⟨u, y, rfl⟩ := hv; exact .ifcS u y
  refine ⟨_, s.S .ro, noLay, rfl, hb, left_plain (fun j t ht => ?_), fun s' k _ _ => ?_⟩
  · have ht : (app (cells .own e r.1) [T.ifc r.2])[j]? = some t := ht
    rw [(hc .own).1] at ht
    match j with
    | 0 => have ht := Option.some.inj (show some (T.v (scalV e r.1)) = some t from ht); subst ht; exact ⟨rfl, _, .v _ (hc .own).2⟩
    | 1 => have ht := Option.some.inj (show some (T.ifc r.2) = some t from ht); subst ht; exact ⟨rfl, _, hi _⟩
    | j + 2 => simp [app] at ht
  · show RepD w' s' (.tup [viewV k 0 false (cells .own e r.1), viewV k (0 + e.size) false [T.ifc r.2]]) _
    rw [(hc .own).1]
    refine .tup _ _ rfl (fun j x hx => ?_)
    match j with
    | 0 => have hx := Option.some.inj (show some _ = some x from hx); subst hx; exact ⟨_, rfl, .c _ _ (.k _ _ (.v _ (hc .own).2))⟩
    | 1 => have hx := Option.some.inj (show some _ = some x from hx); subst hx; exact ⟨_, rfl, .c _ _ (.k _ _ (hi _))⟩
    | j + 2 => simp at hx
end Go.V
/-! Functions of the library whose contracts the kit has, as functions whose meaning is known. -/
namespace Go.V
open Go.RowKit
def strP : PS := ⟨false, .bo, .str⟩
def i64P : PS := ⟨false, .bo, .int .i64⟩
def u8P : PS := ⟨false, .bo, .int .u8⟩
variable {P : Program} {G : List (Nat × T)} {f : FuncId}
/-- The place of a byte. -/
def indexByteR (d : List UInt8 × Int) : Option Int := some (Lib.indexByte d.1 d.2.toNat.toUInt8)
theorem indexByte_sound (h : ∀ (s : ByteArray) (c : Int) (w : World), Calls P f #[.string s, .int .u8 c] w fun e w' => e = .returned (.int .i64 (Lib.indexByte s.data.toList c.toNat.toUInt8)) ∧ w' = w) :
    SoundF P G f ⟨[strP, u8P], [⟨false, .own, .int .i64⟩]⟩ indexByteR :=
  soundF_scal rfl rfl fun w S d r _ _ hr => (h ⟨⟨d.1⟩⟩ d.2 w).mono fun e w' he => by
    obtain ⟨rfl, rfl⟩ := he
    have hr := Option.some.inj hr
    subst hr
    exact ⟨rfl, Below.refl _ _⟩
/-- How many there are of a byte. -/
def countByteR (d : List UInt8 × List UInt8) : Option Int := match d.2 with
  | [] => none
  | c :: l => match l with
    | [] => some (Lib.countByte d.1 c : Int)
    | _ :: _ => none
theorem countByte_sound (h : ∀ (s : ByteArray) (c : UInt8) (w : World), Calls P f #[.string s, .string ⟨#[c]⟩] w fun e w' => e = .returned (.int .i64 (Lib.countByte s.data.toList c)) ∧ w' = w) :
    SoundF P G f ⟨[strP, strP], [⟨false, .own, .int .i64⟩]⟩ countByteR :=
  soundF_scal rfl rfl fun w S d r _ _ hr => by
    obtain ⟨s, p⟩ := d
    match p, hr with
    | [c], hr =>
      have hr : some (Lib.countByte s c : Int) = some r := hr
      have hr := Option.some.inj hr
      subst hr
      exact (h ⟨⟨s⟩⟩ c w).mono fun e w' he => by
        obtain ⟨rfl, rfl⟩ := he
        exact ⟨rfl, Below.refl _ _⟩
/-- The place of a text of one byte. -/
def indexOneR (d : List UInt8 × List UInt8) : Option Int := match d.2 with
  | [] => none
  | c :: l => match l with
    | [] => some (Lib.indexByte d.1 c)
    | _ :: _ => none
theorem indexOne_sound (h : ∀ (s : ByteArray) (c : UInt8) (w : World), Calls P f #[.string s, .string ⟨#[c]⟩] w fun e w' => e = .returned (.int .i64 (Lib.indexByte s.data.toList c)) ∧ w' = w) :
    SoundF P G f ⟨[strP, strP], [⟨false, .own, .int .i64⟩]⟩ indexOneR :=
  soundF_scal rfl rfl fun w S d r _ _ hr => by
    obtain ⟨s, p⟩ := d
    match p, hr with
    | [c], hr =>
      have hr : some (Lib.indexByte s c) = some r := hr
      have hr := Option.some.inj hr
      subst hr
      exact (h ⟨⟨s⟩⟩ c w).mono fun e w' he => by
        obtain ⟨rfl, rfl⟩ := he
        exact ⟨rfl, Below.refl _ _⟩
/-- A number's digits. -/
def itoaR (n : Int) : Option (List UInt8) := bif and (decide (-9223372036854775808 ≤ n)) (decide (n ≤ 9223372036854775807)) then some (Lib.itoa n) else none
theorem tabIs_of {w : World} {S : Fl → Nat → Prop} {nm : String} {g : Nat} {k : IntKind} {zs : List (den (.int k))} (hg : P.globalNamed nm = some g) (h : RepR w S (.ga (.int k) zs) (.pointer (some ⟨g, 0, none⟩))) : Lib.TabIs P w nm k zs := by
  unfold Lib.TabIs World.var?
  rw [hg, Option.bind_some]
  cases h with
  | box _ _ _ hb => cases hb
  | ga _ _ _ _ vs hR hw hc hr =>
    obtain ⟨arr, el, fz, hb, hsz⟩ := hw
    rw [hb]
    simp only [Option.some.injEq]
    have hsz : arr.size = zs.length := by rw [hsz]; show 0 + zs.length * 1 = zs.length; omega
    refine Array.ext (by rw [hsz]; exact (List.length_map _).symm) ?_
    · intro i h1 h2
      have hi : i < zs.length := by rw [← hsz]; exact h1
      have ht : cellOf (rows .ro (.int k) zs) i 0 = some (.v (.int k zs[i])) := by
        rw [cellOf_rows, List.getElem?_eq_getElem hi]; rfl
      have h3 := hc i 0 _ ht
      have h4 := hr i 0 _ ht
      rw [cell?_of_cells hb] at h3
      have e : 0 + i * (Ty.int k).size + 0 = i := by simp [Ty.size]
      rw [e, Array.getElem?_eq_getElem h1] at h3
      have h5 : vs i 0 = .int k zs[i] := by
        generalize vs i 0 = u at h4
        cases h4 with
        | v _ _ => rfl
        | box _ _ _ hb => cases hb
      rw [h5] at h3
      have h6 := Option.some.inj h3
      rw [h6]
      exact (List.getElem_map (fun z => Value.int k z) (h := h2)).symm
theorem below_grown (w : World) (k : Nat) (os : Array Obj) : Below w.heap.size w (Go.Sort.grow (w.drewN k) os) :=
  ⟨rfl, rfl, rfl, by show w.heap.size ≤ (w.heap ++ os).size; rw [Array.size_append]; omega, fun j hj => by
    show (w.heap ++ os)[j]? = w.heap[j]?
    rw [Array.getElem?_append_left hj]⟩
theorem itoa_sound {g : Nat} (h : ∀ (n : Int), -9223372036854775808 ≤ n → n ≤ 9223372036854775807 → ∀ (w : World), Lib.TabIs P w "internal/strconv.uint64pow10" .u64 Lib.pow10Tab →
      Calls P f #[.int .i64 n] w fun e w' => e = .returned (.string ⟨(Lib.itoa n).toArray⟩) ∧ ∃ k os, w' = Go.Sort.grow (w.drewN k) os)
    (hg : P.globalNamed "internal/strconv.uint64pow10" = some g) {zs : List Int} (hG : look G g = some (.ga (.int .u64) zs)) (hz : zs = Lib.pow10Tab) :
    SoundF P G f ⟨[i64P], [⟨false, .own, .str⟩]⟩ itoaR :=
  soundF_scal rfl rfl fun w S d r hgl _ hr => by
    unfold itoaR at hr
    rcases cond_some hr with ⟨hb, hr⟩ | ⟨_, hr⟩
    · simp only [Bool.and_eq_true, decide_eq_true_eq] at hb
      have hr := Option.some.inj hr
      subst hr
      subst hz
      exact (h d hb.1 hb.2 w (tabIs_of hg (hgl g _ hG))).mono fun e w' he => by
        obtain ⟨rfl, k, os, rfl⟩ := he
        exact ⟨rfl, below_grown _ _ _⟩
    · cases hr
/-- A number out of its digits; whether it is one. -/
def atoiV (s : List UInt8) : Int × Bool := match Lib.atoiAll s with
  | .ok v => (v, true)
  | .range => (Lib.atoiSat s, false)
  | _ => (0, false)
def atoiR (s : List UInt8) : Option (Int × Bool) := bif decide (s.length ≤ 281474976710656) then some (atoiV s) else none
theorem below_bytes (w : World) (e : TypeId) (s : ByteArray) : Below w.heap.size w (Lib.bytesWorld w e s) := by
  exact Lib.below_freeze (((Below.refl w.heap.size w).drew).alloc (Nat.le_refl _) _) (Nat.le_refl _) _
/-- Errors: an interface's value. -/
theorem err_cell {w : World} {S : Fl → Nat → Prop} {g : Nat} (h : RepR w S (.pp .ro [.ifc false]) (.pointer (some ⟨g, 0, none⟩))) : ∃ te pe, w.cell? ⟨g, 0, none⟩ = some (.iface te pe) := by
  cases h with
  | box _ _ _ hb _ _ vs hR hc hr =>
    simp only [T.shBox?, Option.some.injEq, Prod.mk.injEq] at hb
    obtain ⟨rfl, rfl⟩ := hb
    have h1 := hc 0 _ rfl
    have h2 := hr 0 _ rfl
    generalize vs 0 = u at h1 h2
    cases h2 with
    | ifcS te pe => exact ⟨te, pe, h1⟩
    | box _ _ _ hb => cases hb
theorem atoi_sound {g1 g2 : Nat} {t : TypeId} {NE : TypeId} {BW : TypeId}
    (hok : ∀ (s : ByteArray), s.size ≤ 9223372036854775806 → ∀ (v : Int), Lib.atoiAll s.data.toList = .ok v → ∀ (w : World), Calls P f #[.string s] w fun e w' => e = .returned (.tuple #[.int .i64 v, .nilIface]) ∧ (w' = w ∨ ∃ t, w' = Lib.bytesWorld w BW t))
    (hsy : ∀ (s : ByteArray), s.size ≤ 281474976710656 → Lib.atoiAll s.data.toList = Lib.atoiAll [] → ∀ (ev : Value) (w : World), w.cell? ⟨g1, 0, none⟩ = some ev → (ev = .nilIface ∨ ∃ te pe, ev = .iface te pe) →
      Calls P f #[.string s] w fun e w' => ∃ N, e = .returned (.tuple #[.int .i64 (0), .iface t (.pointer (some ⟨N, 0, none⟩))]) ∧ w.heap.size ≤ N ∧ w'.heap[N]? = some (.cells #[.string ⟨#[65, 116, 111, 105]⟩, .string s, ev] NE (0, 0)) ∧ Below w.heap.size w w')
    (hra : ∀ (s : ByteArray), s.size ≤ 281474976710656 → Lib.atoiAll s.data.toList = .range → ∀ (ev : Value) (w : World), w.cell? ⟨g2, 0, none⟩ = some ev → (ev = .nilIface ∨ ∃ te pe, ev = .iface te pe) →
      Calls P f #[.string s] w fun e w' => ∃ N, e = .returned (.tuple #[.int .i64 (Lib.atoiSat s.data.toList), .iface t (.pointer (some ⟨N, 0, none⟩))]) ∧ w.heap.size ≤ N ∧ w'.heap[N]? = some (.cells #[.string ⟨#[65, 116, 111, 105]⟩, .string s, ev] NE (0, 0)) ∧ Below w.heap.size w w')
    (hG1 : look G g1 = some (.pp .ro [.ifc false])) (hG2 : look G g2 = some (.pp .ro [.ifc false])) :
    SoundF P G f ⟨[strP], [⟨false, .own, .int .i64⟩, ⟨false, .own, .ifc⟩]⟩ atoiR :=
  soundF_err rfl rfl fun w S d r hgl _ hr => by
    unfold atoiR at hr
    rcases cond_some hr with ⟨hb, hr⟩ | ⟨_, hr⟩
    rotate_left
    · cases hr
    have hb := of_decide_eq_true hb
    have hr := Option.some.inj hr
    subst hr
    have hsz : (⟨⟨d⟩⟩ : ByteArray).size = d.length := rfl
    unfold atoiV
    cases hA : Lib.atoiAll d with
    | ok v =>
      refine (hok ⟨⟨d⟩⟩ (by rw [hsz]; omega) v hA w).mono fun e w' he => ?_
      obtain ⟨rfl, h⟩ := he
      refine ⟨⟨_, rfl, rfl⟩, ?_⟩
      rcases h with rfl | ⟨t, rfl⟩
      · exact Below.refl _ _
      · exact below_bytes _ _ _
    | range =>
      obtain ⟨te, pe, hc⟩ := err_cell (hgl g2 _ hG2)
      refine (hra ⟨⟨d⟩⟩ (by rw [hsz]; exact hb) hA _ w hc (.inr ⟨te, pe, rfl⟩)).mono fun e w' he => ?_
      obtain ⟨N, rfl, -, -, h⟩ := he
      exact ⟨⟨_, rfl, _, _, rfl⟩, h⟩
    | _ =>
      obtain ⟨te, pe, hc⟩ := err_cell (hgl g1 _ hG1)
      refine (hsy ⟨⟨d⟩⟩ (by rw [hsz]; exact hb) hA _ w hc (.inr ⟨te, pe, rfl⟩)).mono fun e w' he => ?_
      obtain ⟨N, rfl, -, -, h⟩ := he
      exact ⟨⟨_, rfl, _, _, rfl⟩, h⟩
end Go.V
/-! A builder's methods: what they do to the builder. -/
namespace Go.V
open Go.RowKit
def bytC (b : UInt8) : Value := .int .u8 (b.toNat : Int)
section
variable {c : Ctx} {w : World} {ats : Array TypeId} {st xt e ty : TypeId} {i ei : TyInfo}
/-- Bytes behind those of a buffer. -/
theorem buf_append (h0 : ats[0]? = some st) (h1 : ats[1]? = some xt) (hi : TyOk1 c.P st i) (hd : i.d = .sl e) {xd : TypeDesc} (hxu : c.P.underlying xt = some xd) (hxd : ∀ k, xd ≠ .int k) (hei : TyOk1 c.P e ei)
    (hsz : ei.size = 1) (hzl : ei.zero.length = 1) (hby : ei.bytes = 1) {x1 v2 : Value} {bs l : List UInt8} (hb : BufAt w e x1 bs) (hsrc : SrcRuns c.P w 1 v2 l.length (l.map bytC)) (hroom : 2 * (bs.length + l.length) + 192 ≤ 281474976710656) :
    ∃ v' w', (Builtin.append_ ats ty #[x1, v2]).run c.P w = .ok v' w' ∧ BufAt w' e v' (bs ++ l) ∧ w'.os = w.os ∧ w'.tape = w.tape ∧ w'.output = w.output ∧ w.heap.size ≤ w'.heap.size ∧
      (∀ k, k < w.heap.size → blkOf x1 ≠ some k → w'.heap[k]? = w.heap[k]?) ∧ (∀ g, blkOf v' = some g → g < w'.heap.size ∧ (w.heap.size ≤ g ∨ blkOf x1 = some g)) := by
  have grow : ∀ (base : Option Addr) (n0 cap0 : Nat), n0 = bs.length → ¬ n0 + l.length ≤ cap0 → (∀ d, (Builtin.firstCells 1 n0 (.slice base n0 cap0)).run c.P { w with drawn := d } = .ok (bs.map bytC).toArray { w with drawn := d }) →
      x1 = .slice base n0 cap0 → ∃ v' w', (Builtin.append_ ats ty #[x1, v2]).run c.P w = .ok v' w' ∧ BufAt w' e v' (bs ++ l) ∧ w'.os = w.os ∧ w'.tape = w.tape ∧ w'.output = w.output ∧ w.heap.size ≤ w'.heap.size ∧
      (∀ k, k < w.heap.size → blkOf x1 ≠ some k → w'.heap[k]? = w.heap[k]?) ∧ (∀ g, blkOf v' = some g → g < w'.heap.size ∧ (w.heap.size ≤ g ∨ blkOf x1 = some g)) := by
    intro base n0 cap0 hn0 hgt hfc hx
    obtain ⟨-, hgrow⟩ := run_append (w := w) (ty := ty) (base := base) (sLen := n0) (sCap := cap0) h0 h1 hi hd hxu hxd hei (v2 := v2) (n := l.length) (us := l.map bytC) (by rw [hsz]; exact hsrc)
    obtain ⟨newCap, rest, w', hnc, hrest, hheap, ho1, ho2, ho3, hrun⟩ := hgrow hgt (by omega) (by
      have := nextslicecap_le (n0 + l.length) cap0 (by omega)
      rw [hby]; omega) (bs.map bytC).toArray (by rw [hsz]; exact hfc)
    obtain ⟨k, rfl⟩ : ∃ k, newCap = k + 1 := ⟨newCap - 1, by omega⟩
    have hsize : w'.heap.size = w.heap.size + 1 := by rw [hheap]; simp
    refine ⟨_, w', by rw [hx]; exact hrun, .inr ⟨w.heap.size, k, _, by rw [List.length_append, hn0], by rw [hheap]; simp; rfl, by rw [List.length_append]; omega, by rw [List.length_append]; omega, ?_, ?_⟩, ho1, ho2, ho3, by omega, fun k hk _ => by rw [hheap, Array.getElem?_push, if_neg (by omega)], fun g hg => ?_⟩
    · simp only [Array.size_append, hrest, hzl, List.size_toArray, List.length_append, List.length_map, Nat.mul_one]; omega
    · have : (bs.map bytC ++ l.map bytC).length = (bs ++ l).length := by simp
      simp only [Array.toList_append]
      rw [← this, List.take_left, List.map_append]
      rfl
    · simp only [blkOf, Option.some.injEq] at hg
      omega
  rcases hb with ⟨rfl, rfl⟩ | ⟨g, cap, cur, rfl, b1, b2, b3, b4, b5⟩
  · by_cases hl : l = []
    · subst hl
      obtain ⟨hin, -⟩ := run_append (w := w) (ty := ty) (base := none) (sLen := 0) (sCap := 0) h0 h1 hi hd hxu hxd hei (v2 := v2) (n := 0) (us := []) (by rw [hsz]; exact hsrc)
      exact ⟨.slice none 0 0, w, hin (by omega), .inl ⟨rfl, rfl⟩, rfl, rfl, rfl, Nat.le_refl _, fun _ _ _ => rfl, fun g hg => by cases hg⟩
    · have : 0 < l.length := List.length_pos_iff.2 hl
      exact grow none 0 0 rfl (by omega) (fun d => rfl) rfl
  · have hcells : ∀ (k : Nat) u, (bs.map bytC)[k]? = some u → cur[k]? = some u := by
      intro k u hk
      have hlt : k < bs.length := by have := (List.getElem?_eq_some_iff.mp hk).1; simpa using this
      have : (cur.toList.take bs.length)[k]? = some u := by rw [b5]; exact hk
      rw [List.getElem?_take, if_pos hlt, Array.getElem?_toList] at this
      exact this
    by_cases hle : bs.length + l.length ≤ cap + 1
    · obtain ⟨hin, -⟩ := run_append (w := w) (ty := ty) (base := some ⟨g, 0, none⟩) (sLen := bs.length) (sCap := cap + 1) h0 h1 hi hd hxu hxd hei (v2 := v2) (n := l.length) (us := l.map bytC) (by rw [hsz]; exact hsrc)
      have hfit : 0 + bs.length + (l.map bytC).length ≤ cur.size := by rw [List.length_map]; omega
      have hone : ∀ u ∈ l.map bytC, u.oneCell' = true := by
        intro u hu
        obtain ⟨b, _, rfl⟩ := List.mem_map.1 hu
        rfl
      have hst := run_storeCells_at c.P g (0 + bs.length) e (l.map bytC) 0 cur w b1 (by omega) hone
      simp only [Nat.add_zero] at hst
      refine ⟨_, _, by rw [hin hle]; simp only [addr_add, hsz, Nat.mul_one, hst]; rfl, .inr ⟨g, cap, _, by rw [List.length_append], setRow_heap w g cur _ e (0, 0) b1, by rw [List.length_append]; omega, by rw [List.length_append]; omega, ?_, ?_⟩, rfl, rfl, rfl, by simp, fun k _ hk => setRow_other w g k _ (fun e' => hk (by rw [e']; rfl)), fun g' hg => ?_⟩
      · simp only [List.size_toArray, List.length_append, List.length_take, List.length_drop, Array.length_toList, List.length_map]; omega
      · have e1 : (cur.toList.take (0 + bs.length)) = bs.map bytC := by rw [Nat.zero_add]; exact b5
        have : (bs.map bytC ++ l.map bytC).length = (bs ++ l).length := by simp
        simp only [e1]
        rw [← this, List.take_left, List.map_append]
        rfl
      · simp only [blkOf, Option.some.injEq] at hg
        subst hg
        exact ⟨by simpa using (Array.getElem?_eq_some_iff.1 b1).1, .inr rfl⟩
    · refine grow (some ⟨g, 0, none⟩) bs.length (cap + 1) rfl hle (fun d => ?_) rfl
      refine run_firstCells (w := { w with drawn := d }) (by simp) (.inr ⟨g, 0, rfl, fun k u hk => ?_⟩)
      have : ({ w with drawn := d } : World).cell? ⟨g, 0 + k, none⟩ = cur[0 + k]? := cell?_of_cells (w := { w with drawn := d }) b1
      rw [this, Nat.zero_add]
      exact hcells k u hk
end
/-! ### a builder is written to -/
/-- What a writing leaves of a builder. -/
structure LeftB (w : World) (ψ : Lay) (w' : World) (t : Nat × Nat) (bs : List UInt8) (v : Value) (ψ' : Lay) : Prop where
  os : w'.os = w.os
  tape : w'.tape = w.tape
  output : w'.output = w.output
  size : w.heap.size ≤ w'.heap.size
  kept : ∀ b, b < w.heap.size → (∀ q y, ψ q = some y → blkOf y ≠ some b) → w'.heap[b]? = w.heap[b]?
  rep : ∀ S, RepO w' S (.bld t bs) v ψ'
  top : ψ' [] = some v
  inj : Inj ψ'
  own : ∀ q y b, ψ' q = some y → blkOf y = some b → b < w'.heap.size ∧ (w.heap.size ≤ b ∨ ∃ q0 y0, ψ q0 = some y0 ∧ blkOf y0 = some b)
theorem heap_set {w : World} {b o : Nat} {v : Value} {arr : Array Value} {t : TypeId} {fz : Nat × Nat} (h : w.heap[b]? = some (.cells arr t fz)) : (w.setCell ⟨b, o, none⟩ v).heap[b]? = some (.cells (arr.setIfInBounds o v) t fz) := by
  simp [World.setCell, Array.getElem?_modify, h]
theorem size_set {w : World} {a : Addr} {v : Value} : (w.setCell a v).heap.size = w.heap.size := by simp [World.setCell]
section
variable {c : Ctx} {f cc : FuncId} {t : Nat × Nat}
/-- What the check ahead of a writing does. -/
structure CheckOk (P : Program) (cc : FuncId) (T : Nat) : Prop where
  used : ∀ (b : Nat) (w : World), w.cell? ⟨b, 0, none⟩ = some (.pointer (some ⟨b, 0, none⟩)) → Calls P cc #[.pointer (some ⟨b, 0, none⟩)] w fun e w' => e = .returned (.tuple #[]) ∧ w' = w
  fresh : ∀ (b : Nat) (w : World), w.cell? ⟨b, 0, none⟩ = some (.pointer none) → w.shape? b = some (T, 2) → w.frozen? ⟨b, 0, none⟩ = false →
    Calls P cc #[.pointer (some ⟨b, 0, none⟩)] w fun e w' => e = .returned (.tuple #[]) ∧ w' = w.setCell ⟨b, 0, none⟩ (.pointer (some ⟨b, 0, none⟩))
theorem bld_check (hc : CheckOk c.P cc t.1) {w : World} {S : Fl → Nat → Prop} {v : Value} {ψ : Lay} {bs : List UInt8} (h : RepO w S (.bld t bs) v ψ) (hinj : Inj ψ) (hlt : ∀ q y b, ψ q = some y → blkOf y = some b → b < w.heap.size) :
    ∃ b base n cap w1, v = .pointer (some ⟨b, 0, none⟩) ∧ Calls c.P cc #[.pointer (some ⟨b, 0, none⟩)] w (fun e w' => e = .returned (.tuple #[]) ∧ w' = w1) ∧
      w1.heap[b]? = some (.cells #[.pointer (some ⟨b, 0, none⟩), .slice base n cap] t.1 (0, 0)) ∧ BufAt w1 t.2 (.slice base n cap) bs ∧ n = bs.length ∧ w1.heap.size = w.heap.size ∧ w1.os = w.os ∧ w1.tape = w.tape ∧ w1.output = w.output ∧
      (∀ k, k ≠ b → w1.heap[k]? = w.heap[k]?) ∧ ψ [] = some v ∧ ψ [(0, 1)] = some (.slice base n cap) ∧ (∀ q, q ≠ [] → q ≠ [(0, 1)] → ψ q = none) ∧ blkOf (.slice base n cap) ≠ some b ∧ b < w.heap.size := by
  cases h with
  | sh _ _ _ ht => simp [T.isSh] at ht
  | box _ _ ht => simp [T.box?] at ht
  | bld _ _ b x0 x1 _ hb hx hr h0 h1 hn =>
    obtain ⟨base, n, cap, rfl, hn0⟩ : ∃ base n cap, x1 = .slice base n cap ∧ n = bs.length := by
      rcases hr with ⟨rfl, rfl⟩ | ⟨g, cap, cur, rfl, _⟩
      · exact ⟨_, _, _, rfl, rfl⟩
      · exact ⟨_, _, _, rfl, rfl⟩
    have hne : blkOf (.slice base n cap) ≠ some b := fun e => by
      have := hinj _ _ _ _ _ h0 rfl h1 e
      simp at this
    have c0 : w.cell? ⟨b, 0, none⟩ = some x0 := by rw [cell?_of_cells hb]; rfl
    rcases hx with rfl | rfl
    · refine ⟨b, base, n, cap, w.setCell ⟨b, 0, none⟩ (.pointer (some ⟨b, 0, none⟩)), rfl, hc.fresh b w c0 (by simp [World.shape?, hb]) (by simp [World.frozen?, hb]), by rw [heap_set hb]; rfl, hr.keep (fun g hg => Below.heap_setCell _ _ _ _ (fun e => hne (by rw [hg, e]))), hn0, size_set, rfl, rfl, rfl, fun k hk => Below.heap_setCell _ _ _ _ hk, h0, h1, hn, hne, hlt _ _ _ h0 rfl⟩
    · exact ⟨b, base, n, cap, w, rfl, hc.used b w c0, hb, hr, hn0, rfl, rfl, rfl, rfl, fun _ _ => rfl, h0, h1, hn, hne, hlt _ _ _ h0 rfl⟩
def bldLay (b : Nat) (v' : Value) : Lay := fun q => match q with
  | [] => some (.pointer (some ⟨b, 0, none⟩))
  | p :: q => if p = (0, 1) ∧ q = [] then some v' else none
theorem bldLay_some {b : Nat} {v' : Value} {q : Path} {y : Value} (h : bldLay b v' q = some y) : (q = [] ∧ y = .pointer (some ⟨b, 0, none⟩)) ∨ (q = [(0, 1)] ∧ y = v') := by
  cases q with
  | nil => simp only [bldLay, Option.some.injEq] at h; exact .inl ⟨rfl, h.symm⟩
  | cons p q =>
    simp only [bldLay] at h
    split at h
    · rename_i e
      simp only [Option.some.injEq] at h
      exact .inr ⟨by rw [e.1, e.2], h.symm⟩
    · cases h
theorem bld_done {w w1 wa w2 : World} {b : Nat} {base : Option Addr} {n cap : Nat} {ψ : Lay} {v' : Value} {bs : List UInt8} (hs1 : w1.heap.size = w.heap.size) (ho1 : w1.os = w.os) (ht1 : w1.tape = w.tape) (hp1 : w1.output = w.output) (hk1 : ∀ k, k ≠ b → w1.heap[k]? = w.heap[k]?)
    (hsa : w1.heap.size ≤ wa.heap.size) (hoa : wa.os = w1.os) (hta : wa.tape = w1.tape) (hpa : wa.output = w1.output) (hka : ∀ k, k < w1.heap.size → wa.heap[k]? = w1.heap[k]?)
    (h0 : ψ [] = some (.pointer (some ⟨b, 0, none⟩))) (h1 : ψ [(0, 1)] = some (.slice base n cap)) (hbl : b < w.heap.size)
    (hne : blkOf (.slice base n cap) ≠ some b) (hb2 : w2.heap[b]? = some (.cells #[.pointer (some ⟨b, 0, none⟩), .slice base n cap] t.1 (0, 0)))
    (hbuf : BufAt w2 t.2 v' bs) (ho2 : w2.os = wa.os) (ht2 : w2.tape = wa.tape) (hp2 : w2.output = wa.output) (hs2 : wa.heap.size ≤ w2.heap.size)
    (hk2 : ∀ k, k < wa.heap.size → blkOf (.slice base n cap) ≠ some k → w2.heap[k]? = wa.heap[k]?) (hg2 : ∀ g, blkOf v' = some g → g < w2.heap.size ∧ (wa.heap.size ≤ g ∨ blkOf (.slice base n cap) = some g)) :
    LeftB w ψ (w2.setCell ⟨b, 1, none⟩ v') t bs (.pointer (some ⟨b, 0, none⟩)) (bldLay b v') := by
  have hvb : ∀ g, blkOf v' = some g → g ≠ b := fun g hg e => by
    rcases (hg2 g hg).2 with h | h
    · omega
    · exact hne (by rw [h, e])
  refine ⟨by show w2.os = w.os; rw [ho2, hoa, ho1], by show w2.tape = w.tape; rw [ht2, hta, ht1], by show w2.output = w.output; rw [hp2, hpa, hp1], by rw [size_set]; omega, fun k hk hn => ?_, fun S => ?_, rfl, ?_, ?_⟩
  · have hkb : k ≠ b := fun e => hn _ _ h0 (by rw [e]; rfl)
    rw [Below.heap_setCell _ _ _ _ hkb, hk2 k (by omega) (hn _ _ h1), hka k (by omega), hk1 k hkb]
  · refine .bld t bs b (.pointer (some ⟨b, 0, none⟩)) v' _ (by rw [heap_set hb2]; rfl) (.inr rfl) (hbuf.keep fun g hg => Below.heap_setCell _ _ _ _ (hvb g hg)) rfl (by simp [bldLay]) (fun q hq1 hq2 => ?_)
    cases q with
    | nil => exact absurd rfl hq1
    | cons p q =>
      simp only [bldLay]
      rw [if_neg (fun e => hq2 (by rw [e.1, e.2]))]
  · intro p1 z1 p2 z2 k e1 b1 e2 b2
    rcases bldLay_some e1 with ⟨rfl, rfl⟩ | ⟨rfl, rfl⟩ <;> rcases bldLay_some e2 with ⟨rfl, rfl⟩ | ⟨rfl, rfl⟩
    · rfl
    · simp only [blkOf, Option.some.injEq] at b1; exact absurd b1.symm (hvb k b2)
    · simp only [blkOf, Option.some.injEq] at b2; exact absurd b2.symm (hvb k b1)
    · rfl
  · intro q y k e1 b1
    rw [size_set]
    rcases bldLay_some e1 with ⟨rfl, rfl⟩ | ⟨rfl, rfl⟩
    · simp only [blkOf, Option.some.injEq] at b1
      subst b1
      exact ⟨by omega, .inr ⟨_, _, h0, rfl⟩⟩
    · obtain ⟨g1, g2⟩ := hg2 k b1
      refine ⟨g1, ?_⟩
      rcases g2 with g2 | g2
      · exact .inl (by omega)
      · exact .inr ⟨_, _, h1, g2⟩
def atLay (n : Nat) (ψ : Lay) : Lay := fun q => match q with
  | [] => none
  | (i, j) :: q => if i = 0 ∧ j = n then ψ q else none
theorem atLay_at (n : Nat) (ψ : Lay) (i j : Nat) : (atLay n ψ).at i j = if i = 0 ∧ j = n then ψ else noLay := by
  funext q
  simp only [Lay.at, atLay]
  split <;> rfl
theorem atLay_some {n : Nat} {ψ : Lay} {q : Path} {y : Value} (h : atLay n ψ q = some y) : ∃ q', q = (0, n) :: q' ∧ ψ q' = some y := by
  match q, h with
  | (i, j) :: q, h =>
    simp only [atLay] at h
    split at h
    · rename_i e
      exact ⟨q, by rw [e.1, e.2], h⟩
    · cases h
/-- A function that writes to a builder, as one whose meaning is known. -/
theorem bld_sound {P : Program} {G : List (Nat × T)} {f : FuncId} {t : Nat × Nat} {e2 : Ty} (he2 : plainB e2 = true) {rs : List RS} (hrs : rs = [⟨false, .own, .int .i64⟩, ⟨false, .own, .ifc⟩] ∨ rs = [⟨false, .own, .ifc⟩])
    {sem : List UInt8 × den e2 → Option (List UInt8)} {ret : List UInt8 × den e2 → Value} {resd : List UInt8 × den e2 → List UInt8 → den (resTy (rs ++ [⟨false, .own, .bld t⟩]))}
    (hres : ∀ d bs', (rs = [⟨false, .own, .int .i64⟩, ⟨false, .own, .ifc⟩] → ∃ n : Int, ret d = .tuple #[.int .i64 n, .nilIface] ∧ HEq (resd d bs') ((n, (true, bs')) : Int × (Bool × List UInt8))) ∧ (rs = [⟨false, .own, .ifc⟩] → ret d = .nilIface ∧ HEq (resd d bs') ((true, bs') : Bool × List UInt8)))
    (h : ∀ (w : World) (S : Fl → Nat → Prop) (v : Value) (ψ : Lay) (d : List UInt8 × den e2) (bs' : List UInt8), RepO w S (.bld t d.1) v ψ → Inj ψ → (∀ q y b, ψ q = some y → blkOf y = some b → b < w.heap.size) → sem d = some bs' →
      Calls P f #[v, scalV e2 d.2] w fun ex w' => ex = .returned (ret d) ∧ ∃ ψ', LeftB w ψ w' t bs' v ψ') :
    SoundM P G f ⟨[⟨false, .own, .bld t⟩, ⟨false, .bo, e2⟩], rs ++ [⟨false, .own, .bld t⟩]⟩ (fun d => (sem d).map fun bs' => resd d bs') := by
  intro w s vs d r hg hl hvs hr
  obtain ⟨bs', hs, rfl⟩ := Option.map_eq_some_iff.mp hr
  match vs, hl with
  | [v, v2], _ =>
  obtain ⟨y, hy⟩ := hg.roots 0 [T.bld t d.1] rfl
  have hchild : ∃ u, RepO w s.S (.bld t d.1) u ((s.Φ 0).at 0 0) ∧ (s.Φ 0 [] = none) ∧ ∀ i j, (i ≠ 0 ∨ [T.bld t d.1][j]? = none) → (s.Φ 0).at i j = noLay := by
    generalize s.Φ 0 = φ at hy
    cases hy with
    | sh _ _ _ ht => simp [T.isSh] at ht
    | box _ _ ht => simp [T.box?] at ht
    | vr _ _ vs' _ hr h0 hn => exact ⟨vs' 0, hr 0 _ rfl, h0, hn⟩
  obtain ⟨u, hu, hΦ0, hΦn⟩ := hchild
  obtain ⟨hu0, b, hub⟩ := bld_lay hu
  have hv : v = u := by
    obtain ⟨v', g1, g2⟩ := hvs 0 (.v (.c (.pt 0 [(0, 0)] 0 0 0))) rfl
    simp only [List.getElem?_cons_zero, Option.some.injEq] at g1
    subst g1
    cases g2 with
    | v _ _ g2 => cases g2 with
      | c _ _ g2 => cases g2 with
        | pt _ _ _ _ _ x b' h1 h2 =>
          have h1 : (s.Φ 0).at 0 0 [] = some x := h1
          rw [hu0, Option.some.injEq] at h1
          subst h1
          rw [hub] at h2 ⊢
          simp only [blkOf, Option.some.injEq] at h2
          subst h2
          simp [offOf]
  have hv2 : v2 = scalV e2 d.2 := by
    obtain ⟨v', g1, g2⟩ := hvs 1 (paramD ⟨false, .bo, e2⟩ d.2) rfl
    simp only [List.getElem?_cons_succ, List.getElem?_cons_zero, Option.some.injEq] at g1
    subst g1
    exact param_scal (p := ⟨false, .bo, e2⟩) (by simp [scalP, he2]) g2
  subst hv2
  subst hv
  refine (h w s.S v ((s.Φ 0).at 0 0) d bs' hu (fun p y p' y' b e1 b1 e2 b2 => by
    have := (hg.inj 0 ((0, 0) :: p) y 0 ((0, 0) :: p') y' b e1 b1 e2 b2).2
    simpa using this) (fun q y b e1 b1 => (hg.own 0 ((0, 0) :: q) y b e1 b1).2) hs).mono fun ex w' he => ?_
  obtain ⟨rfl, ψ', hL⟩ := he
  have hand : ∀ q y b, (s.Φ 0).at 0 0 q = some y → blkOf y = some b → Handed s b := fun q y b e1 b1 => ⟨0, (0, 0) :: q, y, e1, b1⟩
  have left : ∀ (row : List T) (n : Nat), row[n]? = some (.bld t bs') → (∀ (j : Nat) u, j ≠ n → row[j]? = some u → u.isSh = true ∧ ∃ x, RepR w' (roS (s.S .ro)) u x) →
      LeftM w s w' (s.S .ro) row (atLay n ψ') := by
    intro row n hn hrow
    have hch : ∀ (j : Nat), ∃ x : Value, ∀ u, j ≠ n → row[j]? = some u → u.isSh = true ∧ RepR w' (roS (s.S .ro)) u x := by
      intro j
      by_cases hj : j = n
      · exact ⟨.nilIface, fun u h => absurd hj h⟩
      cases e : row[j]? with
      | none => exact ⟨.nilIface, fun u _ ht => by cases ht⟩
      | some u =>
        obtain ⟨h1, x, h2⟩ := hrow j u hj e
        exact ⟨x, fun u' _ ht => by simp only [Option.some.injEq] at ht; subst ht; exact ⟨h1, h2⟩⟩
    refine ⟨hL.os, hL.tape, hL.output, hL.size, fun b hb hn => hL.kept b hb (fun q y e1 b1 => hn (hand q y b e1 b1)), fun b hb => hb, fun b hb => .inl hb, fun b hb => Nat.lt_of_lt_of_le (hg.slt .ro b hb) hL.size, ⟨.nilIface, .vr row _ (fun j => if j = n then v else (hch j).choose) _ (fun j u e => ?_) rfl (fun i j hij => ?_)⟩, ?_, ?_⟩
    · rw [atLay_at]
      by_cases hj : j = n
      · subst hj
        rw [hn, Option.some.injEq] at e
        subst e
        simp only [and_self, if_true]
        exact hL.rep _
      · obtain ⟨h1, h2⟩ := (hch j).choose_spec u hj e
        rw [if_neg hj, if_neg (fun e : 0 = 0 ∧ j = n => hj e.2)]
        exact .sh _ _ h2 h1
    · rw [atLay_at, if_neg]
      rintro ⟨rfl, rfl⟩
      rcases hij with hij | hij
      · exact hij rfl
      · rw [hn] at hij; cases hij
    · intro p1 z1 p2 z2 k e1 b1 e2 b2
      obtain ⟨q1, rfl, f1⟩ := atLay_some e1
      obtain ⟨q2, rfl, f2⟩ := atLay_some e2
      rw [hL.inj _ _ _ _ _ f1 b1 f2 b2]
    · intro q y k e1 b1
      obtain ⟨q1, rfl, f1⟩ := atLay_some e1
      obtain ⟨g1, g2⟩ := hL.own _ _ _ f1 b1
      refine ⟨?_, g1, fun hro => ?_⟩
      · rcases g2 with g2 | ⟨q0, y0, g3, g4⟩
        · exact .inr g2
        · exact .inl (hand _ _ _ g3 g4)
      · rcases g2 with g2 | ⟨q0, y0, g3, g4⟩
        · have := hg.slt .ro k hro; omega
        · exact (hg.own 0 ((0, 0) :: q0) y0 k g3 g4).1 .ro hro
  rcases hrs with rfl | rfl
  · obtain ⟨n, hret, hheq⟩ := (hres d bs').1 rfl
    have hrd : resd d bs' = ((n, (true, bs')) : Int × (Bool × List UInt8)) := eq_of_heq hheq
    rw [hret, hrd]
    refine ⟨_, s.S .ro, _, rfl, left [.v (.int .i64 n), .ifc true, .bld t bs'] 2 rfl (fun j u hj e => ?_), fun i j hij => ?_, fun s' k hS hΦ => ?_⟩
    · match j with
      | 0 => simp only [List.getElem?_cons_zero, Option.some.injEq] at e; subst e; exact ⟨rfl, _, .v _ rfl⟩
      | 1 => simp only [List.getElem?_cons_succ, List.getElem?_cons_zero, Option.some.injEq] at e; subst e; exact ⟨rfl, _, .ifcN⟩
      | 2 => exact absurd rfl hj
      | j + 3 => simp at e
    · match i, hij with
      | 0, hij =>
        have hij := Option.some.inj hij
        subst hij
        exact ⟨v, rfl, by show (if (0 : Nat) = 0 ∧ (2 : Nat) = 2 then ψ' [] else none) = some v; rw [if_pos ⟨rfl, rfl⟩]; exact hL.top⟩
      | i + 1, hij => cases hij
    · refine .tup _ _ rfl (fun j x hx => ?_)
      match j with
      | 0 => have hx := Option.some.inj (show some (V.c (.k (.v (.int .i64 n)))) = some x from hx); subst hx; exact ⟨_, rfl, .c _ _ (.k _ _ (.v _ rfl))⟩
      | 1 => have hx := Option.some.inj (show some (V.c (.k (.ifc true))) = some x from hx); subst hx; exact ⟨_, rfl, .c _ _ (.k _ _ .ifcN)⟩
      | j + 2 => cases hx
  · obtain ⟨hret, hheq⟩ := (hres d bs').2 rfl
    have hrd : resd d bs' = ((true, bs') : Bool × List UInt8) := eq_of_heq hheq
    rw [hret, hrd]
    refine ⟨_, s.S .ro, _, rfl, left [.ifc true, .bld t bs'] 1 rfl (fun j u hj e => ?_), fun i j hij => ?_, fun s' k hS hΦ => ?_⟩
    · match j with
      | 0 => simp only [List.getElem?_cons_zero, Option.some.injEq] at e; subst e; exact ⟨rfl, _, .ifcN⟩
      | 1 => exact absurd rfl hj
      | j + 2 => simp at e
    · match i, hij with
      | 0, hij =>
        have hij := Option.some.inj hij
        subst hij
        exact ⟨v, rfl, by show (if (0 : Nat) = 0 ∧ (1 : Nat) = 1 then ψ' [] else none) = some v; rw [if_pos ⟨rfl, rfl⟩]; exact hL.top⟩
      | i + 1, hij => cases hij
    · exact .v _ _ (.c _ _ (.k _ _ .ifcN))
def wrS (d : List UInt8 × List UInt8) : Option (List UInt8) := bif roomOk false d.1.length d.2.length 1 then some (d.1 ++ d.2) else none
/-- A text behind what a builder has. -/
def writeStrR (d : List UInt8 × List UInt8) : Option (Int × (Bool × List UInt8)) := (wrS d).map fun bs' => ((d.2.length : Int), (true, bs'))
def wrB (d : List UInt8 × Int) : Option (List UInt8) := bif and (and (decide (0 ≤ d.2)) (decide (d.2 < 256))) (roomOk false d.1.length 1 1) then some (d.1 ++ [byte8 d.2]) else none
/-- A byte behind what a builder has. -/
def writeByteR (d : List UInt8 × Int) : Option (Bool × List UInt8) := (wrB d).map fun bs' => (true, bs')
theorem writeStr_sound {G : List (Nat × T)} {st xt : TypeId} {i ei : TyInfo} (hi : TyOk1 c.P st i) (hd : i.d = .sl t.2) (hei : TyOk1 c.P t.2 ei) (hsz : ei.size = 1) (hzl : ei.zero.length = 1) (hby : ei.bytes = 1) (hxu : c.P.underlying xt = some .string) (hc : CheckOk c.P cc t.1)
    (walk : ∀ (w w1 w2 : World) (b : Nat) (base : Option Addr) (n cap : Nat) (s : ByteArray) (b' : Option Addr) (n' cap' : Nat), (Calls c.P cc #[.pointer (some ⟨b, 0, none⟩)] w fun e w' => e = .returned (.tuple #[]) ∧ w' = w1) →
      w1.heap[b]? = some (.cells #[.pointer (some ⟨b, 0, none⟩), .slice base n cap] t.1 (0, 0)) → (Builtin.append_ #[st, xt] st #[.slice base n cap, .string s]).run c.P w1 = .ok (.slice b' n' cap') w2 →
      w2.heap[b]? = some (.cells #[.pointer (some ⟨b, 0, none⟩), .slice base n cap] t.1 (0, 0)) →
      Calls c.P f #[.pointer (some ⟨b, 0, none⟩), .string s] w fun e w' => e = .returned (.tuple #[.int .i64 s.size, .nilIface]) ∧ w' = w2.setCell ⟨b, 1, none⟩ (.slice b' n' cap')) :
    SoundM c.P G f ⟨[⟨false, .own, .bld t⟩, ⟨false, .bo, .str⟩], [⟨false, .own, .int .i64⟩, ⟨false, .own, .ifc⟩, ⟨false, .own, .bld t⟩]⟩ writeStrR := by
  refine bld_sound (t := t) (e2 := .str) rfl (.inl rfl) (sem := wrS) (ret := fun d => .tuple #[.int .i64 (d.2.length : Int), .nilIface]) (resd := fun d bs' => ((d.2.length : Int), (true, bs'))) (fun d bs' => ⟨fun _ => ⟨_, rfl, .rfl⟩, fun h => by cases h⟩) ?_
  intro w S v ψ d bs' hrep hinj hlt hs
  unfold wrS at hs
  rcases cond_some hs with ⟨hroom, hs⟩ | ⟨_, hs⟩
  rotate_left
  · cases hs
  have hs := Option.some.inj hs
  subst hs
  obtain ⟨b, base, n, cap, w1, rfl, k1, k2, k3, k4, k5, k6, k7, k8, k9, k10, k11, k12, k13, k14⟩ := bld_check hc hrep hinj hlt
  have hr : (2 * (d.1.length + d.2.length) + 192) * 1 ≤ 281474976710656 := Nat.le_of_ble_eq_true hroom
  obtain ⟨v', w2, m1, m2, m3, m4, m5, m6, m7, m8⟩ := buf_append (c := c) (w := w1) (ats := #[st, xt]) (st := st) (xt := xt) (ty := st) rfl rfl hi hd hxu (fun _ h => by cases h) hei hsz hzl hby k3 (l := d.2) (v2 := .string ⟨⟨d.2⟩⟩) (str_rows (S := S) ⟨⟨d.2⟩⟩).2 (by omega)
  obtain ⟨b', n', cap', rfl⟩ : ∃ b' n' cap', v' = .slice b' n' cap' := by
    rcases m2 with ⟨rfl, _⟩ | ⟨g, cap, cur, rfl, _⟩
    · exact ⟨_, _, _, rfl⟩
    · exact ⟨_, _, _, rfl⟩
  have hb2 : w2.heap[b]? = some (.cells #[.pointer (some ⟨b, 0, none⟩), .slice base n cap] t.1 (0, 0)) := by rw [m7 b (by omega) k13]; exact k2
  refine (walk w w1 w2 b base n cap ⟨⟨d.2⟩⟩ b' n' cap' k1 k2 m1 hb2).mono fun ex w' he => ?_
  obtain ⟨rfl, rfl⟩ := he
  exact ⟨rfl, _, bld_done (wa := w1) k5 k6 k7 k8 k9 (Nat.le_refl _) rfl rfl rfl (fun _ _ => rfl) k10 k11 k14 k13 hb2 m2 m3 m4 m5 m6 m7 m8⟩
theorem writeByte_sound {G : List (Nat × T)} {st : TypeId} {i ei : TyInfo} (hi : TyOk1 c.P st i) (hd : i.d = .sl t.2) (hei : TyOk1 c.P t.2 ei) (hsz : ei.size = 1) (hzl : ei.zero.length = 1) (hby : ei.bytes = 1) (hc : CheckOk c.P cc t.1)
    (walk : ∀ (w w1 w2 : World) (b : Nat) (base : Option Addr) (n cap : Nat) (ch : Int) (b' : Option Addr) (n' cap' : Nat), (Calls c.P cc #[.pointer (some ⟨b, 0, none⟩)] w fun e w' => e = .returned (.tuple #[]) ∧ w' = w1) →
      w1.heap[b]? = some (.cells #[.pointer (some ⟨b, 0, none⟩), .slice base n cap] t.1 (0, 0)) → (Builtin.append_ #[st, st] st #[.slice base n cap, .slice (some ⟨w1.heap.size, 0, none⟩) 1 1]).run c.P (w1.alloc (.cells #[.int .u8 ch] t.2)) = .ok (.slice b' n' cap') w2 →
      w2.heap[b]? = some (.cells #[.pointer (some ⟨b, 0, none⟩), .slice base n cap] t.1 (0, 0)) →
      Calls c.P f #[.pointer (some ⟨b, 0, none⟩), .int .u8 ch] w fun e w' => e = .returned .nilIface ∧ w' = w2.setCell ⟨b, 1, none⟩ (.slice b' n' cap')) :
    SoundM c.P G f ⟨[⟨false, .own, .bld t⟩, ⟨false, .bo, .int .u8⟩], [⟨false, .own, .ifc⟩, ⟨false, .own, .bld t⟩]⟩ writeByteR := by
  refine bld_sound (t := t) (e2 := .int .u8) rfl (.inr rfl) (sem := wrB) (ret := fun d => .nilIface) (resd := fun d bs' => (true, bs')) (fun d bs' => ⟨fun h => (by cases h), fun _ => ⟨rfl, .rfl⟩⟩) ?_
  intro w S v ψ d bs' hrep hinj hlt hs
  unfold wrB at hs
  rcases cond_some hs with ⟨hroom, hs⟩ | ⟨_, hs⟩
  rotate_left
  · cases hs
  have hs := Option.some.inj hs
  subst hs
  simp only [Bool.and_eq_true, decide_eq_true_eq] at hroom
  obtain ⟨⟨c0, c1⟩, hroom⟩ := hroom
  obtain ⟨b, base, n, cap, w1, rfl, k1, k2, k3, k4, k5, k6, k7, k8, k9, k10, k11, k12, k13, k14⟩ := bld_check hc hrep hinj hlt
  have hr : (2 * (d.1.length + 1) + 192) * 1 ≤ 281474976710656 := Nat.le_of_ble_eq_true hroom
  have hch : (Value.int .u8 d.2) = bytC (byte8 d.2) := by
    unfold bytC byte8
    congr 1
    rw [UInt8.toNat_ofNat']
    omega
  have hold : ∀ k, k < w1.heap.size → (w1.alloc (.cells #[.int .u8 d.2] t.2)).heap[k]? = w1.heap[k]? := fun k hk => Below.heap_alloc _ _ _ hk
  have hlt1 : ∀ g, blkOf (.slice base n cap) = some g → g < w1.heap.size := fun g hg => by rw [k5]; exact hlt _ _ _ k11 hg
  have hsz1 : (w1.alloc (.cells #[.int .u8 d.2] t.2)).heap.size = w1.heap.size + 1 := by show (w1.heap.push _).size = _; simp
  obtain ⟨v', w2, m1, m2, m3, m4, m5, m6, m7, m8⟩ := buf_append (c := c) (w := w1.alloc (.cells #[.int .u8 d.2] t.2)) (ats := #[st, st]) (st := st) (xt := st) (ty := st) rfl rfl hi hd (hi.slice hd) (fun _ h => by cases h) hei hsz hzl hby
    (k3.keep fun g hg => hold g (hlt1 g hg)) (l := [byte8 d.2]) (v2 := .slice (some ⟨w1.heap.size, 0, none⟩) 1 1)
    (src_slice (by simp) (.inr ⟨w1.heap.size, 0, rfl, fun k u hk => by
      cases k with
      | zero =>
        simp only [List.map_cons, List.map_nil, List.getElem?_cons_zero, Option.some.injEq] at hk
        rw [cell?_of_cells (show (w1.alloc (.cells #[.int .u8 d.2] t.2)).heap[w1.heap.size]? = some (.cells #[.int .u8 d.2] t.2 (0, 0)) by show (w1.heap.push _)[_]? = _; simp), ← hk, ← hch]; rfl
      | succ k => simp at hk⟩)) (by simp only [List.length_singleton]; omega)
  obtain ⟨b', n', cap', rfl⟩ : ∃ b' n' cap', v' = .slice b' n' cap' := by
    rcases m2 with ⟨rfl, _⟩ | ⟨g, cap, cur, rfl, _⟩
    · exact ⟨_, _, _, rfl⟩
    · exact ⟨_, _, _, rfl⟩
  have hb2 : w2.heap[b]? = some (.cells #[.pointer (some ⟨b, 0, none⟩), .slice base n cap] t.1 (0, 0)) := by rw [m7 b (by omega) k13, hold b (by omega)]; exact k2
  refine (walk w w1 w2 b base n cap d.2 b' n' cap' k1 k2 m1 hb2).mono fun ex w' he => ?_
  obtain ⟨rfl, rfl⟩ := he
  exact ⟨rfl, _, bld_done (wa := w1.alloc (.cells #[.int .u8 d.2] t.2)) k5 k6 k7 k8 k9 (by omega) rfl rfl rfl hold k10 k11 k14 k13 hb2 m2 m3 m4 m5 m6 m7 m8⟩
/-- A builder's text. -/
def textR (bs : List UInt8) : Option (List UInt8) := some bs
theorem freeze_other (w : World) (g n k : Nat) (h : k ≠ g) : (w.freeze ⟨g, 0, none⟩ n).heap[k]? = w.heap[k]? := by
  unfold World.freeze
  split
  · rfl
  · simp only [Array.getElem?_modify]
    rw [if_neg (fun e => h e.symm)]
theorem size_freeze (w : World) (a : Addr) (n : Nat) : (w.freeze a n).heap.size = w.heap.size := by
  unfold World.freeze
  split
  · rfl
  · simp
theorem text_sound {st pt it ty : TypeId} (hp : c.P.underlying pt = some (.pointer t.2)) (hcell : c.P.cellsOf t.2 = 1)
    (walk : ∀ (w w2 : World) (b : Nat) (x0 : Value) (base : Option Addr) (n cap : Nat) (q : Option Addr) (r : ByteArray), w.heap[b]? = some (.cells #[x0, .slice base n cap] t.1 (0, 0)) →
      (Builtin.unsafeSliceData_ #[st] pt #[.slice base n cap]).run c.P w.drew = .ok (.pointer q) w.drew → (Builtin.unsafeString_ #[pt, it] ty #[.pointer q, .int .i64 n]).run c.P w.drew = .ok (.string r) w2 →
      Calls c.P f #[.pointer (some ⟨b, 0, none⟩)] w fun e w' => e = .returned (.string r) ∧ w' = w2) :
    SoundT c.P f ⟨[⟨false, .own, .bld t⟩], [⟨false, .own, .str⟩]⟩ textR := by
  intro w S v ψ bs r hrep htop hinj hown hr
  have hr := Option.some.inj hr
  subst hr
  cases hrep with
  | sh _ _ _ ht => simp [T.isSh] at ht
  | box _ _ ht => simp [T.box?] at ht
  | bld _ _ b x0 x1 _ hb hx hbuf h0 h1 hn =>
    rcases hbuf with ⟨rfl, rfl⟩ | ⟨g, cap, cur, rfl, b1, b2, b3, b4, b5⟩
    · refine (walk w w.drew b x0 none 0 0 none .empty hb rfl (Lib.run_unsafeString_none _ _ _ _ _)).mono fun ex w' he => ?_
      obtain ⟨rfl, rfl⟩ := he
      exact ⟨rfl, rfl, rfl, rfl, Nat.le_refl _, fun _ _ _ => rfl⟩
    · have hSD := Lib.run_unsafeSliceData_row (P := c.P) w.drew #[st] pt ⟨g, 0, none⟩ bs.length (cap + 1) (by omega)
      by_cases hl : bs = []
      · subst hl
        refine (walk w w.drew b x0 (some ⟨g, 0, none⟩) 0 (cap + 1) (some ⟨g, 0, none⟩) .empty hb hSD (Lib.run_unsafeString_none _ _ _ _ _)).mono fun ex w' he => ?_
        obtain ⟨rfl, rfl⟩ := he
        exact ⟨rfl, rfl, rfl, rfl, Nat.le_refl _, fun _ _ _ => rfl⟩
      · have hg' : w.drew.heap[g]? = some (.cells cur t.2 (0, 0)) := b1
        have hUS := Lib.run_unsafeString_row (P := c.P) w.drew pt it ty t.2 hp hcell g cur.size (by simp [World.shape?, hg']) bs hl (by omega) (by omega) (fun j x hx => by
          have hj := (List.getElem?_eq_some_iff.mp hx).1
          have e1 : (cur.toList.take bs.length)[j]? = some (.int .u8 (x.toNat : Int)) := by rw [b5, List.getElem?_map, hx]; rfl
          rw [List.getElem?_take, if_pos hj, Array.getElem?_toList] at e1
          rw [addr_add, cell?_of_cells hg', Nat.zero_add]
          exact e1)
        refine (walk w _ b x0 (some ⟨g, 0, none⟩) bs.length (cap + 1) (some ⟨g, 0, none⟩) _ hb hSD hUS).mono fun ex w' he => ?_
        obtain ⟨rfl, rfl⟩ := he
        refine ⟨rfl, ?_, ?_, ?_, by rw [size_freeze]; exact Nat.le_refl _, fun k hk hkn => ?_⟩
        · unfold World.freeze; split <;> rfl
        · unfold World.freeze; split <;> rfl
        · unfold World.freeze; split <;> rfl
        · exact freeze_other _ _ _ _ (fun e => hkn _ _ h1 (by rw [e]; rfl))
end
end Go.V
/-! A law that holds of arguments that meet a condition. -/
namespace Go.V
open Go.RowKit Go.ChangeShapes Go.WideShapes Go.ChangeAt
/-- What the law is asked, called at old data that tables stand beside: its answer; the data's values are told. -/
theorem law_calls_cnd {H : Type} {enc : TypeId × Value → H} {P : Program} {w : World} {base : Nat} {spare : Nat → Bool} {held : Bool} {G : List (Nat × T)} {f : FuncId} {ps : List PS} {sem : den (argTy ps) → Option Bool} (hs : SoundF P G f ⟨ps, [⟨false, .own, .bool⟩]⟩ sem) {ts : List TypeId} (hfit : fitsAll P ts ps = true)
    {args : Array Value} (hlaw : ∀ d, okA ps d → okZ (ts.map (isSl P)) ps d → (∀ (j : Nat) D, (paramsD ps d)[j]? = some D → ∃ v, args.toList[j]? = some v ∧ RepD w (oldSit w) D v) → sem d = some true)
    (hG : ∀ g t, look G g = some t → RepR w (tabS w G) t (.pointer (some ⟨g, 0, none⟩)))
    {ds : List (DataW H)} {p : List MemPlace} {b0 : Nat} (hA : DataW.TrodAll enc P w base spare held ts args.toList ds p) (hval : ∀ (j : Nat) t v, ts[j]? = some t → args[j]? = some v → Value.okWide P w .any b0 t v)
    (hwt : ∀ (j : Nat) t d, ts[j]? = some t → ds[j]? = some d → ∀ n ∈ d.weights P t, n ≤ reachBytes) :
    Calls P f args w fun e w' => e = .returned (.bool true) ∧ Below w.heap.size w w' := by
  obtain ⟨d, h1, h2, h3, hz⟩ := params_rep ts ps args.toList ds p hfit hA (fun j t v e1 e2 => hval j t v e1 (by simpa using e2))
  let s : Sit := { S := tabS w G, Φ := fun _ => noLay, F := fun _ _ _ _ => False }
  have hc := hs w s args.toList d true (fun _ => rfl) (fun f b hb => by rcases hb with hb | hb <;> first | exact hb.2 | exact hb.2.1) (fun b hb => by rcases hb with hb | hb <;> cases hb.1)
    (fun b hb => by rcases hb with hb | hb <;> first | (cases hb.1; done) | exact .inl ⟨rfl, hb.2.1⟩) hG h2
    (fun j D hD => by
      obtain ⟨v, g1, g2⟩ := h3 j D hD
      exact ⟨v, g1, g2.mono (s' := s) (fun _ _ _ => rfl) (fun f b hb => .inl hb) rfl (fun _ _ => rfl)⟩) (hlaw d h1 (hz hwt) h3)
  have harr : args.toList.toArray = args := by simp
  rw [harr] at hc
  refine hc.mono (fun e w' he => ?_)
  obtain ⟨v, ro, φ, rfl, hb, -, hr⟩ := he
  refine ⟨?_, hb⟩
  have := hr { S := roS ro, Φ := fun _ => φ, F := fun _ _ _ _ => False } 0 rfl rfl
  cases this with
  | v _ _ hv => cases hv with
    | c _ _ hc => cases hc with
      | k _ _ hk => cases hk with
        | v _ _ => rfl
        | box _ _ _ hb => cases hb
/-- A row whose law is true of arguments that meet the condition. -/
theorem law_holds_cnd {C : Checked} {os : Os} {f : FuncId} {fn : Func} {s : ChangeSpec} {k : (H : Type) → List (DataW H) → Bool} {H : Type} {enc : TypeId × Value → H} {a : Assume} {F : Stop.Interp} {laid : List (String × DataW Unit)} {G : List (Nat × T)}
    (own : ownKnob C.prog.godebug = none) (started : os.Started) (noInit : C.prog.inits.idxOf? f = none) (hfn : C.prog.funcs[f]? = some fn)
    (witness : ∃ (w : World) (tape : Tape) (i : Input), w.os = os ∧ (w.forCall tape i).Shaped C.prog ∧ i.vars = [] ∧ Input.okWide C.prog (w.forCall tape i) .any w.heap.size f i ∧
      ({ OpenSpec.ofChange s with cond := some k } : OpenSpec).preRow enc C.prog fn [] false laid (w.forCall tape i).memory i.args ∧ a.holds C.prog (lone (Frame.enter C.prog f i.args .normal) [] (w.forCall tape i)))
    (hvars : s.vars = []) {ps : List PS} {sem : den (argTy ps) → Option Bool} (hs : SoundF C.prog G f ⟨ps, [⟨false, .own, .bool⟩]⟩ sem) (hfit : fitsAll C.prog fn.params.toList ps = true) {bs : List Bool} (hbs : fn.params.toList.map (isSl C.prog) = bs)
    (hlaw : ∀ (W : World) (args : Array Value) (ds : List (DataW H)) p d, DataW.TrodAll enc C.prog W 0 (fun _ => true) true fn.params.toList args.toList ds p → (∀ (j : Nat) t v, fn.params.toList[j]? = some t → args[j]? = some v → ∃ b, Value.okWide C.prog W .any b t v) → k H ds = true → okA ps d → okZ bs ps d →
      (∀ (j : Nat) D, (paramsD ps d)[j]? = some D → ∃ v, args.toList[j]? = some v ∧ RepD W (oldSit W) D v) → sem d = some true)
    (hG : ∀ W : World, laidMetH C.prog laid W → ∀ g t, look G g = some t → RepR W (tabS W G) t (.pointer (some ⟨g, 0, none⟩)))
    (hl : laidOutB C.prog = true) (hrow : fn.params.toList.all (fun t => and (C.prog.readableRec t) (decide (t < C.prog.types.size))) = true) {tb : TypeId} (hres : fn.resultTypes = #[tb]) (htb : C.prog.underlying tb = some .bool)
    (hspec : ∀ ds : List (DataW H), ds.length = fn.params.toList.length → (s.fn H ds).results = [.lit (.bool true)] ∧ (s.fn H ds).args = ds ∧ (s.fn H ds).vars = []) :
    ReturnsInHanded a C os f .any (({ OpenSpec.ofChange s with cond := some k } : OpenSpec).preRow enc C.prog fn [] false laid) ((({ OpenSpec.ofChange s with cond := some k } : OpenSpec).at F).post enc C.prog fn false true false false) := by
  refine returnsInHanded_of_row (s := ({ OpenSpec.ofChange s with cond := some k } : OpenSpec)) own started noInit hfn witness ?_
  intro W base args ds gs before hval hW _ hcond hsz hL _ _
  have hW' := hW
  obtain ⟨p, q, hA, hV, rfl, hfz, hnd⟩ := hW
  rw [show ({ OpenSpec.ofChange s with cond := some k } : OpenSpec).vars = [] from hvars] at hV
  obtain ⟨rfl, rfl⟩ := trodVars_none hV
  have hk : k H ds = true := by have := hcond k rfl; simpa using this
  refine (law_calls_cnd hs hfit (fun d h1 h2 h3 => hlaw W args ds p d hA (fun j t v e1 e2 => ⟨base, hval j t v (by simpa using e1) e2⟩) hk h1 (by rw [hbs] at h2; exact h2) h3) (hG W hL) hA (fun j t v e1 e2 => hval j t v (by simpa using e1) e2) (fun j t d e1 e2 n hn => ?_)).mono fun e W' ⟨he, bel⟩ => ?_
  · have hm := DataW.weights_mem_each (ts := fn.params.toList ++ s.plain.varTypes C.prog) (ds := ds ++ []) (by rw [List.getElem?_append_left (List.getElem?_eq_some_iff.mp e1).1]; exact e1) (by rw [List.append_nil]; exact e2) n hn
    have := List.all_eq_true.1 hsz _ hm
    simpa using this
  subst he
  obtain ⟨s1, s2, s3⟩ := hspec ds (by exact (trodAll_length hA).2)
  refine ⟨_, rfl, ds, [], _, [], p, [], hW', ?_, ?_, ?_, bel.frame _, fun h => by cases h⟩
  · rw [hres, List.append_nil]
    change DataW.TrodAll _ _ _ _ _ _ _ _ (s.fn H ds).results _
    rw [s1]
    exact trodAll_mk1 (shut_bool htb _)
  · rw [List.append_nil]
    change DataW.TrodAll _ _ _ _ _ _ _ _ (s.fn H ds).args _
    rw [s2]
    exact args_stay hl bel hrow hA
  · rw [List.append_nil]
    change DataW.TrodVars _ _ _ _ s.vars (s.fn H ds).vars _
    rw [hvars, s3]
    exact rfl
end Go.V
