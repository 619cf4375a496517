/- What is owned turns into what is shared for good; more new slices. -/
import Derived.Test.YtmcaghldcabnnaaRvTwelve
namespace Go.V
open Go.RowKit

variable {α : Type}

theorem setT_snoc : ∀ {q : Path} {i j : Nat} {t t' n : T}, setT (q ++ [(i, j)]) t n = some t' → ∃ row row', getT q t = some row ∧ putChild row i j n = some row' ∧ getT q t' = some row'
  | [], i, j, t, t', n, h => by
    simp only [List.nil_append, setT] at h
    obtain ⟨c, hc, h⟩ := Option.bind_eq_some_iff.mp h
    exact ⟨t, t', rfl, by simpa using h, rfl⟩
  | (k, l) :: q, i, j, t, t', n, h => by
    obtain ⟨c, hc, h⟩ := Option.bind_eq_some_iff.mp h
    obtain ⟨c', h1, h2⟩ := Option.bind_eq_some_iff.mp h
    obtain ⟨row, row', g1, g2, g3⟩ := setT_snoc h1
    refine ⟨row, row', by simp only [getT, hc, Option.bind_some]; exact g1, g2, ?_⟩
    simp only [getT]
    rw [putChild_child hc h2, if_pos ⟨rfl, rfl⟩, Option.bind_some]
    exact g3

theorem closeS_idx {e : Ty} {xs : List (den e)} {i : Nat} {cs : List T} (v : Option Value) (k l : Nat) : (closeS e xs i cs).idx v k l = (match v with | some x => offOf x | none => 0) + (k * e.size + l) ∧ ∀ cs', closeS e xs i cs ≠ .vr cs' := by
  unfold closeS
  split <;> exact ⟨rfl, nofun⟩

theorem closeB_idx {e : Ty} {cs : List T} (v : Option Value) (k l : Nat) : (closeB e cs).idx v k l = l ∧ ∀ cs', closeB e cs ≠ .vr cs' := by
  unfold closeB
  split <;> exact ⟨rfl, nofun⟩

theorem putChild_idx {t t' n : T} {i j : Nat} (h : putChild t i j n = some t') (v : Option Value) (k l : Nat) : t'.idx v k l = t.idx v k l ∧ ((∃ cs, t' = .vr cs) → ∃ cs, t = .vr cs) := by
  cases t with
  | sl f e xs =>
    cases f <;> simp only [putChild, reduceCtorEq] at h
    obtain ⟨x, _, rfl⟩ := Option.map_eq_some_iff.mp h
    obtain ⟨h1, h2⟩ := closeS_idx (e := e) (xs := xs) (i := i) (cs := setN (cells .own e x) j n) v k l
    exact ⟨h1, fun ⟨cs, e⟩ => absurd e (h2 cs)⟩
  | pt f e d =>
    cases f <;> simp only [putChild, reduceCtorEq] at h
    split at h
    · simp only [Option.some.injEq] at h
      subst h
      obtain ⟨h1, h2⟩ := closeB_idx (e := e) (cs := setN (cells .own e d) j n) v k l
      exact ⟨h1, fun ⟨cs, e⟩ => absurd e (h2 cs)⟩
    · cases h
  | slo e xs i' cs0 =>
    simp only [putChild] at h
    obtain ⟨x, _, h⟩ := Option.bind_eq_some_iff.mp h
    split at h
    · simp only [Option.some.injEq] at h
      subst h
      obtain ⟨h1, h2⟩ := closeS_idx (e := e) (xs := xs) (i := i') (cs := setN cs0 j n) v k l
      exact ⟨h1, fun ⟨cs, e⟩ => absurd e (h2 cs)⟩
    · obtain ⟨x', _, rfl⟩ := Option.map_eq_some_iff.mp h
      exact ⟨rfl, nofun⟩
  | po e cs0 =>
    simp only [putChild] at h
    split at h
    · simp only [Option.some.injEq] at h
      subst h
      obtain ⟨h1, h2⟩ := closeB_idx (e := e) (cs := setN cs0 j n) v k l
      exact ⟨h1, fun ⟨cs, e⟩ => absurd e (h2 cs)⟩
    · cases h
  | pp f cs =>
    cases f <;> simp only [putChild, reduceCtorEq] at h
    split at h
    · cases h; exact ⟨rfl, nofun⟩
    · cases h
  | vr cs => exact ⟨by simp only [putChild] at h; split at h <;> cases h; rfl, fun _ => ⟨cs, rfl⟩⟩
  | _ => simp [putChild] at h

def growS (s : Sit) (ψ : Lay) : Sit := { s with S := fun f b => s.S f b ∨ ((f = .ro ∨ f = .bo) ∧ ∃ q y, ψ q = some y ∧ blkOf y = some b) }

section
variable {c : Ctx} {B : Base} {s : Sit} {x : X} {a : Act} {w : World}

theorem RelW.growRo (h : RelW B s x a w) {ψ : Lay} (ho : OwnOut B s w ψ) : RelW B (growS s ψ) x a w :=
  { h with
    env := fun k d e => by
      obtain ⟨v, h1, h2⟩ := h.env k d e
      exact ⟨v, h1, h2.mono (fun _ _ _ => rfl) (fun f b hS => .inl hS) rfl (fun _ _ => rfl)⟩
    roots := fun r row e => by
      obtain ⟨y, hy⟩ := h.roots r row e
      exact ⟨y, hy.mono (fun _ _ _ => rfl) (fun f b hS => .inl hS) (fun _ _ _ _ _ => rfl)⟩
    own := fun r p y b e1 e2 => by
      have := h.own r p y b e1 e2
      refine ⟨fun f hS => ?_, this.2⟩
      rcases hS with hS | ⟨_, q, z, e3, e4⟩
      · exact this.1 f hS
      · exact ho.out _ _ _ e3 e4 _ _ _ e1 e2
    slt := fun f b hS => by
      rcases hS with hS | ⟨_, q, z, e3, e4⟩
      · exact h.slt f b hS
      · exact (ho.own _ _ _ e3 e4).2.1
    sown := fun b hS => by
      rcases hS with hS | ⟨e, _⟩
      · exact h.sown b hS
      · simp at e
    sro := fun b hR => .inl (h.sro b hR)
    srn := fun b hS => by
      rcases hS with hS | ⟨_, q, z, e3, e4⟩
      · exact h.srn b hS
      · exact .inr (ho.own _ _ _ e3 e4).2.2
    sbo := fun b hB => .inl (h.sbo b hB)
    srb := fun b hS => by
      rcases hS with hS | ⟨_, e⟩
      · exact .inl (h.srb b hS)
      · exact .inr ⟨.inr rfl, e⟩
    sbn := fun b hS => by
      rcases hS with hS | ⟨_, e⟩
      · exact (h.sbn b hS).imp id .inl
      · exact .inr (.inr ⟨.inl rfl, e⟩)
    glob := fun g t e => (h.glob g t e).mono (fun _ _ _ => rfl) (fun f b hS => .inl hS) }

/-- A slice that was owned is nobody's any more. -/
def freezeK (x : X) (r : Nat) (p : Path) (K : T → X → Option α) : Option α := match p with
  | [] => none
  | _ :: _ => setAtK x r p .dead fun t x1 => match t with
    | .sl .own e xs => setAtK x1 r p (.sl .ro e xs) fun _ x2 => K (.sl .ro e xs) x2
    | _ => none

structure Frozen (B : Base) (s : Sit) (x2 : X) (a : Act) (w : World) (r : Nat) (p : Path) (t : T) (s2 : Sit) : Prop where
  rel : RelW B s2 x2 a w
  rep : ∀ v, s.Φ r p = some v → RepC w s2 (.k t) v
  S : ∀ f b, s.S f b → s2.S f b
  F : s2.F = s.F
  sub : ∀ r p z, s2.Φ r p = some z → s.Φ r p = some z
  live : ∀ z u, RepC w s z u → RepC w s2 (z.kill r (jp p)) u

theorem freeze_sound (h : RelW B s x a w) {r : Nat} {p : Path} {K : T → X → Option α} {q : α} (he : freezeK x r p K = some q) : ∃ t x2 s2, K t x2 = some q ∧ Frozen B s x2 a w r p t s2 := by
  unfold freezeK at he
  split at he
  · cases he
  rename_i c0 p0
  obtain ⟨old, x1, h1, h2, h3⟩ := setAtK_some he
  split at h3
  rotate_left
  · cases h3
  rename_i e xs
  obtain ⟨dd, x2, g1, g2, g3⟩ := setAtK_some h3
  obtain ⟨q0, i, j, hp⟩ := last_split (p := c0 :: p0) (by simp)
  rw [hp] at h1 h2 g1 g2 ⊢
  -- what stands there
  obtain ⟨rowR, k1, k2⟩ := Option.bind_eq_some_iff.mp h1
  obtain ⟨y0, hy0⟩ := h.roots r rowR k1
  obtain ⟨rw1, y, hrw, hch, hu, hblk, hcell⟩ := place_cell hy0 k2
  obtain ⟨-, -, ht1, ho1⟩ := h.take h1 h2
  have hG := ht1.growRo ho1
  have hrepro := hu.toRo (S' := (growS (setΦ s r ((s.Φ r).graft (q0 ++ [(i, j)]) noLay)) ((s.Φ r).under (q0 ++ [(i, j)]))).S) (fun f b hS => .inl hS) (fun p' z b e1 e2 => .inr ⟨.inl rfl, p', z, e1, e2⟩)
  have hrow1 : ∃ row1 row1', x.at r q0 = some row1 ∧ putChild row1 i j .dead = some row1' ∧ x1.at r q0 = some row1' := by
    unfold X.setAt at h2
    split at h2
    · cases h2
    · obtain ⟨row, e1, h2⟩ := Option.bind_eq_some_iff.mp h2
      obtain ⟨row', e2, rfl⟩ := Option.map_eq_some_iff.mp h2
      obtain ⟨t', e3, e4⟩ := Option.bind_eq_some_iff.mp e2
      obtain ⟨row1, row1', f1, f2, f3⟩ := setT_snoc e3
      have e5 : t' = .vr row' := by
        cases t' <;> first | (simp only [Option.some.injEq] at e4; rw [e4]) | cases e4
      subst e5
      refine ⟨row1, row1', by simp only [X.at, e1, Option.bind_some]; exact f1, f2, ?_⟩
      have : look (x.turned r (q0 ++ [(i, j)]) row' (and (T.sl Fl.own e xs).isSh T.dead.isSh)).roots r = some row' := by
        unfold X.turned
        split <;> simp [look_cons]
      simp only [X.at, this, Option.bind_some]
      exact f3
  obtain ⟨row1, row1', r1, r2, r3⟩ := hrow1
  have hq0 : (growS (setΦ s r ((s.Φ r).graft (q0 ++ [(i, j)]) noLay)) ((s.Φ r).under (q0 ++ [(i, j)]))).Φ r q0 = s.Φ r q0 := by
    show (setΦ s r _).Φ r q0 = _
    rw [setΦ_same, graft_eq]
    have : strip (q0 ++ [(i, j)]) q0 = none := by
      cases es : strip (q0 ++ [(i, j)]) q0 with
      | none => rfl
      | some p' => have := congrArg List.length (strip_some es); simp at this
    rw [this]
  have hfin := hG.setAt (w' := w) (ψ := noLay) (y := y) (n := .sl .ro e xs) g1 g2 (.sh _ _ hrepro rfl) (OwnOut.none _ _ _) (Same.refl w) (fun _ _ => rfl) (fun row' hr' => by
    rw [r3, Option.some.injEq] at hr'
    subst hr'
    rw [hq0]
    have hrw' : x.at r q0 = some rw1 := by simp only [X.at, k1, Option.bind_some]; exact hrw
    rw [r1, Option.some.injEq] at hrw'
    subst hrw'
    have hid := fun k l => putChild_idx r2 (s.Φ r q0) k l
    have hnv := (hid 0 0).2
    cases hrv : row1' with
    | vr cs => trivial
    | _ =>
      have hnv1 : ∀ cs, row1 ≠ .vr cs := by
        intro cs e1
        subst e1
        simp only [putChild] at r2
        split at r2
        · cases r2; cases hrv
        · cases r2
      have hb2 : ∃ b, (s.Φ r q0).bind blkOf = some b ∧ ∀ arr el, w.heap[b]? = some (.cells arr el (0, 0)) → w.heap[b]? = some (.cells (arr.setIfInBounds (row1.idx (s.Φ r q0) i j) y) el (0, 0)) := by
        revert hblk
        unfold RowBlk
        split
        · exact absurd rfl (hnv1 _)
        · exact fun h => h
      rw [← (hid i j).1, hrv] at hb2
      exact hb2)
  have hb0 : ∀ r' p', (setΦ s r ((s.Φ r).graft (q0 ++ [(i, j)]) noLay)).Φ r' p' = (setΦ (growS (setΦ s r ((s.Φ r).graft (q0 ++ [(i, j)]) noLay)) ((s.Φ r).under (q0 ++ [(i, j)]))) r
      (((growS (setΦ s r ((s.Φ r).graft (q0 ++ [(i, j)]) noLay)) ((s.Φ r).under (q0 ++ [(i, j)]))).Φ r).graft (q0 ++ [(i, j)]) noLay)).Φ r' p' := by
    intro r' p'
    by_cases e : r' = r
    · subst e
      rw [setΦ_same, setΦ_same]
      show _ = Lay.graft ((setΦ s r' _).Φ r') _ _ p'
      rw [setΦ_same, graft_eq, graft_eq]
      cases es : strip (q0 ++ [(i, j)]) p' with
      | none => simp only [graft_eq, es]
      | some p2 => rfl
    · rw [setΦ_ne _ _ e, setΦ_ne _ _ e]
      show _ = (setΦ s r _).Φ r' p'
      rw [setΦ_ne _ _ e]
  refine ⟨_, x2, _, g3, hfin, fun v hv => ?_, fun f b hS => .inl hS, rfl, fun r' p' z hz => by rw [← hb0] at hz; exact graft_sub hz, fun z u hz => ?_⟩
  · have hy : y = v := by
      have hv' : ((s.Φ r).under (q0 ++ [(i, j)])) [] = some v := by rw [Lay.under_apply_nil]; exact hv
      generalize (s.Φ r).under (q0 ++ [(i, j)]) = φ at hu hv'
      cases hu with
      | sh _ _ _ ht => simp [T.isSh] at ht
      | nil e ad φ h0 hn => rw [h0, Option.some.injEq] at hv'; exact hv'
      | sl e xs b off cap arr el vs φ hb hcap hsz hc hr h0 hn => rw [h0, Option.some.injEq] at hv'; exact hv'
      | box _ cs ht => simp [T.box?] at ht
    subst hy
    exact .k _ _ (hrepro.mono (fun _ _ _ => rfl) (fun _ _ h => h))
  · refine hz.kill (fun _ _ _ => rfl) (fun f b hS => .inl hS) rfl (fun r' p' hn => ?_)
    rw [← hb0]
    by_cases e : r' = r
    · subst e
      rw [setΦ_same, graft_eq]
      cases es : strip (q0 ++ [(i, j)]) p' with
      | none => rfl
      | some p2 => exact absurd ⟨rfl, pre_of_strip es⟩ hn
    · rw [setΦ_ne _ _ e]

/-- Before cells are taken: what is meant to be shared for good is. -/
def prepK : List (Option Ty) → List C → List C → X → (List C → X → Option α) → Option α
  | fr :: fs, acc, y :: ys, x, K => match fr with
    | some e => match y with
      | .own r p _ => freezeK x r p fun t x1 => prepK fs (app (mapL (C.kill r (jp p)) acc) [.k t]) (mapL (C.kill r (jp p)) ys) x1 K
      | .nil => prepK fs (app acc [.k (.sl .ro e [])]) ys x K
      | y => prepK fs (app acc [y]) ys x K
    | none => prepK fs (app acc [y]) ys x K
  | [], acc, ys, x, K => K (app acc ys) x
  | _, acc, [], x, K => K acc x

structure Prep (B : Base) (s : Sit) (x2 : X) (a : Act) (w : World) (s2 : Sit) : Prop where
  rel : RelW B s2 x2 a w
  S : ∀ f b, s.S f b → s2.S f b
  F : s2.F = s.F
  sub : ∀ r p z, s2.Φ r p = some z → s.Φ r p = some z

theorem prep_sound : ∀ (fs : List (Option Ty)) (acc ys : List C) {s : Sit} {x : X} {vals : List Value} {K : List C → X → Option α} {q : α}, RelW B s x a w →
    (∀ (j : Nat) y, (acc ++ ys)[j]? = some y → ∃ u, vals[j]? = some u ∧ RepC w s y u) → prepK fs acc ys x K = some q →
    ∃ zs x2 s2, K zs x2 = some q ∧ Prep B s x2 a w s2 ∧ zs.length = acc.length + ys.length ∧ ∀ (j : Nat) z, zs[j]? = some z → ∃ u, vals[j]? = some u ∧ RepC w s2 z u := by
  intro fs
  induction fs with
  | nil =>
    intro acc ys s x vals K q h hv he
    cases ys with
    | nil => exact ⟨_, x, s, by simpa [prepK, app_eq] using he, ⟨h, fun _ _ h => h, rfl, fun _ _ _ h => h⟩, by simp, by simpa using hv⟩
    | cons y ys => exact ⟨_, x, s, by simpa [prepK, app_eq] using he, ⟨h, fun _ _ h => h, rfl, fun _ _ _ h => h⟩, by simp, hv⟩
  | cons fr fs ih =>
    intro acc ys s x vals K q h hv he
    cases ys with
    | nil => exact ⟨_, x, s, by simpa [prepK] using he, ⟨h, fun _ _ h => h, rfl, fun _ _ _ h => h⟩, by simp, by simpa using hv⟩
    | cons y ys =>
      have plain : ∀ y', (∀ u, RepC w s y u → RepC w s y' u) → prepK fs (app acc [y']) ys x K = some q →
          ∃ zs x2 s2, K zs x2 = some q ∧ Prep B s x2 a w s2 ∧ zs.length = acc.length + (y :: ys).length ∧ ∀ (j : Nat) z, zs[j]? = some z → ∃ u, vals[j]? = some u ∧ RepC w s2 z u := by
        intro y' hy' he
        rw [app_eq] at he
        obtain ⟨zs, x2, s2, k1, k2, k3, k4⟩ := ih (acc ++ [y']) ys h (fun j z hz => by
          rw [List.append_assoc] at hz
          by_cases hj : j < acc.length
          · rw [List.getElem?_append_left hj] at hz
            exact hv j z (by rw [List.getElem?_append_left hj]; exact hz)
          · rw [List.getElem?_append_right (by omega)] at hz
            have h2 := fun z => hv j z
            rw [List.getElem?_append_right (by omega)] at h2
            cases hk : j - acc.length with
            | zero =>
              rw [hk] at hz h2
              simp only [List.singleton_append, List.getElem?_cons_zero, Option.some.injEq] at hz h2
              subst hz
              obtain ⟨u, g1, g2⟩ := h2 y rfl
              exact ⟨u, g1, hy' u g2⟩
            | succ k =>
              rw [hk] at hz h2
              exact h2 z (by simpa using hz)) he
        exact ⟨zs, x2, s2, k1, k2, by simp at k3 ⊢; omega, k4⟩
      simp only [prepK] at he
      cases fr with
      | none => exact plain y (fun _ h => h) he
      | some ee =>
        simp only at he
        split at he
        · rename_i r p e0
          obtain ⟨t, x1, s1, g1, fz⟩ := freeze_sound h he
          rw [app_eq, mapL_eq, mapL_eq] at g1
          obtain ⟨zs, x2, s2, k1, k2, k3, k4⟩ := ih _ _ (vals := vals) fz.rel (fun j z hz => by
            rw [List.append_assoc] at hz
            by_cases hj : j < acc.length
            · rw [List.getElem?_append_left (by simpa using hj), List.getElem?_map] at hz
              obtain ⟨z0, e1, rfl⟩ := Option.map_eq_some_iff.mp hz
              obtain ⟨u, f1, f2⟩ := hv j z0 (by rw [List.getElem?_append_left hj]; exact e1)
              exact ⟨u, f1, fz.live _ _ f2⟩
            · rw [List.getElem?_append_right (by simp; omega)] at hz
              have h2 := fun z => hv j z
              rw [List.getElem?_append_right (by omega)] at h2
              simp only [List.length_map] at hz
              cases hk : j - acc.length with
              | zero =>
                rw [hk] at hz h2
                simp only [List.singleton_append, List.getElem?_cons_zero, Option.some.injEq] at hz h2
                subst hz
                obtain ⟨u, f1, f2⟩ := h2 _ rfl
                refine ⟨u, f1, ?_⟩
                cases f2 with
                | own _ _ _ _ hΦ => exact fz.rep _ hΦ
              | succ k =>
                rw [hk] at hz h2
                simp only [List.singleton_append, List.getElem?_cons_succ, List.getElem?_map] at hz h2
                obtain ⟨z0, e1, rfl⟩ := Option.map_eq_some_iff.mp hz
                obtain ⟨u, f1, f2⟩ := h2 z0 e1
                exact ⟨u, f1, fz.live _ _ f2⟩) g1
          refine ⟨zs, x2, s2, k1, ⟨k2.rel, fun f b hS => k2.S f b (fz.S f b hS), k2.F.trans fz.F, fun r p z e => fz.sub _ _ _ (k2.sub _ _ _ e)⟩, by simp at k3 ⊢; omega, k4⟩
        · exact plain _ (fun u hu => by cases hu with | nil ad => exact .k _ _ (.nil .ro ee ad 0)) he
        · exact plain y (fun _ h => h) he

/-- All the cells of a value are taken for good. -/
def takeAllK (i : TyInfo) (vd : D) (x : X) (K : List T → X → Option α) : Option α :=
  match and (Nat.beq vd.cells.length i.size) (and (Nat.ble 1 i.size) (allB okCell vd.cells)) with
  | true => prepK i.zfr [] vd.cells x fun ys x1 => takeCsK i.zel ys i.size x1 K
  | false => none

structure TakenAll (B : Base) (s : Sit) (x1 : X) (a : Act) (w : World) (vv : Value) (n : Nat) (ts : List T) (us : Nat → Value) (φ : Lay) (s1 : Sit) : Prop where
  rel : RelW B s1 x1 a w
  tk : Taken B s1 w ts us φ
  S : ∀ f b, s.S f b → s1.S f b
  F : s1.F = s.F
  sub : ∀ r p z, s1.Φ r p = some z → s.Φ r p = some z
  len : ts.length = n
  size : vv.cells.size = n
  pos : 1 ≤ n
  vals : ∀ j, j < n → vv.cells[j]? = some (us j)
  one : ∀ v ∈ vv.cells.toList, v.oneCell' = true

theorem takeAll_sound (h : RelW B s x a w) {vd : D} {vv : Value} (hv : RepD w s vd vv) {i : TyInfo} {K : List T → X → Option α} {q : α} (he : takeAllK i vd x K = some q) :
    ∃ ts x1 s1 us φ, K ts x1 = some q ∧ TakenAll B s x1 a w vv i.size ts us φ s1 := by
  unfold takeAllK at he
  split at he
  · rename_i hb
    simp only [Bool.and_eq_true] at hb
    obtain ⟨hb1, hb2, hb3⟩ := hb
    have hb1 := Nat.eq_of_beq_eq_true hb1
    have hb2 := Nat.le_of_ble_eq_true hb2
    have hne : vd.cells ≠ [] := by intro e; rw [e] at hb1; simp at hb1; omega
    have hall := Dcells_sound h hv hb3 hne
    obtain ⟨ys, x0, s0, k1, k2, k3, k4⟩ := prep_sound i.zfr [] vd.cells (vals := vv.cells.toList) h (fun k y hk => by
      obtain ⟨u, g1, g2⟩ := hall.2 k y (by simpa using hk)
      exact ⟨u, by simpa using g1, g2⟩) he
    obtain ⟨ts, x1, s1, us, φ, hK, hrel, htk, hS, hF, hsub, -, hlen, hvals⟩ := takeCs_sound i.size i.zel ys (vals := vv.cells.toList) k2.rel (Taken.empty (fun _ => .nilIface)) k4 (by simp at k3; omega) k1
    simp only [List.nil_append, List.length_nil, Nat.zero_add] at htk hvals k3
    refine ⟨ts, x1, s1, us, φ, hK, hrel, htk, fun f b e => by rw [hS]; exact k2.S f b e, hF.trans k2.F, fun r p z e => k2.sub _ _ _ (hsub _ _ _ e), by omega, by rw [hall.1, hb1], hb2, fun j hj => by rw [← Array.getElem?_toList]; exact hvals j (by omega), fun z hz => ?_⟩
    obtain ⟨m, hm⟩ := List.getElem?_of_mem hz
    have hm' : m < vd.cells.length := by rw [← hall.1]; have := (List.getElem?_eq_some_iff.mp hm).1; simpa using this
    obtain ⟨u, f1, f2⟩ := hall.2 m _ (List.getElem?_eq_getElem hm')
    have : u = z := by
      rw [← Array.getElem?_toList, hm, Option.some.injEq] at f1
      exact f1.symm
    subst this
    exact cell_one h f2 ((allB_iff _ _).1 hb3 _ (List.getElem_mem hm'))
  · cases he

end
end Go.V
