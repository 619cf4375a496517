/- Putting at a place of the state, taking away from it, hanging something new. -/
import Derived.Test.YtmcaghldcabnnaaRvThree
namespace Go.V
open Go.RowKit

theorem box_child {t : T} {cs : List T} (hb : t.box? = some cs) (k l : Nat) : childT t k l = if k = 0 then cs[l]? else none := by
  cases t with
  | pp f cs' =>
    cases f <;> simp [T.box?] at hb
    subst hb
    cases k <;> simp [childT, nth_eq]
  | pt f e d =>
    cases f <;> simp [T.box?] at hb
    subst hb
    cases k <;> simp [childT, nth_eq]
  | po e cs' =>
    simp only [T.box?, Option.some.injEq] at hb
    subst hb
    cases k <;> simp [childT, nth_eq]
  | _ => simp [T.box?] at hb

theorem putChild_child {t t' n u : T} {i j k l : Nat} (hc : childT t i j = some u) (hp : putChild t i j n = some t') :
    childT t' k l = if k = i ∧ l = j then some n else childT t k l := by
  have slx : ∀ {e : Ty} {m : Nat} {f : Nat → Nat → Option T}, SlX t e m f → childT t' k l = if k = i ∧ l = j then some n else childT t k l := by
    intro e m f hX
    obtain ⟨f', hX', hu, hcell⟩ := hX.put hc hp
    rw [hX'.child, hX.child, hcell]
  have bx : ∀ {cs : List T}, t.box? = some cs → childT t' k l = if k = i ∧ l = j then some n else childT t k l := by
    intro cs hb
    obtain ⟨rfl, hu, hbox⟩ := putChild_box hb hc hp
    have hj := (List.getElem?_eq_some_iff.mp hu).1
    rw [box_child hbox, box_child hb]
    by_cases hk : k = 0
    · subst hk
      simp only [if_true, true_and, List.getElem?_set]
      by_cases hl : j = l
      · subst hl; simp [hj]
      · rw [if_neg hl, if_neg (fun h => hl h.symm)]
    · rw [if_neg hk, if_neg hk, if_neg (fun h => hk h.1)]
  cases t with
  | sl f e xs =>
    cases f <;> try (simp [childT] at hc; done)
    exact slx (.sl e xs)
  | slo e xs i' cs =>
    exact slx (.slo e xs i' cs)
  | vr cs =>
    cases i with
    | succ i => simp [childT] at hc
    | zero =>
      simp only [childT, nth_eq] at hc
      simp only [putChild, Option.some.injEq] at hp
      subst hp
      have hj := (List.getElem?_eq_some_iff.mp hc).1
      cases k with
      | succ k => simp [childT]
      | zero =>
        simp only [childT, nth_eq, setN_eq, List.getElem?_set]
        by_cases hl : j = l
        · subst hl; simp [hj]
        · rw [if_neg hl, if_neg (fun h => hl h.2.symm)]
  | pp f cs =>
    cases f <;> try (simp [childT] at hc; done)
    exact bx rfl
  | pt f e d =>
    cases f <;> try (simp [childT] at hc; done)
    exact bx rfl
  | po e cs => exact bx rfl
  | _ => simp [childT] at hc

theorem getT_setT_ne : ∀ {p q : Path} {t t' n : T}, setT p t n = some t' → pc (jp p) (jp q) = false → getT q t' = getT q t
  | [], q, t, t', n, _, h => by simp [pc, jp, pre] at h
  | (i, j) :: p, [], t, t', n, _, h => by simp [pc, jp, pre] at h
  | (i, j) :: p, (k, l) :: q, t, t', n, hs, h => by
    obtain ⟨c, hc, hs⟩ := Option.bind_eq_some_iff.mp hs
    obtain ⟨c', hs1, hs2⟩ := Option.bind_eq_some_iff.mp hs
    simp only [getT]
    rw [putChild_child hc hs2]
    by_cases e : k = i ∧ l = j
    · obtain ⟨rfl, rfl⟩ := e
      rw [if_pos ⟨rfl, rfl⟩, hc, Option.bind_some, Option.bind_some]
      refine getT_setT_ne hs1 ?_
      simpa [pc, jp, pre] using h
    · rw [if_neg e]

theorem getT_setT_same : ∀ {p : Path} {t t' n : T}, setT p t n = some t' → getT p t' = some n
  | [], t, t', n, hs => by simp only [setT, Option.some.injEq] at hs; subst hs; rfl
  | (i, j) :: p, t, t', n, hs => by
    obtain ⟨c, hc, hs⟩ := Option.bind_eq_some_iff.mp hs
    obtain ⟨c', hs1, hs2⟩ := Option.bind_eq_some_iff.mp hs
    simp only [getT]
    rw [putChild_child hc hs2, if_pos ⟨rfl, rfl⟩, Option.bind_some]
    exact getT_setT_same hs1

theorem RepO.shLay {w : World} {S : Fl → Nat → Prop} {t : T} {x : Value} {φ : Lay} (h : RepO w S t x φ) (ht : t.isSh = true) : φ = noLay := by
  cases h with
  | sh => rfl
  | nil => simp [T.isSh] at ht
  | sl => simp [T.isSh] at ht
  | slo => simp [T.isSh] at ht
  | box _ cs hb =>
    cases t with
    | pp f cs' => cases f <;> simp [T.box?] at hb; simp [T.isSh] at ht
    | pt f e d => cases f <;> simp [T.box?] at hb; simp [T.isSh] at ht
    | po => simp [T.isSh] at ht
    | _ => simp [T.box?] at hb
  | vr => simp [T.isSh] at ht

theorem graft_same {φ ψ : Lay} {p : Path} (h : φ.under p = ψ) : φ.graft p ψ = φ := by
  funext q
  rw [graft_eq]
  cases e : strip p q with
  | none => rfl
  | some q' => simp only; rw [← h, strip_some e]; rfl

theorem pc_of_strip {p q q' : Path} (h : strip p q = some q') : pc (jp p) (jp q) = true := by
  unfold pc
  rw [pre_of_strip h]

theorem pre_prefix {l m n : List Nat} (h : pre l m = true) : pre l (m ++ n) = true := by
  induction l generalizing m with
  | nil => rfl
  | cons a l ih =>
    cases m with
    | nil => simp [pre] at h
    | cons b m =>
      simp only [pre, List.cons_append] at h ⊢
      cases hb : Nat.beq a b <;> rw [hb] at h
      · cases h
      · exact ih h

theorem pre_split {l m n : List Nat} (h : pre l (m ++ n) = true) : pc l m = true := by
  induction l generalizing m with
  | nil => rfl
  | cons a l ih =>
    cases m with
    | nil => simp [pc, pre]
    | cons b m =>
      simp only [pre, List.cons_append] at h
      simp only [pc, pre]
      cases hb : Nat.beq a b with
      | false => rw [hb] at h; cases h
      | true =>
        rw [hb] at h
        have := Nat.eq_of_beq_eq_true hb
        subst this
        have h2 := ih h
        simp only [Nat.beq_refl]
        exact h2

/-- No lock is in the way. -/
def lockOk (x : X) (r : Nat) (d : List Nat) : Bool := match anyL (fun l => match Nat.beq l.1 r with | true => pc d l.2 | false => false) x.lock with
  | true => false
  | false => true

theorem lockOk_spec {x : X} {r : Nat} {d d' : List Nat} (h : lockOk x r d = true) (hm : (r, d') ∈ x.lock) : pc d d' = false := by
  unfold lockOk at h
  cases e : anyL (fun l : Nat × List Nat => match Nat.beq l.1 r with | true => pc d l.2 | false => false) x.lock with
  | true => rw [e] at h; cases h
  | false =>
    cases e2 : pc d d' with
    | false => rfl
    | true =>
      have : anyL (fun l : Nat × List Nat => match Nat.beq l.1 r with | true => pc d l.2 | false => false) x.lock = true := by
        rw [anyL_iff]; exact ⟨(r, d'), hm, by simp [e2]⟩
      rw [e] at this; cases this

/-- The root with something else at a place. -/
def rootSet (row : List T) (p : Path) (n : T) : Option (List T) := (setT p (.vr row) n).bind fun t => match t with
  | .vr row' => some row'
  | _ => none

theorem setT_vr {p : Path} {row : List T} {n t' : T} (hp : p ≠ []) (h : setT p (.vr row) n = some t') : ∃ row', t' = .vr row' := by
  cases p with
  | nil => exact absurd rfl hp
  | cons c p =>
    obtain ⟨i, j⟩ := c
    obtain ⟨c, hc, hs⟩ := Option.bind_eq_some_iff.mp h
    obtain ⟨c', hs1, hs2⟩ := Option.bind_eq_some_iff.mp hs
    cases i with
    | succ i => simp [childT] at hc
    | zero => simp only [putChild, Option.some.injEq] at hs2; exact ⟨_, hs2.symm⟩

/-- What a putting leaves: with another root; where owned data is touched, what spoke of it is lost. -/
def X.turned (x : X) (r : Nat) (p : Path) (row' : List T) (plain : Bool) : X := match plain with
  | true => { x with roots := (r, row') :: x.roots }
  | false => { x with roots := (r, row') :: x.roots, env := mapS (D.kill r (jp p)) x.env, dirt := (r, jp p) :: x.dirt }

def X.setAt (x : X) (r : Nat) (p : Path) (old n : T) : Option X := match lockOk x r (jp p) with
  | false => none
  | true => (look x.roots r).bind fun row => (rootSet row p n).map fun row' => x.turned r p row' (and old.isSh n.isSh)

section
variable {B : Base} {s : Sit} {x x' : X} {a : Act} {w w' : World}

theorem RelW.setAt (h : RelW B s x a w) {r : Nat} {old n : T} {q : Path} {i j : Nat} {y : Value} {ψ : Lay} (hold : x.at r (q ++ [(i, j)]) = some old)
    (hs : x.setAt r (q ++ [(i, j)]) old n = some x') (hn : RepO w' s.S n y ψ) (ho : OwnOut B s w' ψ) (hw : Same w w')
    (hne : ∀ b, (s.Φ r q).bind blkOf ≠ some b → w'.heap[b]? = w.heap[b]?) (hrow : ∀ row, x.at r q = some row → RowBlk w w' row (s.Φ r q) i j y) :
    RelW B (setΦ s r ((s.Φ r).graft (q ++ [(i, j)]) ψ)) x' a w' := by
  unfold X.setAt at hs
  cases hl : lockOk x r (jp (q ++ [(i, j)])) with
  | false => rw [hl] at hs; cases hs
  | true =>
  rw [hl] at hs
  obtain ⟨row, hrow0, hs⟩ := Option.bind_eq_some_iff.mp hs
  obtain ⟨row', hset, hs⟩ := Option.map_eq_some_iff.mp hs
  obtain ⟨t', hset', ht'⟩ := Option.bind_eq_some_iff.mp hset
  have hpne : q ++ [(i, j)] ≠ [] := by simp
  obtain ⟨row2, rfl⟩ := setT_vr hpne hset'
  simp only [Option.some.injEq] at ht'
  subst ht'
  simp only [X.at, hrow0, Option.bind_some] at hold
  have hrow1 : ∀ rw', getT q (.vr row) = some rw' → RowBlk w w' rw' (s.Φ r q) i j y := fun rw' e => hrow rw' (by simp only [X.at, hrow0, Option.bind_some]; exact e)
  obtain ⟨y0, hy0⟩ := h.roots r row hrow0
  have hS : ∀ f b, s.S f b → w'.heap[b]? = w.heap[b]? := fun f b hb => hne b (fun e => by
    cases hz : s.Φ r q with
    | none => rw [hz] at e; simp at e
    | some z => rw [hz, Option.bind_some] at e; exact (h.own r q z b hz e).1 f hb)
  have hS' : ∀ f b, s.S f b → w'.heap[b]? = w.heap[b]? := hS
  have hnew := setT_own hn hS q i j hy0 (h.injR r) hset' hne hrow1
  -- the layout
  let s' := setΦ s r ((s.Φ r).graft (q ++ [(i, j)]) ψ)
  have hcase : ∀ r' p z, s'.Φ r' p = some z → (s.Φ r' p = some z) ∨ (r' = r ∧ ∃ p', strip (q ++ [(i, j)]) p = some p' ∧ ψ p' = some z) := by
    intro r' p z hz
    by_cases e : r' = r
    · subst e
      simp only [s', setΦ_same, graft_eq] at hz
      cases es : strip (q ++ [(i, j)]) p with
      | none => rw [es] at hz; exact .inl hz
      | some p' => rw [es] at hz; exact .inr ⟨rfl, p', rfl, hz⟩
    · simp only [s', setΦ_ne _ _ e] at hz; exact .inl hz
  have hΦ : ∀ r' p, (r' = r → strip (q ++ [(i, j)]) p = none) → s'.Φ r' p = s.Φ r' p := by
    intro r' p hh
    by_cases e : r' = r
    · have := hh e
      subst e
      simp only [s', setΦ_same, graft_eq, this]
    · simp only [s', setΦ_ne _ _ e]
  have hplain : and old.isSh n.isSh = true → s'.Φ = s.Φ := by
    intro e
    simp only [Bool.and_eq_true] at e
    obtain ⟨rw0, u0, yy, hg1, hg2, _, _⟩ := place_cell hy0 hold
    have h1 : (s.Φ r).under (q ++ [(i, j)]) = noLay := RepO.shLay hg2 e.1
    have h2 : ψ = noLay := hn.shLay e.2
    funext r'
    by_cases e' : r' = r
    · subst e'
      simp only [s', setΦ_same]
      exact graft_same (by rw [h1, h2])
    · simp only [s', setΦ_ne _ _ e']
  -- the new state's fields
  have hroots : x'.roots = (r, row2) :: x.roots := by subst hs; unfold X.turned; split <;> rfl
  have hlock : x'.lock = x.lock := by subst hs; unfold X.turned; split <;> rfl
  have hpin : x'.pin = x.pin := by subst hs; unfold X.turned; split <;> rfl
  refine {
    defers := h.defers
    size := h.size
    env := ?_
    roots := ?_
    rootn := ?_
    inj := ?_
    own := ?_
    slt := fun f b hb => by rw [hw.size]; exact h.slt f b hb
    sown := h.sown
    sro := h.sro
    srn := h.srn
    sbo := h.sbo
    srb := h.srb
    sbn := h.sbn
    F := h.F
    os := hw.os.trans h.os
    tape := hw.tape.trans h.tape
    output := hw.output.trans h.output
    grow := by rw [hw.size]; exact h.grow
    kept := ?_
    glob := fun g t hg => (h.glob g t hg).mono hS (fun _ _ h => h)
    pins := fun k hk => h.pins k (by rw [← hpin]; exact hk)
    locks := ?_
    dirt := ?_ }
  · intro k d hd
    cases hp : and old.isSh n.isSh with
    | true =>
      rw [hp] at hs
      subst hs
      obtain ⟨v, hv1, hv2⟩ := h.env k d hd
      exact ⟨v, hv1, hv2.mono hS (fun _ _ h => h) rfl (fun rp _ => by rw [show (setΦ s r ((s.Φ r).graft (q ++ [(i, j)]) ψ)).Φ = s.Φ from hplain hp])⟩
    | false =>
      rw [hp] at hs
      subst hs
      simp only [X.turned, look_mapS] at hd
      obtain ⟨d0, e, rfl⟩ := Option.map_eq_some_iff.mp hd
      obtain ⟨v, hv1, hv2⟩ := h.env k d0 e
      refine ⟨v, hv1, hv2.kill hS (fun _ _ h => h) rfl (fun r' p' hh => hΦ r' p' (fun e => ?_))⟩
      cases es : strip (q ++ [(i, j)]) p' with
      | none => rfl
      | some q' => exact absurd ⟨e, pre_of_strip es⟩ hh
  · intro r' row' hr'
    rw [hroots, look_cons] at hr'
    by_cases e : r' = r
    · subst e
      rw [if_pos rfl] at hr'
      simp only [Option.some.injEq] at hr'
      subst hr'
      exact ⟨y0, by rw [setΦ_same]; exact hnew⟩
    · rw [if_neg e] at hr'
      obtain ⟨y1, hy1⟩ := h.roots r' row' hr'
      refine ⟨y1, ?_⟩
      rw [setΦ_ne _ _ e]
      refine hy1.mono hS (fun _ _ h => h) (fun p z b hz hb => hne b (fun e2 => ?_))
      cases hz' : s.Φ r q with
      | none => rw [hz'] at e2; simp at e2
      | some z' => rw [hz', Option.bind_some] at e2; exact e (h.inj _ _ _ _ _ _ _ hz hb hz' e2).1
  · intro r' hr'
    rw [hroots, look_cons] at hr'
    by_cases e : r' = r
    · rw [if_pos e] at hr'; cases hr'
    · rw [if_neg e] at hr'
      rw [setΦ_ne _ _ e]
      exact h.rootn r' hr'
  · intro r1 p1 z1 r2 p2 z2 b h1 hb1 h2 hb2
    rcases hcase r1 p1 z1 h1 with h1 | ⟨e1, p1', hs1, h1⟩ <;> rcases hcase r2 p2 z2 h2 with h2 | ⟨e2, p2', hs2, h2⟩
    · exact h.inj _ _ _ _ _ _ _ h1 hb1 h2 hb2
    · exact absurd hb1 (ho.out _ _ _ h2 hb2 _ _ _ h1)
    · exact absurd hb2 (ho.out _ _ _ h1 hb1 _ _ _ h2)
    · have := ho.inj _ _ _ _ _ h1 hb1 h2 hb2
      subst this
      exact ⟨e1.trans e2.symm, by rw [strip_some hs1, strip_some hs2]⟩
  · intro r' p z b hz hb
    rcases hcase r' p z hz with hz | ⟨e1, p1', hs1, hz⟩
    · have := h.own _ _ _ _ hz hb
      exact ⟨this.1, by rw [hw.size]; exact this.2.1, this.2.2⟩
    · exact ho.own _ _ _ hz hb
  · intro b hb hO
    rw [← h.kept b hb hO]
    refine hne b (fun e => ?_)
    cases hz : s.Φ r q with
    | none => rw [hz] at e; simp at e
    | some z =>
      rw [hz, Option.bind_some] at e
      rcases (h.own r q z b hz e).2.2 with hh | hh
      · exact hO hh
      · omega
  · intro r' d hd
    rw [hlock] at hd
    have h0 := h.locks r' d hd
    by_cases e : r' = r
    · subst e
      have hpc := lockOk_spec hl hd
      refine ⟨?_, ?_⟩
      · rw [← h0.1]
        simp only [X.at, hroots, look_cons, if_true, hrow0, Option.bind_some]
        exact getT_setT_ne hset' (by rw [jp_zp]; exact hpc)
      · rw [← h0.2]
        funext p
        show (setΦ s r' ((s.Φ r').graft (q ++ [(i, j)]) ψ)).Φ r' (zp d ++ p) = s.Φ r' (zp d ++ p)
        refine hΦ r' _ (fun _ => ?_)
        cases es : strip (q ++ [(i, j)]) (zp d ++ p) with
        | none => rfl
        | some p' =>
          have := pre_of_strip es
          rw [jp_append (zp d), jp_zp] at this
          rw [pre_split this] at hpc; cases hpc
    · refine ⟨?_, ?_⟩
      · rw [← h0.1]
        simp only [X.at, hroots, look_cons, if_neg e]
      · rw [← h0.2, setΦ_ne _ _ e]
  · intro r' hr' p hp
    cases hpl : and old.isSh n.isSh with
    | true =>
      rw [hpl] at hs
      subst hs
      rw [show (setΦ s r ((s.Φ r).graft (q ++ [(i, j)]) ψ)).Φ = s.Φ from hplain hpl]
      exact h.dirt r' hr' p hp
    | false =>
      rw [hpl] at hs
      subst hs
      rw [show (setΦ s r ((s.Φ r).graft (q ++ [(i, j)]) ψ)).Φ r' p = s.Φ r' p from hΦ r' p (fun e => ?_)]
      · exact h.dirt r' hr' p (fun d hd => hp d (List.mem_cons_of_mem _ hd))
      · subst e
        have := hp (jp (q ++ [(i, j)])) List.mem_cons_self
        cases es : strip (q ++ [(i, j)]) p with
        | none => rfl
        | some p' => rw [pre_of_strip es] at this; cases this

/-- What a cell's content looks like to whom loads it. -/
def viewC (r : Nat) (p : Path) (t : T) : C := match t with
  | .sl .own e _ => .own r p e
  | .pp .own _ => .pt r p 0 0 0
  | .pt .own _ _ => .pt r p 0 0 0
  | .vr _ => .k .dead
  | .slo e _ _ _ => .own r p e
  | .po _ _ => .pt r p 0 0 0
  | t => .k t

theorem viewC_sh {r : Nat} {p : Path} {t : T} (h : t.isSh = true) : viewC r p t = .k t := by
  cases t with
  | sl f => cases f <;> first | rfl | simp [T.isSh] at h
  | pt f => cases f <;> first | rfl | simp [T.isSh] at h
  | pp f => cases f <;> first | rfl | simp [T.isSh] at h
  | vr => simp [T.isSh] at h
  | slo => simp [T.isSh] at h
  | po => simp [T.isSh] at h
  | _ => rfl

theorem box_viewC {r : Nat} {p : Path} {t : T} {cs : List T} (h : t.box? = some cs) : viewC r p t = .pt r p 0 0 0 := by
  cases t with
  | pp f cs' => cases f <;> simp [T.box?] at h; rfl
  | pt f e d => cases f <;> simp [T.box?] at h; rfl
  | po => rfl
  | _ => simp [T.box?] at h

theorem view_own {r : Nat} {p : Path} {t : T} {y : Value} {φ : Lay} (h : RepO w s.S t y φ) (hφ : (s.Φ r).under p = φ) : RepC w s (viewC r p t) y := by
  cases h with
  | nil e a _ h0 hn =>
    rw [← hφ, Lay.under_apply_nil] at h0
    exact .own r p e _ h0
  | sl e xs b off cap arr el vs _ hb hcap hsz hc hr h0 hn =>
    rw [← hφ, Lay.under_apply_nil] at h0
    exact .own r p e _ h0
  | slo e xs i cs b off cap arr el vs _ hb hcap hsz hc hr h0 hn =>
    rw [← hφ, Lay.under_apply_nil] at h0
    exact .own r p e _ h0
  | box _ cs ht b arr el vs _ hb hsz hc hr h0 hn =>
    rw [← hφ, Lay.under_apply_nil] at h0
    have := RepC.pt (w := w) (s := s) r p 0 0 0 _ b h0 rfl
    simp only [Nat.zero_mul, Nat.zero_add, offOf] at this
    rw [box_viewC ht]; exact this
  | vr cs _ vs _ hr h0 hn => exact .k _ _ (.dead y)
  | sh _ _ h ht => rw [viewC_sh ht]; exact .k _ _ h

/-- Owned data is taken away from its place. -/
theorem RelW.take (h : RelW B s x a w) {r : Nat} {u : T} {q : Path} {i j : Nat} (hg : x.at r (q ++ [(i, j)]) = some u) (hx : x.setAt r (q ++ [(i, j)]) u .dead = some x') :
    ∃ y, RepO w s.S u y ((s.Φ r).under (q ++ [(i, j)])) ∧ RelW B (setΦ s r ((s.Φ r).graft (q ++ [(i, j)]) noLay)) x' a w ∧
      OwnOut B (setΦ s r ((s.Φ r).graft (q ++ [(i, j)]) noLay)) w ((s.Φ r).under (q ++ [(i, j)])) := by
  have hg' := hg
  obtain ⟨row, hrow0, hg⟩ := Option.bind_eq_some_iff.mp hg
  obtain ⟨y0, hy0⟩ := h.roots r row hrow0
  obtain ⟨rw1, y, hrw, hch, hu, hblk, hcell⟩ := place_cell hy0 hg
  refine ⟨y, hu, ?_, ?_⟩
  · refine h.setAt hg' hx (.sh .dead y (.dead y) rfl) (OwnOut.none B s w) (Same.refl w) (fun _ _ => rfl) (fun row' hr' => ?_)
    simp only [X.at, hrow0, Option.bind_some] at hr'
    rw [hrw] at hr'
    simp only [Option.some.injEq] at hr'
    subst hr'
    exact hblk
  · refine ⟨?_, ?_, ?_⟩
    · intro p1 z1 p2 z2 b h1 hb1 h2 hb2
      have := (h.inj _ _ _ _ _ _ _ h1 hb1 h2 hb2).2
      simpa using this
    · intro q' z b hz hb
      exact h.own _ _ _ _ hz hb
    · intro q' z b hz hb r' p z' hz' hb'
      by_cases e : r' = r
      · subst e
        rw [setΦ_same, graft_eq] at hz'
        cases es : strip (q ++ [(i, j)]) p with
        | none =>
          rw [es] at hz'
          have := (h.inj _ _ _ _ _ _ _ hz hb hz' hb').2
          rw [← this, strip_append] at es
          simp at es
        | some p' => rw [es] at hz'; simp [noLay] at hz'
      · rw [setΦ_ne _ _ e] at hz'
        exact e (h.inj _ _ _ _ _ _ _ hz hb hz' hb').1.symm

/-- A new root. -/
def X.hang (x : X) (k : Nat) (row : List T) : Option X := match lockOk x k [] with
  | false => none
  | true => some { x with roots := (k, row) :: x.roots, env := mapS (D.kill k []) x.env, dirt := (k, []) :: x.dirt }

theorem RelW.hang (h : RelW B s x a w) {k : Nat} {row : List T} {y : Value} {ψ : Lay} (hy : RepO w s.S (.vr row) y ψ) (ho : OwnOut B s w ψ) (hx : x.hang k row = some x') :
    RelW B (setΦ s k ψ) x' a w := by
  unfold X.hang at hx
  cases hl : lockOk x k [] with
  | false => rw [hl] at hx; cases hx
  | true =>
  rw [hl] at hx
  simp only [Option.some.injEq] at hx
  subst hx
  have hcase : ∀ r p z, (setΦ s k ψ).Φ r p = some z → (r ≠ k ∧ s.Φ r p = some z) ∨ (r = k ∧ ψ p = some z) := by
    intro r p z hz
    by_cases e : r = k
    · subst e; rw [setΦ_same] at hz; exact .inr ⟨rfl, hz⟩
    · rw [setΦ_ne _ _ e] at hz; exact .inl ⟨e, hz⟩
  have hlk : ∀ r d, (r, d) ∈ x.lock → r ≠ k := by
    intro r d hm e
    subst e
    have := lockOk_spec hl hm
    simp [pc, pre] at this
  refine { h with
    env := ?_
    roots := ?_
    rootn := ?_
    inj := ?_
    own := ?_
    locks := ?_
    dirt := ?_ }
  · intro k' d hd
    simp only [look_mapS] at hd
    obtain ⟨d0, e, rfl⟩ := Option.map_eq_some_iff.mp hd
    obtain ⟨v, hv1, hv2⟩ := h.env k' d0 e
    refine ⟨v, hv1, hv2.kill (fun _ _ _ => rfl) (fun _ _ h => h) rfl (fun r' p' hh => ?_)⟩
    exact congrFun (setΦ_ne _ _ (fun e => hh ⟨e, rfl⟩)) p'
  · intro r row' hr
    rw [look_cons] at hr
    by_cases e : r = k
    · subst e
      rw [if_pos rfl] at hr
      simp only [Option.some.injEq] at hr
      subst hr
      exact ⟨y, by rw [setΦ_same]; exact hy⟩
    · rw [if_neg e] at hr
      obtain ⟨y', hy'⟩ := h.roots r row' hr
      exact ⟨y', by rw [setΦ_ne _ _ e]; exact hy'⟩
  · intro r hr
    rw [look_cons] at hr
    by_cases e : r = k
    · rw [if_pos e] at hr; cases hr
    · rw [if_neg e] at hr
      rw [setΦ_ne _ _ e]
      exact h.rootn r hr
  · intro r1 p1 z1 r2 p2 z2 b h1 hb1 h2 hb2
    rcases hcase r1 p1 z1 h1 with ⟨_, h1⟩ | ⟨e1, h1⟩ <;> rcases hcase r2 p2 z2 h2 with ⟨_, h2⟩ | ⟨e2, h2⟩
    · exact h.inj _ _ _ _ _ _ _ h1 hb1 h2 hb2
    · exact absurd hb1 (ho.out _ _ _ h2 hb2 _ _ _ h1)
    · exact absurd hb2 (ho.out _ _ _ h1 hb1 _ _ _ h2)
    · exact ⟨e1.trans e2.symm, ho.inj _ _ _ _ _ h1 hb1 h2 hb2⟩
  · intro r p z b hz hb
    rcases hcase r p z hz with ⟨_, hz⟩ | ⟨_, hz⟩
    · exact h.own _ _ _ _ hz hb
    · exact ho.own _ _ _ hz hb
  · intro r d hd
    have hne := hlk r d hd
    have h0 := h.locks r d hd
    refine ⟨?_, ?_⟩
    · rw [← h0.1]; simp only [X.at, look_cons, if_neg hne]
    · rw [← h0.2, setΦ_ne _ _ hne]
  · intro r hr p hp
    by_cases e : r = k
    · subst e
      have := hp [] List.mem_cons_self
      simp [pre] at this
    · rw [setΦ_ne _ _ e]
      exact h.dirt r hr p (fun d hd => hp d (List.mem_cons_of_mem _ hd))

end
end Go.V
