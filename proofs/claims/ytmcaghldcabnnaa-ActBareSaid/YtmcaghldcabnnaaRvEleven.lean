/- A row's turning in the state; taking cells for good. -/
import Derived.Test.YtmcaghldcabnnaaRvTen
namespace Go.V
open Go.RowKit

def killAll (r : Nat) (ds : List (List Nat)) (env : List (Nat × D)) : List (Nat × D) := match ds with
  | [] => env
  | d :: ds => killAll r ds (mapS (D.kill r d) env)

def tagAll (r : Nat) (ds : List (List Nat)) (l : List (Nat × List Nat)) : List (Nat × List Nat) := match ds with
  | [] => l
  | d :: ds => (r, d) :: tagAll r ds l

theorem tagAll_mem {r : Nat} : ∀ {ds : List (List Nat)} {l : List (Nat × List Nat)} {e : Nat × List Nat}, (e ∈ l → e ∈ tagAll r ds l) ∧ (∀ d ∈ ds, (r, d) ∈ tagAll r ds l)
  | [], l, e => ⟨fun h => h, fun d h => by simp at h⟩
  | d :: ds, l, e => ⟨fun h => List.mem_cons_of_mem _ ((tagAll_mem (ds := ds)).1 h), fun d' h => by
      rcases List.mem_cons.1 h with rfl | h
      · exact List.mem_cons_self
      · exact List.mem_cons_of_mem _ ((tagAll_mem (ds := ds) (e := e)).2 d' h)⟩

def X.turnedL (x : X) (r : Nat) (ds : List (List Nat)) (row' : List T) : X :=
  { x with roots := (r, row') :: x.roots, env := killAll r ds x.env, dirt := tagAll r ds x.dirt }

section
variable {B : Base} {s : Sit} {x x' : X} {a : Act} {w w' : World}

theorem killAll_sound {s s' : Sit} {r : Nat} (hw : ∀ f b, s.S f b → w'.heap[b]? = w.heap[b]?) (hS : ∀ f b, s.S f b → s'.S f b) (hF : s'.F = s.F) :
    ∀ (ds : List (List Nat)) {env : List (Nat × D)}, (∀ r' p', ¬ (r' = r ∧ ∃ d ∈ ds, pre d (jp p') = true) → s'.Φ r' p' = s.Φ r' p') →
    ∀ k d, look (killAll r ds env) k = some d → ∃ d0, look env k = some d0 ∧ ∀ v, RepD w s d0 v → RepD w' s' d v := by
  -- a cell killed by all of them
  let kc : List (List Nat) → C → C := fun ds c => ds.foldl (fun c d => c.kill r d) c
  have hdead : ∀ (ds : List (List Nat)) , kc ds (.k .dead) = .k .dead := by
    intro ds
    induction ds with
    | nil => rfl
    | cons d ds ih => exact ih
  have hkc : ∀ (ds : List (List Nat)) (c : C), kc ds c = c ∨ kc ds c = .k .dead := by
    intro ds
    induction ds with
    | nil => intro c; exact .inl rfl
    | cons d ds ih =>
      intro c
      show kc ds (c.kill r d) = c ∨ kc ds (c.kill r d) = _
      unfold C.kill
      cases hits r d c with
      | true => exact .inr (hdead ds)
      | false => exact ih c
  have hsame : ∀ (ds : List (List Nat)) (c : C), kc ds c = c → c ≠ .k .dead → ∀ d ∈ ds, hits r d c = false := by
    intro ds
    induction ds with
    | nil => intro c _ _ d hd; simp at hd
    | cons d0 ds ih =>
      intro c hc hne d hd
      have hc' : kc ds (c.kill r d0) = c := hc
      cases hh : hits r d0 c with
      | true =>
        unfold C.kill at hc'
        rw [hh] at hc'
        rw [hdead] at hc'
        exact absurd hc'.symm hne
      | false =>
        unfold C.kill at hc'
        rw [hh] at hc'
        rcases List.mem_cons.1 hd with rfl | hd
        · exact hh
        · exact ih c hc' hne d hd
  intro ds env hΦ
  have hcell : ∀ c v, RepC w s c v → RepC w' s' (kc ds c) v := by
    intro c v hc
    rcases hkc ds c with e | e
    · rw [e]
      by_cases hd : c = .k .dead
      · subst hd; exact .k _ _ (.dead v)
      · refine hc.mono hw hS hF (fun rp hrp => hΦ rp.1 rp.2 (fun ⟨e1, d, hd1, hd2⟩ => ?_))
        have h1 := hsame ds c e hd d hd1
        have h2 : hits r d c = true := by
          unfold hits
          rw [anyL_iff]
          exact ⟨rp, hrp, by rw [e1]; simp [hd2]⟩
        rw [h1] at h2; cases h2
    · rw [e]; exact .k _ _ (.dead v)
  let kv : List (List Nat) → V → V := fun ds c => ds.foldl (fun c d => c.kill r d) c
  have hkv : ∀ (ds : List (List Nat)) (v : V), kv ds v = match v with | .c y => .c (kc ds y) | .ag cs => .ag (cs.map (kc ds)) := by
    intro ds
    induction ds with
    | nil => intro v; cases v <;> simp [kv, kc]
    | cons d ds ih =>
      intro v
      show kv ds (v.kill r d) = _
      rw [ih]
      cases v with
      | c y => rfl
      | ag cs => simp only [V.kill, mapL_eq, List.map_map]; rfl
  let kd : List (List Nat) → D → D := fun ds c => ds.foldl (fun c d => c.kill r d) c
  have hkd : ∀ (ds : List (List Nat)) (v : D), kd ds v = match v with | .v y => .v (kv ds y) | .tup cs => .tup (cs.map (kv ds)) := by
    intro ds
    induction ds with
    | nil => intro v; cases v <;> simp [kd, kv]
    | cons d ds ih =>
      intro v
      show kd ds (v.kill r d) = _
      rw [ih]
      cases v with
      | v y => rfl
      | tup cs => simp only [D.kill, mapL_eq, List.map_map]; rfl
  have hlook : ∀ (ds : List (List Nat)) (env : List (Nat × D)) k, look (killAll r ds env) k = (look env k).map (kd ds) := by
    intro ds
    induction ds with
    | nil => intro env k; simp only [killAll]; cases look env k <;> rfl
    | cons d ds ih =>
      intro env k
      simp only [killAll, ih, look_mapS]
      cases look env k <;> rfl
  have hv : ∀ c v, RepV w s c v → RepV w' s' (kv ds c) v := by
    intro c v hc
    rw [hkv]
    have := hc.conv (g := kc ds) (w' := w') (s' := s') (fun c _ v hc => hcell c v hc)
    cases c <;> exact this
  intro k d hd
  rw [hlook] at hd
  obtain ⟨d0, h0, rfl⟩ := Option.map_eq_some_iff.mp hd
  refine ⟨d0, h0, fun v hd0 => ?_⟩
  rw [hkd]
  cases hd0 with
  | v y v hy => exact .v _ _ (hv _ _ hy)
  | tup xs arr hs hx =>
    refine .tup _ arr (by simp [hs]) (fun j c e => ?_)
    rw [List.getElem?_map] at e
    obtain ⟨c0, e1, rfl⟩ := Option.map_eq_some_iff.mp e
    obtain ⟨v, h1, h2⟩ := hx j c0 e1
    exact ⟨v, h1, hv _ _ h2⟩

theorem pre_snoc {d l : List Nat} {j : Nat} (h : pre d l = true) : pre d (l ++ [j]) = true := pre_prefix h

theorem RelW.setRow (h : RelW B s x a w) {r : Nat} {p : Path} {i : Nat} {t0 : T} {cs cs' row row' : List T} {ys : Nat → Option Value} {ch : Nat → Bool} {ψ : Lay} {ds : List (List Nat)}
    (hrow0 : look x.roots r = some row) (hp0 : getT p (.vr row) = some t0) (hg : getRowT t0 i = some cs) (hl : cs'.length = cs.length)
    (hset : setRowT p (.vr row) i cs' = some (.vr row')) (hch : ∀ j, ch j = (ys j).isSome) (hys : ∀ j, cs[j]? = none → ys j = none)
    (hnew : ∀ (j : Nat) u, cs'[j]? = some u → (∃ y, ys j = some y ∧ RepO w' s.S u y (ψ.at 0 j)) ∨ (ys j = none ∧ cs[j]? = some u))
    (hds : ∀ (j : Nat) o n, ch j = true → cs[j]? = some o → cs'[j]? = some n → (o.isSh = true ∧ n.isSh = true) ∨ (jp p ++ [j]) ∈ ds)
    (hlock : ∀ j, ch j = true → lockOk x r (jp p ++ [j]) = true) (hsome : ∃ j, ch j = true)
    (ho : OwnOut B s w' ψ) (hw : Same w w') (hne : ∀ b, (s.Φ r p).bind blkOf ≠ some b → w'.heap[b]? = w.heap[b]?) (hturn : RowTurn w w' t0 (s.Φ r p) i ys) :
    RelW B (setΦ s r ((s.Φ r).rowGraft p i ch ψ)) (x.turnedL r ds row') a w' := by
  obtain ⟨y0, hy0⟩ := h.roots r row hrow0
  have hS : ∀ f b, s.S f b → w'.heap[b]? = w.heap[b]? := fun f b hb => hne b (fun e => by
    cases hz : s.Φ r p with
    | none => rw [hz] at e; simp at e
    | some z => rw [hz, Option.bind_some] at e; exact (h.own r p z b hz e).1 f hb)
  have hnewT := setRowT_own hl hS hch hys hnew p hy0 (h.injR r) ⟨t0, hp0, hg⟩ hset hne (fun row1 hr => by rw [hp0, Option.some.injEq] at hr; subst hr; exact hturn)
  let s' := setΦ s r ((s.Φ r).rowGraft p i ch ψ)
  have hcase : ∀ r' q z, s'.Φ r' q = some z → (s.Φ r' q = some z) ∨ (r' = r ∧ ∃ j q', strip p q = some ((i, j) :: q') ∧ ch j = true ∧ ψ ((0, j) :: q') = some z) := by
    intro r' q z hz
    by_cases e : r' = r
    · subst e
      simp only [s', setΦ_same, Lay.rowGraft] at hz
      split at hz
      · rename_i k j q' hs
        split at hz
        · rename_i hk
          obtain ⟨rfl, hk⟩ := hk
          exact .inr ⟨rfl, j, q', hs, hk, hz⟩
        · exact .inl hz
      · exact .inl hz
    · simp only [s', setΦ_ne _ _ e] at hz; exact .inl hz
  have hΦ : ∀ r' q, (r' = r → ∀ j q', strip p q = some ((i, j) :: q') → ch j = false) → s'.Φ r' q = s.Φ r' q := by
    intro r' q hh
    by_cases e : r' = r
    · have hh2 := hh e
      subst e
      simp only [s', setΦ_same, Lay.rowGraft]
      split
      · rename_i k j q' hs
        split
        · rename_i hk
          obtain ⟨rfl, hk⟩ := hk
          rw [hh2 j q' hs] at hk; cases hk
        · rfl
      · rfl
    · simp only [s', setΦ_ne _ _ e]
  -- a cell that is plain before and behind owns nothing
  have hplain : ∀ q j q', strip p q = some ((i, j) :: q') → ch j = true → (jp p ++ [j]) ∉ ds → s'.Φ r q = s.Φ r q := by
    intro q j q' hs hj hnd
    have hq := strip_some hs
    have hcj : cs[j]? ≠ none := fun e => by rw [hch, hys j e] at hj; cases hj
    obtain ⟨o, ho'⟩ := Option.ne_none_iff_exists'.mp hcj
    have hlt := (List.getElem?_eq_some_iff.mp ho').1
    have hn' : cs'[j]? = some cs'[j] := List.getElem?_eq_getElem (by omega)
    rcases hds j o _ hj ho' hn' with ⟨h1, h2⟩ | h1
    · have e1 : s.Φ r q = none := by
        have hat : getT (p ++ [(i, j)]) (.vr row) = some o := by rw [getT_append, hp0, Option.bind_some]; simp only [getT]; rw [getRow_child hg, ho']; rfl
        obtain ⟨rw1, y1, _, _, hu, _, _⟩ := place_cell hy0 hat
        have := congrFun (hu.shLay h1) q'
        simp only [Lay.under, noLay] at this
        rw [hq, ← this]; simp
      have e2 : s'.Φ r q = none := by
        simp only [s', setΦ_same, Lay.rowGraft, hs, true_and, hj, if_true]
        rcases hnew j _ hn' with ⟨y, e3, e4⟩ | ⟨e3, _⟩
        · have := congrFun (e4.shLay h2) q'
          exact this
        · rw [hch, e3] at hj; cases hj
      rw [e1, e2]
    · exact absurd h1 hnd
  obtain ⟨j0, hj0⟩ := hsome
  refine {
    defers := h.defers
    size := h.size
    env := ?_
    roots := ?_
    rootn := ?_
    inj := ?_
    own := ?_
    slt := fun f b hb => by rw [hw.size]; exact h.slt f b hb
    sown := h.sown
    sro := h.sro
    srn := h.srn
    sbo := h.sbo
    srb := h.srb
    sbn := h.sbn
    F := h.F
    os := hw.os.trans h.os
    tape := hw.tape.trans h.tape
    output := hw.output.trans h.output
    grow := by rw [hw.size]; exact h.grow
    kept := ?_
    glob := fun g t hg => (h.glob g t hg).mono hS (fun _ _ h => h)
    pins := h.pins
    locks := ?_
    dirt := ?_ }
  · intro k d hd
    obtain ⟨d0, h0, hrep⟩ := killAll_sound (s := s) (s' := s') (w := w) (w' := w') (r := r) hS (fun _ _ h => h) rfl ds (fun r' q hh => by
      by_cases e : r' = r
      · subst e
        cases hst : strip p q with
        | none => exact hΦ r' q (fun _ j q' e2 => by rw [hst] at e2; cases e2)
        | some q1 =>
          cases q1 with
          | nil => exact hΦ r' q (fun _ j q' e2 => by rw [hst] at e2; cases e2)
          | cons kj q' =>
            obtain ⟨k1, j⟩ := kj
            by_cases hk : k1 = i
            · subst hk
              cases hc : ch j with
              | false => exact hΦ r' q (fun _ j' q'' e2 => by rw [hst] at e2; simp only [Option.some.injEq, List.cons.injEq, Prod.mk.injEq, true_and] at e2; rw [← e2.1]; exact hc)
              | true =>
                refine hplain q j q' hst hc (fun hm => hh ⟨rfl, _, hm, ?_⟩)
                rw [strip_some hst, jp_append]
                exact by
                  have : jp ((k1, j) :: q') = [j] ++ jp q' := rfl
                  rw [this, ← List.append_assoc]; exact pre_append _ _
            · exact hΦ r' q (fun _ j' q'' e2 => by rw [hst] at e2; simp only [Option.some.injEq, List.cons.injEq, Prod.mk.injEq] at e2; exact absurd e2.1.1 hk)
      · exact hΦ r' q (fun e' => absurd e' e)) k d hd
    obtain ⟨v, hv1, hv2⟩ := h.env k d0 h0
    exact ⟨v, hv1, hrep v hv2⟩
  · intro r' row1 hr'
    rw [show (x.turnedL r ds row').roots = (r, row') :: x.roots from rfl, look_cons] at hr'
    by_cases e : r' = r
    · subst e
      rw [if_pos rfl] at hr'
      simp only [Option.some.injEq] at hr'
      subst hr'
      exact ⟨y0, by rw [setΦ_same]; exact hnewT⟩
    · rw [if_neg e] at hr'
      obtain ⟨y1, hy1⟩ := h.roots r' row1 hr'
      refine ⟨y1, ?_⟩
      rw [setΦ_ne _ _ e]
      refine hy1.mono hS (fun _ _ h => h) (fun q z b hz hb => hne b (fun e2 => ?_))
      cases hz' : s.Φ r p with
      | none => rw [hz'] at e2; simp at e2
      | some z' => rw [hz', Option.bind_some] at e2; exact e (h.inj _ _ _ _ _ _ _ hz hb hz' e2).1
  · intro r' hr'
    rw [show (x.turnedL r ds row').roots = (r, row') :: x.roots from rfl, look_cons] at hr'
    by_cases e : r' = r
    · rw [if_pos e] at hr'; cases hr'
    · rw [if_neg e] at hr'
      rw [setΦ_ne _ _ e]
      exact h.rootn r' hr'
  · intro r1 p1 z1 r2 p2 z2 b h1 hb1 h2 hb2
    rcases hcase r1 p1 z1 h1 with h1 | ⟨e1, j1, p1', hs1, hc1, h1⟩ <;> rcases hcase r2 p2 z2 h2 with h2 | ⟨e2, j2, p2', hs2, hc2, h2⟩
    · exact h.inj _ _ _ _ _ _ _ h1 hb1 h2 hb2
    · exact absurd hb1 (ho.out _ _ _ h2 hb2 _ _ _ h1)
    · exact absurd hb2 (ho.out _ _ _ h1 hb1 _ _ _ h2)
    · have := ho.inj _ _ _ _ _ h1 hb1 h2 hb2
      simp only [List.cons.injEq, Prod.mk.injEq, true_and] at this
      obtain ⟨rfl, rfl⟩ := this
      exact ⟨e1.trans e2.symm, by rw [strip_some hs1, strip_some hs2]⟩
  · intro r' q z b hz hb
    rcases hcase r' q z hz with hz | ⟨e1, j1, p1', hs1, hc1, hz⟩
    · have := h.own _ _ _ _ hz hb
      exact ⟨this.1, by rw [hw.size]; exact this.2.1, this.2.2⟩
    · exact ho.own _ _ _ hz hb
  · intro b hb hO
    rw [← h.kept b hb hO]
    refine hne b (fun e => ?_)
    cases hz : s.Φ r p with
    | none => rw [hz] at e; simp at e
    | some z =>
      rw [hz, Option.bind_some] at e
      rcases (h.own r p z b hz e).2.2 with hh | hh
      · exact hO hh
      · omega
  · intro r' d hd
    have h0 := h.locks r' d hd
    by_cases e : r' = r
    · subst e
      have hpc : ∀ j, ch j = true → pc (jp p ++ [j]) d = false := fun j hj => lockOk_spec (hlock j hj) hd
      refine ⟨?_, ?_⟩
      · rw [← h0.1]
        simp only [X.at, show (x.turnedL r' ds row').roots = (r', row') :: x.roots from rfl, look_cons, if_true, hrow0, Option.bind_some]
        refine setRowT_ne hset ⟨t0, hp0, hg⟩ hl (fun j hj => ?_) ?_
        · rw [jp_zp] at hj
          have hcj : ch j = false := by
            cases hc : ch j with
            | false => rfl
            | true => rw [hpc j hc] at hj; cases hj
          have hyj : ys j = none := by
            have := hch j
            rw [hcj] at this
            cases hy : ys j with
            | none => rfl
            | some y => rw [hy] at this; cases this
          cases hu : cs'[j]? with
          | none =>
            symm
            rw [List.getElem?_eq_none_iff] at hu ⊢; omega
          | some u =>
            rcases hnew j u hu with ⟨y, e1, _⟩ | ⟨_, e2⟩
            · rw [hyj] at e1; cases e1
            · exact e2.symm
        · rw [jp_zp]
          have := hpc j0 hj0
          cases hpr : pre d (jp p) with
          | false => rfl
          | true =>
            exfalso
            have h2 := pre_snoc (j := j0) hpr
            unfold pc at this
            cases h3 : pre (jp p ++ [j0]) d with
            | true => rw [h3] at this; cases this
            | false => rw [h3] at this; simp only at this; rw [h2] at this; cases this
      · rw [← h0.2]
        funext q
        show s'.Φ r' (zp d ++ q) = s.Φ r' (zp d ++ q)
        refine hΦ r' _ (fun _ j q' hst => ?_)
        cases hc : ch j with
        | false => rfl
        | true =>
          exfalso
          have h1 := hpc j hc
          have h2 : jp (zp d ++ q) = jp p ++ [j] ++ jp q' := by
            rw [strip_some hst, jp_append]
            have : jp ((i, j) :: q') = [j] ++ jp q' := rfl
            rw [this, List.append_assoc]
          rw [jp_append (zp d), jp_zp] at h2
          have h3 : pre (jp p ++ [j]) (d ++ jp q) = true := by rw [h2]; exact pre_append _ _
          rw [pre_split h3] at h1; cases h1
    · refine ⟨?_, ?_⟩
      · rw [← h0.1]
        simp only [X.at, show (x.turnedL r ds row').roots = (r, row') :: x.roots from rfl, look_cons, if_neg e]
      · rw [← h0.2, setΦ_ne _ _ e]
  · intro r' hr' q hq
    have hq1 : ∀ d, (r', d) ∈ x.dirt → pre d (jp q) = false := fun d hd => hq d ((tagAll_mem (ds := ds)).1 hd)
    rw [← h.dirt r' hr' q hq1]
    by_cases e : r' = r
    · subst e
      have hq2 : ∀ d ∈ ds, pre d (jp q) = false := fun d hd => hq d ((tagAll_mem (l := x.dirt) (e := (r', d))).2 d hd)
      cases hst : strip p q with
      | none => exact hΦ r' q (fun _ j q' e2 => by rw [hst] at e2; cases e2)
      | some q1 =>
        cases q1 with
        | nil => exact hΦ r' q (fun _ j q' e2 => by rw [hst] at e2; cases e2)
        | cons kj q' =>
          obtain ⟨k1, j⟩ := kj
          by_cases hk : k1 = i
          · subst hk
            cases hc : ch j with
            | false => exact hΦ r' q (fun _ j' q'' e2 => by rw [hst] at e2; simp only [Option.some.injEq, List.cons.injEq, Prod.mk.injEq, true_and] at e2; rw [← e2.1]; exact hc)
            | true =>
              refine hplain q j q' hst hc (fun hm => ?_)
              have := hq2 _ hm
              rw [strip_some hst, jp_append, show jp ((k1, j) :: q') = [j] ++ jp q' from rfl, ← List.append_assoc, pre_append] at this
              cases this
          · exact hΦ r' q (fun _ j' q'' e2 => by rw [hst] at e2; simp only [Option.some.injEq, List.cons.injEq, Prod.mk.injEq] at e2; exact absurd e2.1.1 hk)
    · exact hΦ r' q (fun e' => absurd e' e)

end
end Go.V
