/- What a label sees of acts. -/
import Derived.Test.YtgiceldgkonbbaaHaActs
namespace Go.Ha
open Go.RowKit Go.Proofs Go.V

/-- The first label dominates the second. -/
def above (x y : Int × Int) : Bool := decide (y.1 ≤ x.1) && decide (Go.bits .and .i64 x.2 y.2 = y.2)

theorem above_is (x y : Int × Int) : r13 (x, y) = some (above x y) := by
  unfold r13
  simp only [bif_some, and_bif]
  rfl

theorem lab_fin {l : Int × Int} (h : LabOk l) : ∃ (i : Fin 3) (j : Fin 4), l = ((i.val : Int), (j.val : Int)) := by
  obtain ⟨h1, h2, h3, h4⟩ := h
  refine ⟨⟨l.1.toNat, by omega⟩, ⟨l.2.toNat, by omega⟩, Prod.ext ?_ ?_⟩
  · simp only; omega
  · simp only; omega

theorem above_refl {l : Int × Int} (h : LabOk l) : above l l = true := by
  obtain ⟨i, j, rfl⟩ := lab_fin h
  clear h
  revert i j
  decide +kernel

set_option maxRecDepth 100000 in
theorem above_trans_fin : ∀ (i : Fin 3) (j : Fin 4) (k : Fin 3) (l : Fin 4) (m : Fin 3) (n : Fin 4), above ((i.val : Int), (j.val : Int)) ((k.val : Int), (l.val : Int)) = true → above ((k.val : Int), (l.val : Int)) ((m.val : Int), (n.val : Int)) = true →
    above ((i.val : Int), (j.val : Int)) ((m.val : Int), (n.val : Int)) = true := by
  decide +kernel

theorem above_trans {x y z : Int × Int} (hx : LabOk x) (hy : LabOk y) (hz : LabOk z) (h1 : above x y = true) (h2 : above y z = true) : above x z = true := by
  obtain ⟨i, j, rfl⟩ := lab_fin hx
  obtain ⟨k, l, rfl⟩ := lab_fin hy
  obtain ⟨m, n, rfl⟩ := lab_fin hz
  exact above_trans_fin _ _ _ _ _ _ h1 h2

def labAt (c : Cfg) (i : Int) : Int × Int := c.2.1.getD i.toNat (0, 0)
def placed (c : Cfg) (i : Int) : Bool := decide (0 ≤ i) && decide (i < (c.2.1.length : Int))

theorem placed_iff {c : Cfg} {i : Int} : placed c i = true ↔ 0 ≤ i ∧ i < c.2.1.length := by
  unfold placed
  simp

/-- A label that is there, and isn't dominated. -/
def hides (c : Cfg) (n i : Int) : Bool := placed c i && !above (labAt c n) (labAt c i)

theorem place_is (c : Cfg) (i : Int) : r29 (c, i) = some (placed c i) := by
  unfold r29
  simp only [bif_some, and_bif]
  rfl

theorem at_is {c : Cfg} {i : Int} (h : placed c i = true) : idxI c.2.1 i = some (labAt c i) := by
  obtain ⟨h0, h1⟩ := placed_iff.1 h
  obtain ⟨x, e1, e2⟩ := idxI_is h0 h1
  rw [e1]
  unfold labAt
  rw [List.getD, e2]; rfl

theorem hides_is {c : Cfg} {n : Int} (hn : placed c n = true) (i : Int) :
    (Option.bind (r29 (c, i)) fun (y : Bool) => bif y then Option.bind (idxI c.2.1 n) fun (b : (Int × Int)) => Option.bind (idxI c.2.1 i) fun (b' : (Int × Int)) => Option.bind (r13 (b, b')) fun (y' : Bool) => some !(y') else some false) = some (hides c n i) := by
  rw [place_is, Option.bind_some]
  unfold hides
  cases h : placed c i with
  | true => rw [at_is hn, at_is h]; simp only [cond_true, Option.bind_some, above_is, Bool.true_and]
  | false => rfl

/-- What is kept of tapes that are not seen is 0. -/
def zeroed (c : Cfg) (n : Int) (k : List Int) : List Int := k.mapIdx fun j v => bif hides c n j then 0 else v

def withKeep (a : Act) (k : List Int) : Act := (a.1, a.2.1, a.2.2.1, a.2.2.2.1, a.2.2.2.2.1, k, a.2.2.2.2.2.2.1, a.2.2.2.2.2.2.2)
def flat (a : Act) : Flat := ((), a.1, a.2.1, a.2.2.1, a.2.2.2.1, a.2.2.2.2.1, a.2.2.2.2.2.1, a.2.2.2.2.2.2.1.1, a.2.2.2.2.2.2.1.2.1, a.2.2.2.2.2.2.1.2.2.1, a.2.2.2.2.2.2.1.2.2.2.1, a.2.2.2.2.2.2.1.2.2.2.2, a.2.2.2.2.2.2.2)

/-- What is seen of an act. -/
def purge1 (c : Cfg) (n : Int) (a : Act) : Option Act :=
  bif decide (a.1 = 5) || decide (a.1 = 7) then some a
  else bif decide (a.1 = 6) then some (withKeep a (zeroed c n a.2.2.2.2.2.1))
  else bif hides c n a.2.2.2.1 then none else some a

theorem zero_is {c : Cfg} {n : Int} (hn : placed c n = true) {a : Act} {l : List Act} (hk : a.2.2.2.2.2.1.length ≤ 1000) :
    loopR (r21_L0 a (c, n, l)) ((), 0, (flat a).2) = some (flat (withKeep a (zeroed c n a.2.2.2.2.2.1))) := by
  generalize hks : a.2.2.2.2.2.1 = ks at hk
  have part : ∀ i : Nat, List Int := fun i => ks.mapIdx fun j v => bif decide (j < i) && hides c n j then 0 else v
  obtain ⟨r, h1, h2⟩ := loop_rule (body := r21_L0 a (c, n, l)) (fun d => ∃ i : Nat, i ≤ ks.length ∧ d = ((), ((i : Int), (flat (withKeep a (ks.mapIdx fun j v => bif decide (j < i) && hides c n j then 0 else v))).2)))
    (fun d => ks.length - d.2.1.toNat) (fun r => r = flat (withKeep a (zeroed c n ks))) (fun d hd => by
      obtain ⟨i, i1, rfl⟩ := hd
      unfold r21_L0
      simp only [hks, hides_is hn]
      by_cases k : (i : Int) < ks.length
      · refine .inl ?_
        have hw : Go.IntKind.wrap .i64 ((i : Int) + 1) = ((i + 1 : Nat) : Int) := by rw [wrap_i64 (by unfold i64; omega)]; omega
        rw [decide_eq_true k, hw]
        have hstep : ∀ (w : Bool), hides c n i = w → (bif w then List.set (ks.mapIdx fun j v => bif decide (j < i) && hides c n j then 0 else v) i 0 else (ks.mapIdx fun j v => bif decide (j < i) && hides c n j then 0 else v)) =
            ks.mapIdx fun j v => bif decide (j < i + 1) && hides c n j then 0 else v := by
          intro w hw
          apply List.ext_getElem?
          intro j
          cases w with
          | true =>
            simp only [cond_true, List.getElem?_set, List.getElem?_mapIdx, List.length_mapIdx]
            by_cases e : i = j
            · subst e
              rw [if_pos rfl, if_pos (by omega), List.getElem?_eq_getElem (by omega : i < ks.length)]
              simp [hw]
            · rw [if_neg e]
              have : decide (j < i + 1) = decide (j < i) := by
                by_cases h : j < i
                · rw [decide_eq_true h, decide_eq_true (by omega)]
                · rw [decide_eq_false h, decide_eq_false (by omega)]
              rw [this]
          | false =>
            simp only [cond_false, List.getElem?_mapIdx]
            by_cases e : i = j
            · subst e
              simp [hw]
            · have : decide (j < i + 1) = decide (j < i) := by
                by_cases h : j < i
                · rw [decide_eq_true h, decide_eq_true (by omega)]
                · rw [decide_eq_false h, decide_eq_false (by omega)]
              rw [this]
        cases hh : hides c n i with
        | true =>
          have hs := hstep true hh
          simp only [cond_true] at hs
          obtain ⟨x, e1, -⟩ := idxN_is (xs := (ks.mapIdx fun j v => bif decide (j < i) && hides c n j then 0 else v)) (n := i) (by rw [List.length_mapIdx]; omega)
          simp only [cond_true, Option.bind_some, flat, withKeep, Int.toNat_natCast, e1, inB_true (n := (i : Int)) (l := (ks.mapIdx fun j v => bif decide (j < i) && hides c n j then 0 else v).length) (by omega) (by rw [List.length_mapIdx]; omega), hs]
          exact ⟨_, rfl, ⟨i + 1, by omega, rfl⟩, by simp only; omega⟩
        | false =>
          have hs := hstep false hh
          simp only [cond_false] at hs
          simp only [cond_true, cond_false, Option.bind_some, flat, withKeep, hs]
          exact ⟨_, rfl, ⟨i + 1, by omega, rfl⟩, by simp only; omega⟩
      · rw [decide_eq_false k]
        refine .inr ⟨_, rfl, ?_⟩
        have : (ks.mapIdx fun j v => bif decide (j < i) && hides c n j then 0 else v) = zeroed c n ks := by
          apply List.ext_getElem?
          intro j
          unfold zeroed
          simp only [List.getElem?_mapIdx]
          by_cases h : j < ks.length
          · rw [decide_eq_true (by omega : j < i), Bool.true_and]
          · rw [List.getElem?_eq_none (by omega)]; simp
        rw [this]) ((), 0, (flat a).2) ⟨0, by omega, by
          have : (ks.mapIdx fun j v => bif decide (j < 0) && hides c n j then 0 else v) = ks := by
            apply List.ext_getElem?
            intro j
            simp
          rw [this, ← hks]; rfl⟩
  rw [h1, h2]

theorem own_is {a : Act} (hk : a.2.2.2.2.2.1.length ≤ 1000) : r30 a = some a := by
  unfold r30
  rw [roomOk_true (by omega)]; rfl

theorem purge_is {c : Cfg} (hc : CfgOk c) {n : Int} (hn : placed c n = true) {l : List Act} (hl : l.length ≤ 1000) (hk : ∀ a ∈ l, a.2.2.2.2.2.1.length ≤ 1000) : r21 (c, n, l) = some (l.filterMap (purge1 c n), 0) := by
  obtain ⟨r, h1, h2⟩ := loop_rule (body := r21_L1 (c, n, l)) (fun d => 0 ≤ d.2.1 ∧ d.2.1 ≤ l.length ∧ d.2.2 = (l.take d.2.1.toNat).filterMap (purge1 c n)) (fun d => l.length - d.2.1.toNat) (fun r => r.2 = l.filterMap (purge1 c n)) (fun d hd => by
    obtain ⟨u, i, out⟩ := d
    obtain ⟨i0, i1, i2⟩ := hd
    simp only at i0 i1 i2
    unfold r21_L1
    simp only [hides_is hn]
    by_cases k : i < l.length
    · refine .inl ?_
      obtain ⟨a, e1, e2⟩ := idxI_is i0 k
      have hka := hk a (List.mem_of_getElem? e2)
      have hw : Go.IntKind.wrap .i64 (i + 1) = i + 1 := wrap_i64 (by unfold i64; omega)
      have hol : out.length ≤ 1000 := by
        rw [i2]
        refine Nat.le_trans (List.length_filterMap_le _ _) ?_
        rw [List.length_take]; omega
      have htk : (l.take (i + 1).toNat).filterMap (purge1 c n) = out ++ (purge1 c n a).toList := by
        rw [show (i + 1).toNat = i.toNat + 1 by omega, List.take_add_one, e2, List.filterMap_append, ← i2]
        cases hpa : purge1 c n a <;> simp [hpa]
      have hz := zero_is (l := l) hn (a := a) hka
      rw [decide_eq_true k]
      simp only [cond_true, e1, Option.bind_some, own_is hka, bif_some, hw, roomOk_true (z := false) (n := out.length) (m := 1) (b := 120) (by omega)]
      by_cases k5 : a.1 = 5
      · have hp : purge1 c n a = some a := by unfold purge1; rw [decide_eq_true k5]; rfl
        rw [decide_eq_true k5]
        refine ⟨_, rfl, ⟨by simp only; omega, by simp only; omega, ?_⟩, by simp only; omega⟩
        rw [htk, hp, app_eq]; rfl
      · by_cases k7 : a.1 = 7
        · have hp : purge1 c n a = some a := by unfold purge1; rw [decide_eq_true k7, Bool.or_true]; rfl
          rw [decide_eq_false k5, decide_eq_true k7]
          refine ⟨_, rfl, ⟨by simp only; omega, by simp only; omega, ?_⟩, by simp only; omega⟩
          rw [htk, hp, app_eq]; rfl
        · rw [decide_eq_false k5, decide_eq_false k7]
          by_cases k6 : a.1 = 6
          · have hp : purge1 c n a = some (withKeep a (zeroed c n a.2.2.2.2.2.1)) := by unfold purge1; rw [decide_eq_false k5, decide_eq_false k7, decide_eq_true k6]; rfl
            rw [decide_eq_true k6]
            have hz' : loopR (r21_L0 a (c, n, l)) ((), 0, a.1, a.2.1, a.2.2.1, a.2.2.2.1, a.2.2.2.2.1, a.2.2.2.2.2.1, a.2.2.2.2.2.2.1.1, a.2.2.2.2.2.2.1.2.1, a.2.2.2.2.2.2.1.2.2.1, a.2.2.2.2.2.2.1.2.2.2.1, a.2.2.2.2.2.2.1.2.2.2.2, a.2.2.2.2.2.2.2) = some (flat (withKeep a (zeroed c n a.2.2.2.2.2.1))) := hz
            simp only [cond_false, cond_true, Option.bind_some, hz']
            refine ⟨_, rfl, ⟨by simp only; omega, by simp only; omega, ?_⟩, by simp only; omega⟩
            rw [htk, hp, app_eq]; rfl
          · rw [decide_eq_false k6]
            simp only [cond_false]
            cases hh : hides c n a.2.2.2.1 with
            | true =>
              have hp : purge1 c n a = none := by unfold purge1; rw [decide_eq_false k5, decide_eq_false k7, decide_eq_false k6, hh]; rfl
              refine ⟨_, rfl, ⟨by simp only; omega, by simp only; omega, ?_⟩, by simp only; omega⟩
              rw [htk, hp]; simp
            | false =>
              have hp : purge1 c n a = some a := by unfold purge1; rw [decide_eq_false k5, decide_eq_false k7, decide_eq_false k6, hh]; rfl
              refine ⟨_, rfl, ⟨by simp only; omega, by simp only; omega, ?_⟩, by simp only; omega⟩
              rw [htk, hp, app_eq]; rfl
    · rw [decide_eq_false k]
      refine .inr ⟨_, rfl, ?_⟩
      rw [i2, List.take_of_length_le (by omega)]) ((), 0, []) ⟨by simp, by simp, by simp⟩
  unfold r21
  simp only [check_ok hc, Option.bind_some, place_is, hn, h1, h2]
  rfl

theorem sameInts_refl {k : List Int} (hk : k.length ≤ 1000) : r32 (k, k) = some true := by
  obtain ⟨r, h1, h2⟩ := loop_rule (body := r32_L0 (k, k)) (fun i => 0 ≤ i ∧ i ≤ k.length) (fun i => k.length - i.toNat) (fun r => r = .inl ()) (fun i hi => by
    unfold r32_L0
    simp only
    by_cases c : i < k.length
    · obtain ⟨x, e1, e2⟩ := idxI_is hi.1 c
      have hw : Go.IntKind.wrap .i64 (i + 1) = i + 1 := wrap_i64 (by unfold i64; omega)
      rw [decide_eq_true c, e1, hw]
      exact .inl ⟨i + 1, by simp, ⟨by omega, by omega⟩, by omega⟩
    · rw [decide_eq_false c]
      exact .inr ⟨_, rfl, rfl⟩) 0 ⟨by omega, by omega⟩
  unfold r32
  simp [h1, h2]

theorem sameActs_refl {l : List Act} (hl : l.length ≤ 1000) (hk : ∀ a ∈ l, a.2.2.2.2.2.1.length ≤ 1000) : r23 (l, l) = some true := by
  obtain ⟨r, h1, h2⟩ := loop_rule (body := r23_L0 (l, l)) (fun i => 0 ≤ i ∧ i ≤ l.length) (fun i => l.length - i.toNat) (fun r => r = .inl ()) (fun i hi => by
    unfold r23_L0
    simp only
    by_cases c : i < l.length
    · obtain ⟨x, e1, e2⟩ := idxI_is hi.1 c
      have hw : Go.IntKind.wrap .i64 (i + 1) = i + 1 := wrap_i64 (by unfold i64; omega)
      rw [decide_eq_true c, e1, hw]
      exact .inl ⟨i + 1, by simp [sameInts_refl (hk x (List.mem_of_getElem? e2))], ⟨by omega, by omega⟩, by omega⟩
    · rw [decide_eq_false c]
      exact .inr ⟨_, rfl, rfl⟩) 0 ⟨by omega, by omega⟩
  unfold r23
  simp [h1, h2]

theorem seen_is {c : Cfg} (hc : CfgOk c) {a b : Int} (ha : placed c a = true) (hb : placed c b = true) : r22 (c, a, b) = some (above (labAt c a) (labAt c b)) := by
  have : r31 (c, a, b) = some (above (labAt c a) (labAt c b), 0) := by
    unfold r31
    simp only [check_ok hc, Option.bind_some, place_is, ha, hb, at_is ha, at_is hb, above_is]
    rfl
  unfold r22
  simp only [this, Option.bind_some]
  cases above (labAt c a) (labAt c b) <;> rfl

theorem labAt_ok {c : Cfg} (hc : CfgOk c) {i : Int} (h : placed c i = true) : LabOk (labAt c i) := by
  have := at_is h
  obtain ⟨h0, h1⟩ := placed_iff.1 h
  obtain ⟨x, e1, e2⟩ := idxI_is h0 h1
  rw [e1, Option.some.injEq] at this
  rw [← this]
  exact hc.lab x (List.mem_of_getElem? e2)

theorem zeroed_length (c : Cfg) (n : Int) (k : List Int) : (zeroed c n k).length = k.length := by simp [zeroed]

/-- Who dominates less sees what it sees of what the higher one sees. -/
theorem purge_more {c : Cfg} (hc : CfgOk c) {x y : Int} (hx : placed c x = true) (hy : placed c y = true) (h : above (labAt c x) (labAt c y) = true) (a : Act) : (purge1 c x a).bind (purge1 c y) = purge1 c y a := by
  have hh : ∀ i, hides c x i = true → hides c y i = true := by
    intro i hi
    unfold hides at hi ⊢
    simp only [Bool.and_eq_true, Bool.not_eq_true'] at hi ⊢
    refine ⟨hi.1, ?_⟩
    cases e : above (labAt c y) (labAt c i) with
    | false => rfl
    | true =>
      have := above_trans (labAt_ok hc hx) (labAt_ok hc hy) (labAt_ok hc hi.1) h e
      rw [hi.2] at this; cases this
  by_cases k5 : a.1 = 5
  · have hp : ∀ n, purge1 c n a = some a := fun n => by unfold purge1; rw [decide_eq_true k5]; rfl
    rw [hp, Option.bind_some]
  by_cases k7 : a.1 = 7
  · have hp : ∀ n, purge1 c n a = some a := fun n => by unfold purge1; rw [decide_eq_true k7, Bool.or_true]; rfl
    rw [hp, Option.bind_some]
  by_cases k6 : a.1 = 6
  · have hp : ∀ n (b : Act), b.1 = 6 → purge1 c n b = some (withKeep b (zeroed c n b.2.2.2.2.2.1)) := fun n b hb => by
      unfold purge1; rw [decide_eq_false (by omega : ¬ b.1 = 5), decide_eq_false (by omega : ¬ b.1 = 7), decide_eq_true hb]; rfl
    rw [hp x a k6, Option.bind_some, hp y (withKeep a (zeroed c x a.2.2.2.2.2.1)) k6, hp y a k6]
    congr 1
    have : zeroed c y (zeroed c x a.2.2.2.2.2.1) = zeroed c y a.2.2.2.2.2.1 := by
      unfold zeroed
      apply List.ext_getElem?
      intro j
      simp only [List.getElem?_mapIdx, Option.map_map]
      congr 1
      funext v
      simp only [Function.comp]
      cases e : hides c x j with
      | true => rw [hh _ e]; rfl
      | false => rfl
    show withKeep a (zeroed c y (zeroed c x a.2.2.2.2.2.1)) = _
    rw [this]
  · have hp : ∀ n, purge1 c n a = bif hides c n a.2.2.2.1 then none else some a := fun n => by
      unfold purge1; rw [decide_eq_false k5, decide_eq_false k7, decide_eq_false k6]; rfl
    rw [hp x, hp y]
    cases e : hides c x a.2.2.2.1 with
    | true => rw [hh _ e]; rfl
    | false =>
      simp only [cond_false, Option.bind_some]
      rw [hp y]

theorem keep_small {c : Cfg} (hc : CfgOk c) {x : Act} (h : ActOk c x) : x.2.2.2.2.2.1.length ≤ 1000 := by
  have := h.kl
  have := hc.l1
  omega

theorem purge1_keep {c : Cfg} {n : Int} {a b : Act} (h : purge1 c n a = some b) : b.2.2.2.2.2.1.length = a.2.2.2.2.2.1.length ∧ b.1 = a.1 ∧ b.2.2.2.1 = a.2.2.2.1 := by
  unfold purge1 at h
  cases e1 : decide (a.1 = 5) || decide (a.1 = 7) with
  | true => rw [e1] at h; simp only [cond_true, Option.some.injEq] at h; rw [← h]; exact ⟨rfl, rfl, rfl⟩
  | false =>
    rw [e1] at h
    cases e2 : decide (a.1 = 6) with
    | true => rw [e2] at h; simp only [cond_true, cond_false, Option.some.injEq] at h; rw [← h]; exact ⟨zeroed_length _ _ _, rfl, rfl⟩
    | false =>
      rw [e2] at h
      cases e3 : hides c n a.2.2.2.1 with
      | true => rw [e3] at h; cases h
      | false => rw [e3] at h; simp only [cond_false, Option.some.injEq] at h; rw [← h]; exact ⟨rfl, rfl, rfl⟩

theorem purged_small {c : Cfg} {n : Int} {l : List Act} (hk : ∀ a ∈ l, a.2.2.2.2.2.1.length ≤ 1000) : ∀ a ∈ l.filterMap (purge1 c n), a.2.2.2.2.2.1.length ≤ 1000 := by
  intro a ha
  obtain ⟨b, h1, h2⟩ := List.mem_filterMap.1 ha
  rw [(purge1_keep h2).1]
  exact hk b h1

theorem purged_twice {c : Cfg} (hc : CfgOk c) {x y : Int} (hx : placed c x = true) (hy : placed c y = true) (h : above (labAt c x) (labAt c y) = true) (l : List Act) : (l.filterMap (purge1 c x)).filterMap (purge1 c y) = l.filterMap (purge1 c y) := by
  rw [List.filterMap_filterMap]
  congr 1
  funext a
  exact purge_more hc hx hy h a

theorem picked_placed {c : Cfg} (hc : CfgOk c) {k : Int} (hk : i64 k) : ∃ n, r18 (k, (c.2.1.length : Int)) = some n ∧ placed c n = true := by
  have l0 := hc.l0
  obtain ⟨n, e1, e2, e3⟩ := picked_is (m := (c.2.1.length : Int)) hk (by omega)
  exact ⟨n, e1, placed_iff.2 ⟨e2, e3⟩⟩

theorem purgeMore {a : Int × (List Int × (Int × (List Raw × (Int × Int))))} (h : ints (a.1, a.2.1, a.2.2.1)) (hr : ∀ b ∈ a.2.2.2.1, RawOk b) (hl : a.2.2.2.1.length ≤ 9223372036854775807) (h1 : i64 a.2.2.2.2.1) (h2 : i64 a.2.2.2.2.2) : r10 a = some true := by
  obtain ⟨c, e1, hc⟩ := cfg_is h.1 h.2.1 h.2.2.1 h.2.2.2
  obtain ⟨x, e2, hx⟩ := picked_placed hc h1
  obtain ⟨y, e3, hy⟩ := picked_placed hc h2
  obtain ⟨l, e4, l1, l2⟩ := acts_is hc hr hl (most := 30) (force := true) (by omega) (by omega)
  have hk : ∀ a ∈ l, a.2.2.2.2.2.1.length ≤ 1000 := fun a ha => keep_small hc (l2 a ha)
  have hf : ∀ n, (l.filterMap (purge1 c n)).length ≤ 1000 := fun n => Nat.le_trans (List.length_filterMap_le _ _) (by omega)
  unfold r10
  simp only [e1, e2, e3, e4, Option.bind_some, seen_is hc hx hx, seen_is hc hx hy, above_refl (labAt_ok hc hx), Bool.not_true, cond_false]
  cases hs : above (labAt c x) (labAt c y) with
  | false => rfl
  | true =>
    simp only [Bool.not_true, cond_false, purge_is hc hx (l := l) (by omega) hk, purge_is hc hy (l := l) (by omega) hk, purge_is hc hy (hf x) (purged_small hk), Option.bind_some, purged_twice hc hx hy hs,
      sameActs_refl (hf y) (purged_small hk), decide_true, cond_true]

theorem purgeTwice {a : Int × (List Int × (Int × (List Raw × Int)))} (h : ints (a.1, a.2.1, a.2.2.1)) (hr : ∀ b ∈ a.2.2.2.1, RawOk b) (hl : a.2.2.2.1.length ≤ 9223372036854775807) (h1 : i64 a.2.2.2.2) : r9 a = some true := by
  obtain ⟨c, e1, hc⟩ := cfg_is h.1 h.2.1 h.2.2.1 h.2.2.2
  obtain ⟨x, e2, hx⟩ := picked_placed hc h1
  obtain ⟨l, e4, l1, l2⟩ := acts_is hc hr hl (most := 30) (force := true) (by omega) (by omega)
  have hk : ∀ a ∈ l, a.2.2.2.2.2.1.length ≤ 1000 := fun a ha => keep_small hc (l2 a ha)
  have hf : ∀ n, (l.filterMap (purge1 c n)).length ≤ 1000 := fun n => Nat.le_trans (List.length_filterMap_le _ _) (by omega)
  have hnone : r21 (c, (c.2.1.length : Int), []) = some ([], 6) := by
    have hp : placed c (c.2.1.length : Int) = false := by
      unfold placed; rw [decide_eq_false (by omega : ¬ (c.2.1.length : Int) < c.2.1.length), Bool.and_false]
    unfold r21
    simp only [check_ok hc, Option.bind_some, place_is, hp]
    rfl
  obtain ⟨r, h3, h4⟩ := loop_rule (body := r9_L0 (l.filterMap (purge1 c x), 0) c x) (fun i => 0 ≤ i ∧ i ≤ (l.filterMap (purge1 c x)).length) (fun i => (l.filterMap (purge1 c x)).length - i.toNat) (fun r => r = .inl ()) (fun i hi => by
    have hfx := hf x
    generalize hL : l.filterMap (purge1 c x) = L at hi hfx
    unfold r9_L0
    simp only
    by_cases k : i < L.length
    · obtain ⟨b, g1, g2⟩ := idxN_is (xs := L) (n := i.toNat) (by omega)
      have hw : Go.IntKind.wrap .i64 (i + 1) = i + 1 := wrap_i64 (by unfold i64; omega)
      have hb := List.mem_of_getElem? g2
      rw [← hL] at hb
      obtain ⟨b0, m1, m2⟩ := List.mem_filterMap.1 hb
      have hok := l2 b0 m1
      refine .inl ⟨i + 1, ?_, ⟨by omega, by omega⟩, by omega⟩
      rw [decide_eq_true k, inB_true hi.1 k, g1, hw]
      by_cases k5 : b.1 = 5
      · simp [k5]
      by_cases k7 : b.1 = 7
      · simp [k7]
      by_cases k6 : b.1 = 6
      · simp [k6]
      have hk0 := (purge1_keep m2).2
      have hpl : placed c b.2.2.2.1 = true := by rw [hk0.2]; exact placed_iff.2 ⟨hok.l0, hok.l1⟩
      have hsee : above (labAt c x) (labAt c b.2.2.2.1) = true := by
        unfold purge1 at m2
        rw [decide_eq_false (by rw [← hk0.1]; exact k5 : ¬ b0.1 = 5), decide_eq_false (by rw [← hk0.1]; exact k7 : ¬ b0.1 = 7), decide_eq_false (by rw [← hk0.1]; exact k6 : ¬ b0.1 = 6)] at m2
        simp only [Bool.or_self, cond_false] at m2
        cases hh : hides c x b0.2.2.2.1 with
        | true => rw [hh] at m2; cases m2
        | false =>
          rw [← hk0.2] at hh
          unfold hides at hh
          rw [hpl] at hh
          simpa using hh
      simp [k5, k6, k7, seen_is hc hx hpl, hsee]
    · rw [decide_eq_false k]
      exact .inr ⟨_, rfl, rfl⟩) 0 ⟨by omega, by omega⟩
  unfold r9
  simp only [e1, e2, e4, Option.bind_some, purge_is hc hx (l := l) (by omega) hk, purge_is hc hx (hf x) (purged_small hk), purged_twice hc hx hx (above_refl (labAt_ok hc hx)), hnone, sameActs_refl (hf x) (purged_small hk), h3, h4]
  simp

def four : List (Int × Int) := [(0, 0), (0, 1), (2, 2), (2, 3)]

theorem cfg_four {s p : Int} (h1 : i64 s) (h3 : i64 p) : ∃ u v, r16 (s, [(0 : Int), (3 : Int), (8 : Int), (11 : Int)], p) = some (u, four, v) ∧ CfgOk (u, four, v) := by
  obtain ⟨x, e1, e2, e3⟩ := picked_is (m := 3) h1 (by omega)
  obtain ⟨y, e4, e5, e6⟩ := picked_is (m := 4) h3 (by omega)
  have w1 : Go.IntKind.wrap .i64 (1 + x) = 1 + x := wrap_i64 (by unfold i64; omega)
  have w2 : Go.IntKind.wrap .i64 (1 + y) = 1 + y := wrap_i64 (by unfold i64; omega)
  have b0 : r12 0 = some (0, 0) := by kernel_rfl
  have b1 : r12 3 = some (0, 1) := by kernel_rfl
  have b2 : r12 8 = some (2, 2) := by kernel_rfl
  have b3 : r12 11 = some (2, 3) := by kernel_rfl
  obtain ⟨r, h4, h5⟩ := loop_rule (body := r16_L1 (s, [(0 : Int), (3 : Int), (8 : Int), (11 : Int)], p)) (fun d => ∃ i : Nat, i ≤ 4 ∧ d = ((), ((i : Int), 1 + x, four.take i, 1 + y))) (fun d => 4 - d.2.1.toNat) (fun r => r = ((), 1 + x, four, 1 + y)) (fun d hd => by
    obtain ⟨i, i1, rfl⟩ := hd
    have hi : i = 0 ∨ i = 1 ∨ i = 2 ∨ i = 3 ∨ i = 4 := by omega
    unfold r16_L1
    rcases hi with rfl | rfl | rfl | rfl | rfl
    · refine .inl ⟨((), (1, 1 + x, four.take 1, 1 + y)), ?_, ⟨1, by omega, rfl⟩, by simp⟩
      have ht := there_is (d := ((), (0, 1 + x, four.take 0, 1 + y))) (l := (0, 0)) (by simp [four])
      simp [idxI, idxN, b0, four] at ht ⊢
      rw [ht]
      rfl
    · refine .inl ⟨((), (2, 1 + x, four.take 2, 1 + y)), ?_, ⟨2, by omega, rfl⟩, by simp⟩
      have ht := there_is (d := ((), (1, 1 + x, four.take 1, 1 + y))) (l := (0, 1)) (by simp [four])
      simp [idxI, idxN, b1, four] at ht ⊢
      rw [ht]
      rfl
    · refine .inl ⟨((), (3, 1 + x, four.take 3, 1 + y)), ?_, ⟨3, by omega, rfl⟩, by simp⟩
      have ht := there_is (d := ((), (2, 1 + x, four.take 2, 1 + y))) (l := (2, 2)) (by simp [four])
      simp [idxI, idxN, b2, four] at ht ⊢
      rw [ht]
      rfl
    · refine .inl ⟨((), (4, 1 + x, four.take 4, 1 + y)), ?_, ⟨4, by omega, rfl⟩, by simp⟩
      have ht := there_is (d := ((), (3, 1 + x, four.take 3, 1 + y))) (l := (2, 3)) (by simp [four])
      simp [idxI, idxN, b3, four] at ht ⊢
      rw [ht]
      rfl
    · exact .inr ⟨((), 1 + x, four, 1 + y), by simp [four], rfl⟩) ((), 0, 1 + x, [], 1 + y) ⟨0, by omega, rfl⟩
  refine ⟨1 + x, 1 + y, ?_, ?_⟩
  · unfold r16
    simp only [e1, e4, w1, w2, Option.bind_some, h4, h5]
    rfl
  · constructor <;> simp only [four] <;> first | omega | decide | (intro l hl; simp only [List.mem_cons, List.not_mem_nil, or_false] at hl; rcases hl with rfl | rfl | rfl | rfl <;> (unfold LabOk; decide))

theorem purgeAll {a : Int × (List Raw × Int)} (h1 : i64 a.1) (h2 : i64 a.2.2) (hr : ∀ b ∈ a.2.1, RawOk b) (hl : a.2.1.length ≤ 9223372036854775807) : r8 a = some true := by
  obtain ⟨u, v, e1, hc⟩ := cfg_four h1 h2
  obtain ⟨l, e4, l1, l2⟩ := acts_is hc hr hl (most := 30) (force := true) (by omega) (by omega)
  have hk : ∀ a ∈ l, a.2.2.2.2.2.1.length ≤ 1000 := fun a ha => keep_small hc (l2 a ha)
  have hx : placed (u, four, v) 3 = true := by rfl
  have hall : ∀ i, hides (u, four, v) 3 i = false := by
    intro i
    unfold hides
    cases e : placed (u, four, v) i with
    | false => rfl
    | true =>
      obtain ⟨g0, g1⟩ := placed_iff.1 e
      have : i = 0 ∨ i = 1 ∨ i = 2 ∨ i = 3 := by simp only [four, List.length_cons, List.length_nil] at g1; omega
      have q0 : labAt (u, four, v) 0 = (0, 0) := rfl
      have q1 : labAt (u, four, v) 1 = (0, 1) := rfl
      have q2 : labAt (u, four, v) 2 = (2, 2) := rfl
      have q3 : labAt (u, four, v) 3 = (2, 3) := rfl
      rcases this with rfl | rfl | rfl | rfl
      · rw [q0, q3]; decide +kernel
      · rw [q1, q3]; decide +kernel
      · rw [q2, q3]; decide +kernel
      · rw [q3]; decide +kernel
  have hp : ∀ a, purge1 (u, four, v) 3 a = some a := by
    intro a
    unfold purge1
    cases decide (a.1 = 5) || decide (a.1 = 7) with
    | true => rfl
    | false =>
      cases decide (a.1 = 6) with
      | true =>
        have : zeroed (u, four, v) 3 a.2.2.2.2.2.1 = a.2.2.2.2.2.1 := by
          unfold zeroed
          apply List.ext_getElem?
          intro j
          simp [hall]
        rw [this]; rfl
      | false => rw [hall]; rfl
  have hfm : l.filterMap (purge1 (u, four, v) 3) = l := by
    have : purge1 (u, four, v) 3 = some := funext hp
    rw [this, List.filterMap_some]
  obtain ⟨r, h3, h4⟩ := loop_rule (body := r8_L0 (u, four, v)) (fun i => 0 ≤ i ∧ i ≤ 3) (fun i => 3 - i.toNat) (fun r => r = .inl ()) (fun i hi => by
    unfold r8_L0
    by_cases k : i < 3
    · have hpi : placed (u, four, v) i = true := placed_iff.2 ⟨hi.1, by simp only [four, List.length_cons, List.length_nil]; omega⟩
      have hsee : above (labAt (u, four, v) 3) (labAt (u, four, v) i) = true := by
        have := hall i
        unfold hides at this
        rw [hpi] at this
        simpa using this
      have hw : Go.IntKind.wrap .i64 (i + 1) = i + 1 := wrap_i64 (by unfold i64; omega)
      refine .inl ⟨i + 1, ?_, ⟨by omega, by omega⟩, by omega⟩
      rw [decide_eq_true k, seen_is hc hx hpi, hsee, hw]
      rfl
    · rw [decide_eq_false k]
      exact .inr ⟨_, rfl, rfl⟩) 0 ⟨by omega, by omega⟩
  unfold r8
  simp only [e1, e4, Option.bind_some, purge_is hc hx (l := l) (by omega) hk, hfm, h3, h4, Sum.elim_inl, sameActs_refl (l := l) (by omega) hk]
  rfl

end Go.Ha
