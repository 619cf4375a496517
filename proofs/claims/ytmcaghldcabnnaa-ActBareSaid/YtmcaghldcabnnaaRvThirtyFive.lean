/- An operation by itself: it sees some roots and alters none. -/
import Derived.Test.YtmcaghldcabnnaaRvThirtyFour
namespace Go.V
open Go.RowKit

/-- What an operation sees. -/
def framed (x : X) : X := { env := mapS (limD (keysOf x.roots)) x.env, roots := x.roots, lock := lockAll (keysOf x.roots) [], pin := [], dirt := [] }

section
variable {c : Ctx} {B : Base} {s : Sit} {x y : X} {a : Act} {w : World}

def Base.frame (B : Base) (s : Sit) (x : X) (a : Act) (w : World) : Base where
  nt := B.nt
  out := B.out
  w0 := w
  O0 := fun b => ∃ r p y, (hideS s x.roots).Φ r p = some y ∧ blkOf y = some b
  R0 := s.S .ro
  B0 := s.S .bo
  G := B.G
  F := B.F
  muts := []
  Φ0 := s.Φ
  LC := fun r d => x.at r (zp d)
  LΦ := fun r d => ((hideS s x.roots).Φ r).under (zp d)
  PV := fun k => (B.tv a k).getD .nilIface

theorem RelW.framed (h : RelW B s y a w) (hle : LeX x y) : RelW (B.frame s x a w) (hideS s x.roots) (framed x) a w where
  defers := h.defers
  size := h.size
  env := fun k d hd => by
    simp only [V.framed, look_mapS] at hd
    obtain ⟨d0, h1, rfl⟩ := Option.map_eq_some_iff.mp hd
    obtain ⟨v, g1, g2⟩ := h.env k d0 (hle.env k d0 h1)
    refine ⟨v, g1, ?_⟩
    unfold limD
    split
    · rename_i e
      refine g2.mono (fun _ _ _ => rfl) (fun _ _ h => h) rfl (fun rp hrp => congrFun (hide_in ?_) rp.2)
      obtain ⟨row, hrow⟩ := keysOf_look.1 (atsIn_spec e rp hrp)
      rw [hrow]; rfl
    · exact .v _ _ (.c _ _ (.k _ _ (.dead v)))
  roots := fun r row hr => by
    obtain ⟨z, hz⟩ := h.roots r row (hle.roots r row hr)
    have hr : look x.roots r = some row := hr
    exact ⟨z, by rw [hide_in (by rw [hr]; rfl)]; exact hz⟩
  rootn := fun r hr => by
    have hr : look x.roots r = none := hr
    simp only [hideS, hr]; rfl
  inj := fun r p z r' p' z' b e1 e2 e3 e4 => h.inj _ _ _ _ _ _ _ (hide_some e1).2 e2 (hide_some e3).2 e4
  own := fun r p z b e1 e2 => by
    have := h.own r p z b (hide_some e1).2 e2
    exact ⟨this.1, this.2.1, .inl ⟨r, p, z, e1, e2⟩⟩
  slt := h.slt
  sown := h.sown
  sro := fun b hb => hb
  srn := fun b hb => .inl hb
  sbo := fun b hb => hb
  srb := h.srb
  sbn := fun b hb => .inl hb
  F := h.F
  os := rfl
  tape := rfl
  output := rfl
  grow := Nat.le_refl _
  kept := fun _ _ _ => rfl
  glob := h.glob
  pins := fun k hk => by simp [V.framed] at hk
  locks := fun r d _ => ⟨rfl, rfl⟩
  dirt := fun r hr => by simp [Base.frame] at hr

/-- The state with one more temporary told of, and perhaps one more root. -/
def X.plus (y : X) (k : Nat) (d : D) (row : Option (List T)) : X := { y with env := (k, d) :: y.env, roots := match row with | some r => (k, r) :: y.roots | none => y.roots }

theorem look_plus {y : X} {k : Nat} {d : D} {row : Option (List T)} (hk : look y.roots k = none) (r : Nat) : look (y.plus k d row).roots r = if r = k then row else look y.roots r := by
  unfold X.plus
  cases row with
  | some x => simp only [look_cons]
  | none =>
    by_cases e : r = k
    · rw [if_pos e, e]; exact hk
    · rw [if_neg e]

theorem RelW.unframed (h : RelW B s y a w) (hle : LeX x y) {k : Nat} (hkn : inFr B.nt k = true) (hkp : k ∉ y.pin) (hkr : look y.roots k = none) (hkl : lockOk y k [] = true) (hkd : (k, []) ∈ y.dirt)
    {s2 : Sit} {x2 : X} {v : Value} {w2 : World} (h2 : RelW (B.frame s x a w) s2 x2 (a.gput B k v) w2) (hlk : ∀ r ∈ keysOf x.roots, (r, []) ∈ x2.lock)
    {d : D} (hd : look x2.env k = some d) (hat : ∀ rp ∈ d.ats, rp.1 = k ∨ rp.1 ∈ keysOf x.roots) : ∃ s', RelW B s' (y.plus k d (look x2.roots k)) (a.gput B k v) w2 := by
  have hkx : ∀ r ∈ keysOf x.roots, r ≠ k := by
    intro r hr e
    obtain ⟨row, hrow⟩ := keysOf_look.1 hr
    have := hle.roots r row hrow
    rw [e, hkr] at this; cases this
  have hvis : ∀ r ∈ keysOf x.roots, (look x.roots r).isSome = true := by
    intro r hr
    obtain ⟨row, hrow⟩ := keysOf_look.1 hr
    rw [hrow]; rfl
  have hvis' : ∀ r, (look x.roots r).isSome = true → r ∈ keysOf x.roots := by
    intro r hr
    cases e : look x.roots r with
    | none => rw [e] at hr; cases hr
    | some row => exact keysOf_look.2 ⟨row, e⟩
  have hK : ∀ r ∈ keysOf x.roots, x2.at r [] = x.at r [] ∧ s2.Φ r = s.Φ r := by
    intro r hr
    obtain ⟨e1, e2⟩ := h2.locks r [] (hlk r hr)
    refine ⟨e1, ?_⟩
    rw [← hide_in (s := s) (hvis r hr)]
    funext p; have := congrFun e2 p; simpa [Lay.under, zp, Base.frame] using this
  have hrow : ∀ r ∈ keysOf x.roots, ∀ row, look x.roots r = some row → look x2.roots r = some row := by
    intro r hr row hrow
    have := (hK r hr).1
    simp only [X.at, hrow, Option.bind_some, getT] at this
    cases h3 : look x2.roots r with
    | none => rw [h3] at this; cases this
    | some row2 =>
      rw [h3, Option.bind_some, Option.some.injEq, T.vr.injEq] at this
      rw [this]
  have hΦk : s.Φ k = noLay := h.rootn k hkr
  have hO : ∀ b, (B.frame s x a w).O0 b → ∃ r p z, r ∈ keysOf x.roots ∧ s.Φ r p = some z ∧ blkOf z = some b := by
    intro b hb
    obtain ⟨r, p, z, e1, e2⟩ := hb
    exact ⟨r, p, z, hvis' r (hide_some e1).1, (hide_some e1).2, e2⟩
  have hSS : ∀ f b, s.S f b → s2.S f b := by
    intro f b hS
    cases f with
    | own => exact absurd hS (h.sown b)
    | ro => exact h2.sro b hS
    | bo => exact h2.sbo b hS
  have hwS : ∀ f b, s.S f b → w2.heap[b]? = w.heap[b]? := by
    intro f b hS
    refine h2.kept b (h.slt f b hS) (fun hb => ?_)
    obtain ⟨r, p, z, -, e1, e2⟩ := hO b hb
    exact (h.own r p z b e1 e2).1 f hS
  have hhid : ∀ r p z b, r ∉ keysOf x.roots → s.Φ r p = some z → blkOf z = some b → w2.heap[b]? = w.heap[b]? ∧ ∀ f, ¬ s2.S f b := by
    intro r p z b hr e1 e2
    obtain ⟨g1, g2, g3⟩ := h.own r p z b e1 e2
    have hnO : ¬ (B.frame s x a w).O0 b := by
      intro hb
      obtain ⟨r', p', z', m1, m2, m3⟩ := hO b hb
      obtain ⟨rfl, -⟩ := h.inj _ _ _ _ _ _ _ e1 e2 m2 m3
      exact hr m1
    have hnro : ¬ s2.S .ro b := by
      intro hS
      rcases h2.srn b hS with hS | hS | hS
      · exact g1 .ro hS
      · exact hnO hS
      · have hS : w.heap.size ≤ b := hS
        omega
    refine ⟨h2.kept b g2 hnO, fun f hS => ?_⟩
    cases f with
    | own => exact h2.sown b hS
    | ro => exact hnro hS
    | bo =>
      rcases h2.sbn b hS with hS | hS
      · exact g1 .bo hS
      · exact hnro hS
  have hnew : ∀ p z b, s2.Φ k p = some z → blkOf z = some b → w.heap.size ≤ b := by
    intro p z b e1 e2
    rcases (h2.own k p z b e1 e2).2.2 with hb | hb
    · obtain ⟨r, p', z', m1, m2, m3⟩ := hO b hb
      obtain ⟨rfl, -⟩ := h2.inj _ _ _ _ _ _ _ e1 e2 (by rw [(hK r m1).2]; exact m2) m3
      exact absurd rfl (hkx _ m1)
    · exact hb
  let s' : Sit := { s2 with Φ := fun r => if r = k then s2.Φ k else s.Φ r }
  have hΦs : s'.Φ k = s2.Φ k := by simp [s']
  have hΦn : ∀ r, r ≠ k → s'.Φ r = s.Φ r := by intro r hr; simp [s', hr]
  have hΦv : ∀ r ∈ keysOf x.roots, s'.Φ r = s2.Φ r := by intro r hr; rw [hΦn r (hkx r hr), (hK r hr).2]
  have hsz := h2.grow
  have hsz : w.heap.size ≤ w2.heap.size := hsz
  refine ⟨s', ?_⟩
  exact {
    defers := h2.defers
    size := h2.size
    env := fun j d' hj => by
      have hj : look ((k, d) :: y.env) j = some d' := hj
      rw [look_cons] at hj
      by_cases e : j = k
      · subst e
        simp only [if_true, Option.some.injEq] at hj
        subst hj
        obtain ⟨v', g1, g2⟩ := h2.env j d hd
        refine ⟨v', g1, g2.mono (fun _ _ _ => rfl) (fun _ _ h => h) rfl (fun rp hrp => ?_)⟩
        rcases hat rp hrp with e | e
        · rw [e, hΦs]
        · rw [hΦv _ e]
      · rw [if_neg e] at hj
        obtain ⟨v', g1, g2⟩ := h.env j d' hj
        refine ⟨v', by rw [tv_put_ne hkn e]; exact g1, g2.mono hwS hSS (h2.F.trans h.F.symm) (fun rp hrp => ?_)⟩
        obtain ⟨z, hz⟩ := g2.somewhere rp hrp
        have : rp.1 ≠ k := by intro e; rw [e, hΦk] at hz; cases hz
        rw [hΦn _ this]
    roots := fun r row hr => by
      rw [look_plus hkr] at hr
      split at hr
      · rename_i e
        subst e
        obtain ⟨z, hz⟩ := h2.roots r row hr
        exact ⟨z, by rw [hΦs]; exact hz⟩
      · rename_i e
        rw [hΦn r e]
        by_cases hm : r ∈ keysOf x.roots
        · obtain ⟨row', hrow'⟩ := keysOf_look.1 hm
          have h3 := hle.roots r row' hrow'
          rw [hr, Option.some.injEq] at h3
          subst h3
          obtain ⟨z, hz⟩ := h2.roots r row (hrow r hm row hrow')
          exact ⟨z, by rw [← (hK r hm).2]; exact hz⟩
        · obtain ⟨z, hz⟩ := h.roots r row hr
          exact ⟨z, hz.mono hwS hSS (fun p z b hz hbz => (hhid r p z b hm hz hbz).1)⟩
    rootn := fun r hr => by
      rw [look_plus hkr] at hr
      split at hr
      · rename_i e; subst e; rw [hΦs]; exact h2.rootn r hr
      · rename_i e; rw [hΦn r e]; exact h.rootn r hr
    inj := fun r p z r' p' z' b e1 e2 e3 e4 => by
      have key : ∀ r p z r' p' z', r = k → r' ≠ k → s'.Φ r p = some z → blkOf z = some b → s'.Φ r' p' = some z' → blkOf z' = some b → False := by
        intro r p z r' p' z' e1 e2 e3 e4 e5 e6
        subst e1
        rw [hΦs] at e3
        rw [hΦn r' e2] at e5
        have := hnew p z b e3 e4
        have := (h.own r' p' z' b e5 e6).2.1
        omega
      by_cases h3 : r = k
      · by_cases h4 : r' = k
        · rw [h3, hΦs] at e1
          rw [h4, hΦs] at e3
          have := h2.inj _ _ _ _ _ _ _ e1 e2 e3 e4
          exact ⟨h3.trans h4.symm, this.2⟩
        · exact (key r p z r' p' z' h3 h4 e1 e2 e3 e4).elim
      · by_cases h4 : r' = k
        · exact (key r' p' z' r p z h4 h3 e3 e4 e1 e2).elim
        · rw [hΦn r h3] at e1
          rw [hΦn r' h4] at e3
          exact h.inj _ _ _ _ _ _ _ e1 e2 e3 e4
    own := fun r p z b e1 e2 => by
      by_cases h3 : r = k
      · rw [h3, hΦs] at e1
        have := h2.own k p z b e1 e2
        exact ⟨this.1, this.2.1, .inr (Nat.le_trans h.grow (hnew p z b e1 e2))⟩
      · rw [hΦn r h3] at e1
        have g := h.own r p z b e1 e2
        refine ⟨fun f hS => ?_, by omega, g.2.2⟩
        by_cases hm : r ∈ keysOf x.roots
        · exact (h2.own r p z b (by rw [(hK r hm).2]; exact e1) e2).1 f hS
        · exact (hhid r p z b hm e1 e2).2 f hS
    slt := h2.slt
    sown := h2.sown
    sro := fun b hb => hSS .ro b (h.sro b hb)
    srn := fun b hb => by
      rcases h2.srn b hb with hb | hb | hb
      · exact h.srn b hb
      · obtain ⟨r, p, z, -, m2, m3⟩ := hO b hb
        exact .inr (h.own r p z b m2 m3).2.2
      · exact .inr (.inr (Nat.le_trans h.grow hb))
    sbo := fun b hb => hSS .bo b (h.sbo b hb)
    srb := h2.srb
    sbn := fun b hb => by
      rcases h2.sbn b hb with hb | hb
      · exact (h.sbn b hb).imp id (hSS .ro b)
      · exact .inr hb
    F := h2.F
    os := h2.os.trans h.os
    tape := h2.tape.trans h.tape
    output := h2.output.trans h.output
    grow := Nat.le_trans h.grow hsz
    kept := fun b e1 e2 => by
      rw [h2.kept b (Nat.lt_of_lt_of_le e1 h.grow) (fun hb => by
        obtain ⟨r, p, z, -, m2, m3⟩ := hO b hb
        rcases (h.own r p z b m2 m3).2.2 with e5 | e5
        · exact e2 e5
        · omega)]
      exact h.kept b e1 e2
    glob := h2.glob
    pins := fun j hj => by
      have hj : j ∈ y.pin := hj
      rw [tv_put_ne hkn (fun e => hkp (by rw [← e]; exact hj))]
      exact h.pins j hj
    locks := fun r d0 hd0 => by
      have hd0 : (r, d0) ∈ y.lock := hd0
      have hrk : r ≠ k := by
        intro e
        rw [e] at hd0
        have := lockOk_spec hkl hd0
        simp [pc, pre] at this
      obtain ⟨e1, e2⟩ := h.locks r d0 hd0
      refine ⟨?_, by rw [hΦn r hrk]; exact e2⟩
      rw [← e1]
      simp only [X.at, look_plus hkr, if_neg hrk]
    dirt := fun r hr p hp => by
      have hrk : r ≠ k := by
        intro e
        have := hp [] (by rw [e]; exact hkd)
        simp [pre] at this
      rw [hΦn r hrk]
      exact h.dirt r hr p hp }

theorem beqN {r k : Nat} (h : r ≠ k) : (!(Nat.beq r k)) = true := by
  cases e : Nat.beq r k with
  | true => exact absurd (Nat.eq_of_beq_eq_true e) h
  | false => rfl

/-- A root is let go. -/
def X.drop (x : X) (k : Nat) : X := match look x.roots k with
  | none => { x with env := onlyS (fun j => !(Nat.beq j k)) x.env, dirt := (k, []) :: x.dirt }
  | some _ => { x with env := onlyS (fun j => !(Nat.beq j k)) (mapS (D.kill k []) x.env), roots := onlyS (fun j => !(Nat.beq j k)) x.roots, dirt := (k, []) :: x.dirt }

theorem onlyS_sub {β : Type} {l : List (Nat × β)} {g : Nat → Bool} {j : Nat} {d : β} (h : look (onlyS g l) j = some d) : g j = true ∧ look l j = some d := by
  rw [look_onlyS] at h
  split at h
  · rename_i e; exact ⟨e, h⟩
  · cases h

theorem RelW.drop (h : RelW B s x a w) {k : Nat} (hl : lockOk x k [] = true) : ∃ s', RelW B s' (x.drop k) a w ∧ look (x.drop k).env k = none ∧ look (x.drop k).roots k = none := by
  unfold X.drop
  split
  · rename_i e
    refine ⟨s, { h with
      env := fun j d hd => h.env j d (onlyS_sub hd).2
      dirt := fun r hr p hp => h.dirt r hr p (fun d hd => hp d (List.mem_cons_of_mem _ hd)) }, ?_, e⟩
    simp only [look_onlyS, Nat.beq_refl, Bool.not_true, Bool.false_eq_true, if_false]
  · rename_i row e
    have hΦ : ∀ r p z, (setΦ s k noLay).Φ r p = some z → r ≠ k ∧ s.Φ r p = some z := by
      intro r p z hz
      by_cases e : r = k
      · subst e; rw [setΦ_same] at hz; cases hz
      · rw [setΦ_ne s _ e] at hz; exact ⟨e, hz⟩
    refine ⟨setΦ s k noLay, { h with
      env := fun j d hd => by
        obtain ⟨-, hd⟩ := onlyS_sub hd
        rw [look_mapS] at hd
        obtain ⟨d0, h1, rfl⟩ := Option.map_eq_some_iff.mp hd
        obtain ⟨v, g1, g2⟩ := h.env j d0 h1
        exact ⟨v, g1, g2.kill (fun _ _ _ => rfl) (fun _ _ h => h) rfl (fun r' p' hn => congrFun (setΦ_ne s _ (fun e => hn ⟨e, by simp [pre]⟩)) p')⟩
      roots := fun r row' hr => by
        obtain ⟨h0, hr⟩ := onlyS_sub hr
        have hrk : r ≠ k := by intro e; subst e; simp at h0
        obtain ⟨z, hz⟩ := h.roots r row' hr
        exact ⟨z, by rw [setΦ_ne s _ hrk]; exact hz⟩
      rootn := fun r hr => by
        by_cases hrk : r = k
        · subst hrk; rw [setΦ_same]
        · rw [setΦ_ne s _ hrk]
          refine h.rootn r ?_
          simp only [look_onlyS] at hr
          rw [if_pos (beqN hrk)] at hr
          exact hr
      inj := fun r p z r' p' z' b e1 e2 e3 e4 => h.inj _ _ _ _ _ _ _ (hΦ _ _ _ e1).2 e2 (hΦ _ _ _ e3).2 e4
      own := fun r p z b e1 e2 => h.own _ _ _ _ (hΦ _ _ _ e1).2 e2
      locks := fun r d hd => by
        have hrk : r ≠ k := by
          intro e
          rw [e] at hd
          have := lockOk_spec hl hd
          simp [pc, pre] at this
        obtain ⟨e1, e2⟩ := h.locks r d hd
        refine ⟨?_, by rw [setΦ_ne s _ hrk]; exact e2⟩
        rw [← e1]
        simp only [X.at, look_onlyS]
        rw [if_pos (beqN hrk)]
      dirt := fun r hr p hp => by
        have hrk : r ≠ k := by
          intro e
          have := hp [] (by rw [e]; exact List.mem_cons_self)
          simp [pre] at this
        rw [setΦ_ne s _ hrk]
        exact h.dirt r hr p (fun d hd => hp d (List.mem_cons_of_mem _ hd)) }, ?_, ?_⟩
    · simp only [look_onlyS, Nat.beq_refl, Bool.not_true, Bool.false_eq_true, if_false]
    · simp only [look_onlyS, Nat.beq_refl, Bool.not_true, Bool.false_eq_true, if_false]

end
end Go.V
