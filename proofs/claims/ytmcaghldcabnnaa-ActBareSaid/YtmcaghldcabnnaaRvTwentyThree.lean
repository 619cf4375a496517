/- Out of a part of the code, with slots. -/
import Derived.Test.YtmcaghldcabnnaaRvTwentyTwo
import Derived.Control
namespace Go.V
open Go.RowKit

variable {α : Type}

def exEq : Exit → Exit → Bool
  | .normal, .normal => true
  | .exit a, .exit b => Nat.beq a b
  | .ret, .ret => true
  | _, _ => false

theorem exEq_eq {a b : Exit} (h : exEq a b = true) : a = b := by
  cases a <;> cases b <;> simp only [exEq, reduceCtorEq] at h
  · rfl
  · rw [Nat.eq_of_beq_eq_true h]
  · rfl

/-- A temporary that holds an owned slice, or none at all, gets its own root for it. -/
def adoptK (k : Nat) (e : Ty) (x : X) (K : X → Option α) : Option α := ((look x.env k).bind D.one).bind fun y =>
  match (match y with | .own r p _ => and (Nat.beq r k) (pathEq p [(0, 0)]) | _ => false) with
  | true => K x
  | false => takeCK x (some e) y fun t x1 => match t with
    | .sl .own e1 xs => match e1.beq e with
      | true => (x1.hang k [.sl .own e1 xs]).bind fun x2 => K { x2 with env := (k, .v (.c (.own k [(0, 0)] e))) :: x2.env }
      | false => none
    | _ => none

def adoptsK : List (Nat × Ty) → X → (X → Option α) → Option α
  | [], x, K => K x
  | e :: l, x, K => adoptK e.1 e.2 x fun x1 => adoptsK l x1 K

structure Out where
  ex : Exit
  ad : List (Nat × Ty)
  sh : List Slot

def outTy : List Out → Ty
  | [] => .unit
  | [o] => shTy o.sh
  | o :: p :: l => .sum (shTy o.sh) (outTy (p :: l))

def lockIn : List (Nat × List Nat) → Nat → List Nat → Bool
  | [], _, _ => false
  | e :: l, r, d => match and (Nat.beq e.1 r) (and (pre e.2 d) (pre d e.2)) with
    | true => true
    | false => lockIn l r d

theorem pre_anti : ∀ {l m : List Nat}, pre l m = true → pre m l = true → l = m
  | [], [], _, _ => rfl
  | [], _ :: _, _, h => by simp [pre] at h
  | _ :: _, [], h, _ => by simp [pre] at h
  | a :: l, b :: m, h1, h2 => by
    simp only [pre] at h1 h2
    split at h1
    · rename_i e
      have e := Nat.eq_of_beq_eq_true e
      split at h2
      · rw [pre_anti h1 h2, e]
      · cases h2
    · cases h1

theorem lockIn_mem : ∀ {l : List (Nat × List Nat)} {r : Nat} {d : List Nat}, lockIn l r d = true → (r, d) ∈ l
  | [], r, d, h => by cases h
  | e :: l, r, d, h => by
    unfold lockIn at h
    split at h
    · rename_i hb
      simp only [Bool.and_eq_true] at hb
      have h1 := Nat.eq_of_beq_eq_true hb.1
      have h2 := pre_anti hb.2.1 hb.2.2
      obtain ⟨e1, e2⟩ := e
      simp only at h1 h2
      subst h1 h2
      exact List.mem_cons_self
    · exact List.mem_cons_of_mem _ (lockIn_mem h)

def okOut (x : X) (kt kr : List Nat) (sh : List Slot) (x2 : X) : Bool :=
  and (allB (fun r => lockIn x2.lock r []) kr) (and (allB (fun k => mem x2.pin k) kt) (and (allB (fun e : Nat × List Nat => lockIn x2.lock e.1 e.2) x.lock) (and (allB (fun k => mem x2.pin k) x.pin)
    (and (allB (fun k => !(mem kr k)) (rootsOf sh)) (allB (fun e : Nat × List Nat => mem (app (rootsOf sh) kr) e.1) x.lock)))))

def pack1 (x : X) (kt kr : List Nat) (o : Out) (e : Exit) (x2 : X) : Option (den (shTy o.sh)) := match exEq e o.ex with
  | true => adoptsK o.ad x2 fun x3 => match okOut x kt kr o.sh x3 with
    | true => (matchX o.sh x3).bind fun d => match allB (fun e : Nat × D => atsIn (app (rootsOf o.sh) kr) e.2) (fillE o.sh d) with
      | true => some d
      | false => none
    | false => none
  | false => none

def packK (x : X) (kt kr : List Nat) : (l : List Out) → Exit → X → Option (den (outTy l))
  | [], _, _ => none
  | [o], e, x2 => pack1 x kt kr o e x2
  | o :: p :: l, e, x2 => match exEq e o.ex with
    | true => (pack1 x kt kr o e x2).map Sum.inl
    | false => (packK x kt kr (p :: l) e x2).map Sum.inr

def unpackK (x : X) (mu kt kr : List Nat) : (l : List Out) → den (outTy l) → (Exit → X → Option α) → Option α
  | [], _, _ => none
  | [o], d, K => K o.ex (x.leave mu kt kr (fillE o.sh d) (fillR o.sh d))
  | o :: p :: l, d, K => Sum.elim (fun d => K o.ex (x.leave mu kt kr (fillE o.sh d) (fillR o.sh d))) (fun d => unpackK x mu kt kr (p :: l) d K) d

section
variable {c : Ctx} {B : Base} {s : Sit} {x : X} {a : Act} {w : World}

/-- What a temporary holds is said anew. -/
theorem RelW.reput (h : RelW B s x a w) {k : Nat} {d : D} {v : Value} (hk : B.tv a k = some v) (hv : RepD w s d v) : RelW B s { x with env := (k, d) :: x.env } a w :=
  { h with
    env := by
      intro j d' hj
      rw [look_cons] at hj
      by_cases e : j = k
      · subst e
        simp only [if_true, Option.some.injEq] at hj
        subst hj
        exact ⟨v, hk, hv⟩
      · rw [if_neg e] at hj
        exact h.env j d' hj }

theorem sl_lay {S : Fl → Nat → Prop} {e : Ty} {xs : List (den e)} {v : Value} {ψ : Lay} (h : RepO w S (.sl .own e xs) v ψ) : ψ [] = some v := by
  cases h with
  | sh _ _ _ ht => simp [T.isSh] at ht
  | nil e ad φ h0 hn => exact h0
  | sl e xs b off cap arr el vs φ hb hcap hsz hc hr h0 hn => exact h0
  | box _ cs ht => simp [T.box?] at ht

theorem adopt_sound (h : RelW B s x a w) {k : Nat} {e : Ty} {K : X → Option α} {q : α} (he : adoptK k e x K = some q) : ∃ x' s', K x' = some q ∧ RelW B s' x' a w := by
  unfold adoptK at he
  obtain ⟨y, h0, he⟩ := Option.bind_eq_some_iff.mp he
  obtain ⟨d, h1, h2⟩ := Option.bind_eq_some_iff.mp h0
  have h2 := D.one_some h2
  subst h2
  obtain ⟨v, hk, hv⟩ := h.env k _ h1
  have hv' : RepC w s y v := by cases hv with | v _ _ hv => cases hv with | c _ _ hv => exact hv
  split at he
  · exact ⟨x, s, he, h⟩
  · obtain ⟨t, x1, s1, ψ, hK, tc⟩ := takeC_sound h hv' he
    split at hK
    · rename_i e1 xs
      split at hK
      · rename_i hb
        have hb := Ty.beq_eq hb
        obtain ⟨x2, g1, g2⟩ := Option.bind_eq_some_iff.mp hK
        have hrep := tc.rep
        rw [← tc.S] at hrep
        have hr := tc.rel.hang (hrep.inVr .nilIface) tc.out.inVr g1
        exact ⟨_, _, g2, hr.reput hk (.v _ _ (.c _ _ (.own k [(0, 0)] e v (by rw [setΦ_same]; simp only [V.inVr, and_self, if_true]; exact sl_lay hrep))))⟩
      · cases hK
    · cases hK

theorem adopts_sound : ∀ (l : List (Nat × Ty)) {s : Sit} {x : X} {K : X → Option α} {q : α}, RelW B s x a w → adoptsK l x K = some q → ∃ x' s', K x' = some q ∧ RelW B s' x' a w
  | [], s, x, K, q, h, he => ⟨x, s, he, h⟩
  | e :: l, s, x, K, q, h, he => by
    obtain ⟨x1, s1, h1, h2⟩ := adopt_sound h he
    exact adopts_sound l h2 h1

theorem pack1_sound (h : RelW B s x a w) {mu kt kr : List Nat} (hmu : B.muts = mu) {s2 : Sit} {x2 : X} {a2 : Act} {w2 : World} (h2 : RelW (B.inner s x a w) s2 x2 a2 w2) {o : Out} {e : Exit} {d : den (shTy o.sh)}
    (hp : pack1 x kt kr o e x2 = some d) : e = o.ex ∧ ∃ s', RelW B s' (x.leave mu kt kr (fillE o.sh d) (fillR o.sh d)) a2 w2 ∧ RelW (B.inner s x a w) s' ((x.leave mu kt kr (fillE o.sh d) (fillR o.sh d)).enter kt kr) a2 w2 := by
  unfold pack1 at hp
  split at hp
  · rename_i hex
    refine ⟨exEq_eq hex, ?_⟩
    obtain ⟨x3, s3, g1, g2⟩ := adopts_sound o.ad h2 hp
    split at g1
    · rename_i hok
      obtain ⟨d', g3, g4⟩ := Option.bind_eq_some_iff.mp g1
      split at g4
      · rename_i hats
        simp only [Option.some.injEq] at g4
        subst g4
        simp only [okOut, Bool.and_eq_true] at hok
        obtain ⟨k1, k2, k3, k4, k5, k6⟩ := hok
        obtain ⟨m1, m2⟩ := matchX_fill o.sh g3
        have hin : ∀ k, k ∈ app (rootsOf o.sh) kr → (look (fillR o.sh d') k).isSome = true ∨ k ∈ kr := by
          intro k hk
          rw [app_eq, List.mem_append] at hk
          rcases hk with hk | hk
          · exact .inl ((rootsOf_in o.sh d' k).1 hk)
          · exact .inr hk
        obtain ⟨s', r1⟩ := h.leave hmu g2 (fun r hr => lockIn_mem ((allB_iff _ _).1 k1 r hr)) (fun k hk => (mem_iff _ _).1 ((allB_iff _ _).1 k2 k hk)) (fun e he => lockIn_mem ((allB_iff _ _).1 k3 e he))
          (fun k hk => (mem_iff _ _).1 ((allB_iff _ _).1 k4 k hk)) (E := fillE o.sh d') (R := fillR o.sh d')
          (fun k d0 hd => ⟨m1 k d0 hd, fun rp hrp => by
            have hmem : (k, d0) ∈ fillE o.sh d' := by
              revert hd
              generalize fillE o.sh d' = E
              intro hd
              induction E with
              | nil => cases hd
              | cons e0 E ih =>
                obtain ⟨k0, d1⟩ := e0
                rw [look_cons] at hd
                by_cases hkk : k = k0
                · rw [if_pos hkk, Option.some.injEq] at hd
                  subst hkk hd
                  exact List.mem_cons_self
                · rw [if_neg hkk] at hd
                  exact List.mem_cons_of_mem _ (ih hd)
            exact hin _ (atsIn_spec ((allB_iff _ _).1 hats _ hmem) rp hrp)⟩)
          (fun k r hr => ⟨m2 k r hr, fun hkr => by
            have hk : k ∈ rootsOf o.sh := (rootsOf_in o.sh d' k).2 (by rw [hr]; rfl)
            have := (allB_iff _ _).1 k5 k hk
            rw [(mem_iff _ _).2 hkr] at this
            cases this⟩)
          (fun e he => hin _ ((mem_iff _ _).1 ((allB_iff _ _).1 k6 e he)))
        exact ⟨s', r1⟩
      · cases g4
    · cases g1
  · cases hp

theorem out_sound (h : RelW B s x a w) {mu kt kr : List Nat} (hmu : B.muts = mu) {s2 : Sit} {x2 : X} {a2 : Act} {w2 : World} (h2 : RelW (B.inner s x a w) s2 x2 a2 w2) {e : Exit} {K : Exit → X → Option α} {q : α} :
    ∀ (l : List Out) {d : den (outTy l)}, packK x kt kr l e x2 = some d → unpackK x mu kt kr l d K = some q → ∃ x' s', K e x' = some q ∧ RelW B s' x' a2 w2
  | [], d, hp, hu => by cases hp
  | [o], d, hp, hu => by
    obtain ⟨e1, s', r1, -⟩ := pack1_sound h hmu h2 hp
    subst e1
    exact ⟨_, s', hu, r1⟩
  | o :: p :: l, d, hp, hu => by
    unfold packK at hp
    split at hp
    · obtain ⟨d', h3, h4⟩ := Option.map_eq_some_iff.mp hp
      subst h4
      obtain ⟨e1, s', r1, -⟩ := pack1_sound h hmu h2 h3
      subst e1
      exact ⟨_, s', hu, r1⟩
    · obtain ⟨d', h3, h4⟩ := Option.map_eq_some_iff.mp hp
      subst h4
      exact out_sound h hmu h2 (p :: l) h3 hu

/-- Before a part of the code is run: what is owned is shared for good. -/
def freezesK : List (Nat × Path) → X → (X → Option α) → Option α
  | [], x, K => K x
  | e :: l, x, K => freezeK x e.1 e.2 fun _ x1 => freezesK l x1 K

theorem freezes_sound : ∀ (l : List (Nat × Path)) {s : Sit} {x : X} {K : X → Option α} {q : α}, RelW B s x a w → freezesK l x K = some q → ∃ x' s', K x' = some q ∧ RelW B s' x' a w
  | [], s, x, K, q, h, he => ⟨x, s, he, h⟩
  | e :: l, s, x, K, q, h, he => by
    obtain ⟨t, x1, s1, h1, h2⟩ := freeze_sound h he
    exact freezes_sound l h2.rel h1

end
end Go.V
